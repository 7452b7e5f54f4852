/- Lists of entries and of promises in memory, and the walks of plan.known and plan.greatest. No condition. -/
import Derived.Test.YtmmnaieikfekfaaGreatDoorMajor
import Derived.Test.YtmmnaieikfekfaaGreatDoorHeap
namespace Go.Proofs.YtmmnaieikfekfaaGreatDoor
open Go.RowKit

structure Ent where
  gen : Int
  bal : Int
  mark : ByteArray
structure Prom where
  floor : Int
  top : Int
  list : List Ent

def entVals (x : Ent) : List Value := [.int .i64 x.gen, .int .i64 x.bal, .string x.mark]
def entAgg (x : Ent) : Value := .agg #[.int .i64 x.gen, .int .i64 x.bal, .string x.mark]
def entsVals (l : List Ent) : List Value := l.flatMap entVals

def EntsAt (w : World) (ad : Option Addr) (l : List Ent) : Prop :=
  l = [] ∨ ∃ b off, ad = some ⟨b, off, none⟩ ∧ b < w.heap.size ∧ ∀ k (hk : k < l.length), w.cell? ⟨b, off + k * 3, none⟩ = some (.int .i64 l[k].gen) ∧ w.cell? ⟨b, off + k * 3 + 1, none⟩ = some (.int .i64 l[k].bal) ∧ w.cell? ⟨b, off + k * 3 + 2, none⟩ = some (.string l[k].mark)
def PromsAt (w : World) (ad : Option Addr) (l : List Prom) : Prop :=
  l = [] ∨ ∃ b off, ad = some ⟨b, off, none⟩ ∧ b < w.heap.size ∧ ∀ k (hk : k < l.length), ∃ la lc, w.cell? ⟨b, off + k * 3, none⟩ = some (.int .i64 l[k].floor) ∧ w.cell? ⟨b, off + k * 3 + 1, none⟩ = some (.int .i64 l[k].top) ∧ w.cell? ⟨b, off + k * 3 + 2, none⟩ = some (.slice la l[k].list.length lc) ∧ EntsAt w la l[k].list

theorem entsAt_below {w w' : World} {ad : Option Addr} {l : List Ent} (h : EntsAt w ad l) (hb : Below w.heap.size w w') : EntsAt w' ad l := by
  rcases h with h | ⟨b, off, h1, h2, h3⟩
  · exact Or.inl h
  · refine Or.inr ⟨b, off, h1, Nat.lt_of_lt_of_le h2 hb.size, fun k hk => ?_⟩
    rw [hb.cell (p := ⟨b, off + k * 3, none⟩) h2, hb.cell (p := ⟨b, off + k * 3 + 1, none⟩) h2, hb.cell (p := ⟨b, off + k * 3 + 2, none⟩) h2]
    exact h3 k hk
theorem promsAt_below {w w' : World} {ad : Option Addr} {l : List Prom} (h : PromsAt w ad l) (hb : Below w.heap.size w w') : PromsAt w' ad l := by
  rcases h with h | ⟨b, off, h1, h2, h3⟩
  · exact Or.inl h
  · refine Or.inr ⟨b, off, h1, Nat.lt_of_lt_of_le h2 hb.size, fun k hk => ?_⟩
    obtain ⟨la, lc, c0, c1, c2, c3⟩ := h3 k hk
    refine ⟨la, lc, ?_, ?_, ?_, entsAt_below c3 hb⟩
    · rw [hb.cell (p := ⟨b, off + k * 3, none⟩) h2]; exact c0
    · rw [hb.cell (p := ⟨b, off + k * 3 + 1, none⟩) h2]; exact c1
    · rw [hb.cell (p := ⟨b, off + k * 3 + 2, none⟩) h2]; exact c2
theorem promsAt_get {w : World} {ad : Option Addr} {l : List Prom} (h : PromsAt w ad l) (k : Nat) (hk : k < l.length) :
    ∃ b off la lc, ad = some ⟨b, off, none⟩ ∧ b < w.heap.size ∧ w.cell? ⟨b, off + k * 3, none⟩ = some (.int .i64 l[k].floor) ∧ w.cell? ⟨b, off + k * 3 + 1, none⟩ = some (.int .i64 l[k].top) ∧ w.cell? ⟨b, off + k * 3 + 2, none⟩ = some (.slice la l[k].list.length lc) ∧ EntsAt w la l[k].list := by
  obtain ⟨b, off, e, hb, hc⟩ := h.resolve_left (by intro h; rw [h] at hk; simp at hk)
  obtain ⟨la, lc, c0, c1, c2, c3⟩ := hc k hk
  exact ⟨b, off, la, lc, e, hb, c0, c1, c2, c3⟩
theorem entsAt_get {w : World} {ad : Option Addr} {l : List Ent} (h : EntsAt w ad l) (k : Nat) (hk : k < l.length) :
    ∃ b off, ad = some ⟨b, off, none⟩ ∧ b < w.heap.size ∧ w.cell? ⟨b, off + k * 3, none⟩ = some (.int .i64 l[k].gen) ∧ w.cell? ⟨b, off + k * 3 + 1, none⟩ = some (.int .i64 l[k].bal) ∧ w.cell? ⟨b, off + k * 3 + 2, none⟩ = some (.string l[k].mark) := by
  obtain ⟨b, off, e, hb, hc⟩ := h.resolve_left (by intro h; rw [h] at hk; simp at hk)
  exact ⟨b, off, e, hb, hc k hk⟩

/-- the entries of all promises, each with its promise's top -/
def flat (ps : List Prom) : List (Int × Ent) := ps.flatMap fun p => p.list.map fun x => (p.top, x)
def knownIn (l : List (Int × Ent)) (g : Int) : Option ByteArray := (l.find? fun t => decide (t.2.gen = g ∧ g < t.1)).map (·.2.mark)
def knownOf (ps : List Prom) (g : Int) : Option ByteArray := knownIn (flat ps) g
theorem flat_step (ps : List Prom) (i : Nat) (hi : i < ps.length) : flat (ps.drop i) = (ps[i].list.map fun x => (ps[i].top, x)) ++ flat (ps.drop (i + 1)) := by
  rw [List.drop_eq_getElem_cons hi]; rfl
theorem knownIn_cons (t : Int) (x : Ent) (l : List (Int × Ent)) (g : Int) : knownIn ((t, x) :: l) g = if x.gen = g ∧ g < t then some x.mark else knownIn l g := by
  unfold knownIn
  rw [List.find?_cons]
  by_cases h : x.gen = g ∧ g < t
  · rw [if_pos h]; simp [h]
  · rw [if_neg h]; simp only [h, decide_false]
/-- the entries of a promise from the k-th on, then others -/
def restOf (p : Prom) (k : Nat) (R : List (Int × Ent)) : List (Int × Ent) := ((p.list.drop k).map fun x => (p.top, x)) ++ R
theorem rest_zero (ps : List Prom) (i : Nat) (hi : i < ps.length) : flat (ps.drop i) = restOf ps[i] 0 (flat (ps.drop (i + 1))) := flat_step ps i hi
theorem rest_step (p : Prom) (k : Nat) (R : List (Int × Ent)) (hk : k < p.list.length) : restOf p k R = (p.top, p.list[k]) :: restOf p (k + 1) R := by
  unfold restOf; rw [List.drop_eq_getElem_cons hk]; rfl
theorem rest_end (p : Prom) (k : Nat) (R : List (Int × Ent)) (hk : p.list.length ≤ k) : restOf p k R = R := by
  unfold restOf; rw [List.drop_eq_nil_of_le hk]; rfl

def knownAgg (o : Option ByteArray) (g : Int) : Value := match o with
  | some m => .tuple #[.agg #[.int .i64 g, .int .i64 0, .string m], .bool true]
  | none => .tuple #[.agg #[.int .i64 0, .int .i64 0, .string ByteArray.empty], .bool false]
def zeroEnt : Obj := .cells #[.int .i64 0, .int .i64 0, .string ByteArray.empty] 118

set_option maxRecDepth 100000 in
set_option maxHeartbeats 2000000 in
theorem known_any (ad : Option Addr) (cap : Nat) (ps : List Prom) (g : Int) (w : World) (hl : ps.length ≤ 1000000) (hll : ∀ p ∈ ps, p.list.length ≤ 1000000) (h : PromsAt w ad ps) :
    Calls Tryz.prog 108 #[.slice ad ps.length cap, .int .i64 g] w fun e w' => e = .returned (knownAgg (knownOf ps g) g) ∧ Below w.heap.size w w' := by
  have H := Lib.hid h
  have Hll := Lib.hid hll
  clear h hll
  go_enter Tryz.func108, Tryz.ntmps108
  go_wp2
  have hz : Blk (w.alloc (.cells #[.int .i64 0, .int .i64 0, .string ⟨#[]⟩] 118)) w.heap.size [.int .i64 0, .int .i64 0, .string ⟨#[]⟩] 118 := Blk.new w _ _
  have hb0 : Below w.heap.size w (w.alloc (.cells #[.int .i64 0, .int .i64 0, .string ⟨#[]⟩] 118)) := (Below.refl _ _).alloc (Nat.le_refl _) _
  have h0 := promsAt_below H.out hb0
  have hsz : w.heap.size < (w.alloc (.cells #[.int .i64 0, .int .i64 0, .string ⟨#[]⟩] 118)).heap.size := by simp
  generalize (w.alloc (.cells #[.int .i64 0, .int .i64 0, .string ⟨#[]⟩] 118)) = w1 at hz hb0 h0 hsz ⊢
  have Hz := Lib.hid hz
  have H0 := Lib.hid h0
  clear hz h0 H
  go_loopw [12] (fun i wr => ∃ k : Nat, i = .int .i64 k ∧ k ≤ ps.length ∧ Hid (knownOf ps g = knownIn (flat (ps.drop k)) g) ∧ Below w1.heap.size w1 wr) (fun i _ => ps.length - (intOf i).toNat)
  case atStart => exact ⟨0, rfl, Nat.zero_le _, Lib.hid rfl, Below.refl _ _⟩
  case round =>
    obtain ⟨i, rfl, hi, hk, hbr⟩ := hrel
    by_cases hlt : i < ps.length
    · obtain ⟨b, off, la, lc, rfl, hbs, c0, c1, c2, hes⟩ := promsAt_get (promsAt_below H0.out hbr) i hlt
      have hin : ps[i].list.length ≤ 1000000 := Hll.out _ (List.getElem_mem hlt)
      have hk2 := Lib.hid (hk.out.trans (congrArg (fun l => knownIn l g) (rest_zero ps i hlt)))
      obtain ⟨p, hp⟩ : ∃ p, p = ps[i] := ⟨_, rfl⟩
      rw [← hp] at c0 c1 c2 hes hin hk2
      have Hes := Lib.hid hes
      clear hp hes hk
      obtain ⟨wo, rfl⟩ : ∃ wo : World, wo = wr := ⟨_, rfl⟩
      go_wp2
      have hbr2 := hbr.alloc hbr.size (.cells #[.int .i64 p.floor, .int .i64 p.top, .slice la p.list.length lc] 136)
      have hes2 := entsAt_below Hes.out ((Below.refl _ _).alloc (Nat.le_refl _) (.cells #[.int .i64 p.floor, .int .i64 p.top, .slice la p.list.length lc] 136))
      have ht2 : (wo.alloc (.cells #[.int .i64 p.floor, .int .i64 p.top, .slice la p.list.length lc] 136)).cell? ⟨wo.heap.size, 1, none⟩ = some (.int .i64 p.top) := (Blk.new wo [.int .i64 p.floor, .int .i64 p.top, .slice la p.list.length lc] 136).cell 1
      have hs2 : wo.heap.size < (wo.alloc (.cells #[.int .i64 p.floor, .int .i64 p.top, .slice la p.list.length lc] 136)).heap.size := by simp
      generalize wo.alloc (.cells #[.int .i64 p.floor, .int .i64 p.top, .slice la p.list.length lc] 136) = w2 at hbr2 hes2 ht2 hs2 ⊢
      have Hes2 := Lib.hid hes2
      obtain ⟨q, hq⟩ : ∃ q, q = wo.heap.size := ⟨_, rfl⟩
      rw [← hq] at ht2 hs2 ⊢
      clear hes2 Hes c0 c1 c2 hq
      go_loopw [19] (fun j wr => ∃ k : Nat, j = .int .i64 k ∧ k ≤ p.list.length ∧ Hid (knownOf ps g = knownIn (restOf p k (flat (ps.drop (i + 1)))) g) ∧ Below w2.heap.size w2 wr) (fun j _ => p.list.length - (intOf j).toNat)
      case atStart => exact ⟨0, rfl, Nat.zero_le _, hk2, Below.refl _ _⟩
      case round =>
        obtain ⟨k, rfl, hk, hko, hbw⟩ := hrel
        by_cases hlt2 : k < p.list.length
        · obtain ⟨b2, off2, rfl, hbs2, d0, d1, d2⟩ := entsAt_get (entsAt_below Hes2.out hbw) k hlt2
          have ht3 := (hbw.cell (p := ⟨q, 1, none⟩) hs2).trans ht2
          have hstep := hko.out
          rw [rest_step p k _ hlt2, knownIn_cons] at hstep
          obtain ⟨x, hx⟩ : ∃ x, x = p.list[k] := ⟨_, rfl⟩
          rw [← hx] at d0 d1 d2 hstep
          clear hx
          have hbx := hbw.trans (((Below.refl wr.heap.size wr).alloc (Nat.le_refl _) (.cells #[.int .i64 x.gen, .int .i64 x.bal, .string x.mark] 118)).mono hbw.size)
          have hqr : q < wr.heap.size := Nat.lt_of_lt_of_le hs2 hbw.size
          have hwr : w.heap.size < wr.heap.size := Nat.lt_of_lt_of_le hsz (hbr2.trans (hbw.mono hbr2.size)).size
          have hmt : x.gen = g ∧ g < p.top ∨ ¬ x.gen = g ∨ x.gen = g ∧ ¬ g < p.top := by omega
          rcases hmt with ⟨hg, hm⟩ | hm
          · rw [if_pos ⟨hg, hm⟩] at hstep
            have Hstep := Lib.hid hstep
            have hw1r := hbr2.trans (hbw.mono hbr2.size)
            have hz3 := Hz.out.below hw1r
            have z0 := hz3.cell 0
            have z1 := hz3.cell 1
            have z2 := hz3.cell 2
            have f0 := hz3.free 0
            have f1 := hz3.free 1
            have f2 := hz3.free 2
            simp only [List.getElem?_cons_succ, List.getElem?_cons_zero] at z0 z1 z2
            have Hz3 := Lib.hid hz3
            clear hz3
            go_wp2
            have hz4 := ((((Hz3.out.set 0 (.int .i64 g)).set 1 (.int .i64 0)).set 2 (.string x.mark)).alloc (.cells #[.int .i64 g, .int .i64 x.bal, .string x.mark] 118))
            have y0 := hz4.cell 0
            have y1 := hz4.cell 1
            have y2 := hz4.cell 2
            simp only [List.getElem?_cons_succ, List.getElem?_cons_zero, List.set_cons_zero, List.set_cons_succ] at y0 y1 y2
            refine bodyPost_ret (v := .tuple #[.agg #[.int .i64 g, .int .i64 0, .string x.mark], .bool true]) ?_ rfl ⟨by rw [Hstep.out]; rfl, ?_⟩
            · clear hbx Hz3 hz4
              simp [results, Tryz.results108, go_sem, y0, y1, y2]
            · exact (((((hb0.trans (hw1r.mono hb0.size)).setCell (Nat.le_refl _) _).setCell (Nat.le_refl _) _).setCell (Nat.le_refl _) _).alloc (by simp; omega) _)
          · have hn : ¬ (x.gen = g ∧ g < p.top) := by omega
            rw [if_neg hn] at hstep
            have Hstep := Lib.hid hstep
            clear hstep hn
            rcases hm with hm | ⟨hg, hm⟩
            · go_wp2
              go_roundw
              case rel => exact ⟨k + 1, by go_num, by omega, Hstep, hbx⟩
              case measure => simp [intOf]; omega
            · go_wp2
              go_roundw
              case rel => exact ⟨k + 1, by go_num, by omega, Hstep, by rw [hg] at hbx; exact hbx⟩
              case measure => simp [intOf]; omega
        · go_wp2
          go_roundw
          case rel => exact ⟨i + 1, by go_num, by omega, Lib.hid (by have h := hko.out; rw [rest_end p k _ (by omega)] at h; exact h), hbr2.trans (hbw.mono hbr2.size)⟩
          case measure => simp [intOf]; omega
    · have he := hk.out
      rw [List.drop_eq_nil_of_le (by omega)] at he
      have He := Lib.hid (show knownOf ps g = none from he)
      have hz3 := Hz.out.below hbr
      have z0 := hz3.cell 0
      have z1 := hz3.cell 1
      have z2 := hz3.cell 2
      have f0 := hz3.free 0
      have f1 := hz3.free 1
      have f2 := hz3.free 2
      simp only [List.getElem?_cons_succ, List.getElem?_cons_zero] at z0 z1 z2
      have Hz3 := Lib.hid hz3
      clear hz3 he
      go_wp2
      have hz4 := (((Hz3.out.set 0 (.int .i64 0)).set 1 (.int .i64 0)).set 2 (.string ⟨#[]⟩))
      have y0 := hz4.cell 0
      have y1 := hz4.cell 1
      have y2 := hz4.cell 2
      simp only [List.getElem?_cons_succ, List.getElem?_cons_zero, List.set_cons_zero, List.set_cons_succ] at y0 y1 y2
      refine bodyPost_ret (v := .tuple #[.agg #[.int .i64 0, .int .i64 0, .string ⟨#[]⟩], .bool false]) ?_ rfl ⟨by rw [He.out]; rfl, ?_⟩
      · clear Hz3 hz4
        simp [results, Tryz.results108, go_sem, y0, y1, y2]
      · exact ((((hb0.trans (hbr.mono hb0.size)).setCell (Nat.le_refl _) _).setCell (Nat.le_refl _) _).setCell (Nat.le_refl _) _)

def better (st : Option Ent) (x : Ent) : Bool := match st with
  | none => true
  | some b => decide (b.bal < x.bal)
def pick (g : Int) (st : Option Ent) (x : Ent) : Option Ent := if x.gen = g ∧ better st x = true then some x else st
def greatFrom (g : Int) (st : Option Ent) (l : List (Int × Ent)) : Option Ent := l.foldl (fun s t => pick g s t.2) st
def greatOf (ps : List Prom) (g : Int) : Option Ent := greatFrom g none (flat ps)
theorem greatFrom_cons (g : Int) (st : Option Ent) (t : Int) (x : Ent) (l : List (Int × Ent)) : greatFrom g st ((t, x) :: l) = greatFrom g (pick g st x) l := rfl
def zEnt : Ent := ⟨0, 0, ⟨#[]⟩⟩
def bestVals (st : Option Ent) : List Value := entVals (st.getD zEnt)
def greatAgg (st : Option Ent) : Value := .tuple #[entAgg (st.getD zEnt), .bool st.isSome]

set_option maxRecDepth 100000 in
set_option maxHeartbeats 2000000 in
theorem greatest_any (ad : Option Addr) (cap : Nat) (ps : List Prom) (g : Int) (w : World) (hl : ps.length ≤ 1000000) (hll : ∀ p ∈ ps, p.list.length ≤ 1000000) (h : PromsAt w ad ps) :
    Calls Tryz.prog 109 #[.slice ad ps.length cap, .int .i64 g] w fun e w' => e = .returned (greatAgg (greatOf ps g)) ∧ Below w.heap.size w w' := by
  have H := Lib.hid h
  have Hll := Lib.hid hll
  clear h hll
  go_enter Tryz.func109, Tryz.ntmps109
  go_wp2
  have hz : Blk (w.alloc (.cells #[.int .i64 0, .int .i64 0, .string ⟨#[]⟩] 118)) w.heap.size [.int .i64 0, .int .i64 0, .string ⟨#[]⟩] 118 := Blk.new w _ _
  have hb0 : Below w.heap.size w (w.alloc (.cells #[.int .i64 0, .int .i64 0, .string ⟨#[]⟩] 118)) := (Below.refl _ _).alloc (Nat.le_refl _) _
  have h0 := promsAt_below H.out hb0
  have hsz : w.heap.size + 1 = (w.alloc (.cells #[.int .i64 0, .int .i64 0, .string ⟨#[]⟩] 118)).heap.size := by simp
  generalize (w.alloc (.cells #[.int .i64 0, .int .i64 0, .string ⟨#[]⟩] 118)) = w1 at hz hb0 h0 hsz ⊢
  obtain ⟨bb, hbb⟩ : ∃ bb, bb = w.heap.size + 1 := ⟨_, rfl⟩
  rw [← hbb] at hsz ⊢
  have hbest : Blk (w1.alloc (.cells #[.int .i64 0, .int .i64 0, .string ⟨#[]⟩] 118)) bb (bestVals none) 118 := by rw [hsz]; exact Blk.new w1 _ _
  have hb1 : Below w1.heap.size w1 (w1.alloc (.cells #[.int .i64 0, .int .i64 0, .string ⟨#[]⟩] 118)) := (Below.refl _ _).alloc (Nat.le_refl _) _
  generalize (w1.alloc (.cells #[.int .i64 0, .int .i64 0, .string ⟨#[]⟩] 118)) = w2 at hbest hb1 ⊢
  have Hz := Lib.hid hz
  have H0 := Lib.hid h0
  have Hbest := Lib.hid hbest
  have hble : w1.heap.size ≤ bb := Nat.le_of_eq hsz.symm
  have hbw1 : w.heap.size < w1.heap.size := by omega
  clear hz h0 H hbest hbb hsz
  go_loopw [7, 15] (fun h i wr => ∃ (k : Nat) (st : Option Ent), i = .int .i64 k ∧ k ≤ ps.length ∧ h = .bool st.isSome ∧ Hid (greatOf ps g = greatFrom g st (flat (ps.drop k))) ∧ Hid (Blk wr bb (bestVals st) 118) ∧ Below w1.heap.size w1 wr) (fun _ i _ => ps.length - (intOf i).toNat)
  case atStart => exact ⟨0, none, rfl, Nat.zero_le _, rfl, Lib.hid rfl, Hbest, hb1⟩
  case round =>
    obtain ⟨i, st, rfl, hi, rfl, hk, HB, hbr⟩ := hrel
    by_cases hlt : i < ps.length
    · obtain ⟨b, off, la, lc, rfl, hbs, c0, c1, c2, hes⟩ := promsAt_get H0.out i hlt
      replace c0 := (hbr.cell (p := ⟨b, off + i * 3, none⟩) hbs).trans c0
      replace c1 := (hbr.cell (p := ⟨b, off + i * 3 + 1, none⟩) hbs).trans c1
      replace c2 := (hbr.cell (p := ⟨b, off + i * 3 + 2, none⟩) hbs).trans c2
      have hin : ps[i].list.length ≤ 1000000 := Hll.out _ (List.getElem_mem hlt)
      have hk2 := Lib.hid (hk.out.trans (congrArg (fun l => greatFrom g st l) (rest_zero ps i hlt)))
      obtain ⟨p, hp⟩ : ∃ p, p = ps[i] := ⟨_, rfl⟩
      rw [← hp] at c0 c1 c2 hes hin hk2
      have Hes := Lib.hid hes
      clear hp hes hk
      obtain ⟨wo, rfl⟩ : ∃ wo : World, wo = wr := ⟨_, rfl⟩
      obtain ⟨s0, hs0⟩ : ∃ s0 : Bool, s0 = st.isSome := ⟨_, rfl⟩
      rw [← hs0]
      have Hs0 := Lib.hid hs0
      clear hs0
      go_wp2
      have hbr2 := hbr.alloc hbr.size (.cells #[.int .i64 p.floor, .int .i64 p.top, .slice la p.list.length lc] 136)
      have hbe2 := HB.out.alloc (.cells #[.int .i64 p.floor, .int .i64 p.top, .slice la p.list.length lc] 136)
      generalize wo.alloc (.cells #[.int .i64 p.floor, .int .i64 p.top, .slice la p.list.length lc] 136) = w3 at hbr2 hbe2 ⊢
      have HB2 := Lib.hid hbe2
      clear c0 c1 c2 hbe2
      go_loopw [7, 22] (fun h j wr => ∃ (k : Nat) (st : Option Ent), j = .int .i64 k ∧ k ≤ p.list.length ∧ h = .bool st.isSome ∧ Hid (greatOf ps g = greatFrom g st (restOf p k (flat (ps.drop (i + 1))))) ∧ Hid (Blk wr bb (bestVals st) 118) ∧ Below w1.heap.size w1 wr) (fun _ j _ => p.list.length - (intOf j).toNat)
      case atStart => exact ⟨0, st, rfl, Nat.zero_le _, by rw [Hs0.out], hk2, HB2, hbr2⟩
      case round =>
        obtain ⟨k, st, rfl, hk, rfl, hko, HB3, hbw⟩ := hrel
        by_cases hlt2 : k < p.list.length
        · obtain ⟨b2, off2, rfl, hbs2, d0, d1, d2⟩ := entsAt_get Hes.out k hlt2
          replace d0 := (hbw.cell (p := ⟨b2, off2 + k * 3, none⟩) hbs2).trans d0
          replace d1 := (hbw.cell (p := ⟨b2, off2 + k * 3 + 1, none⟩) hbs2).trans d1
          replace d2 := (hbw.cell (p := ⟨b2, off2 + k * 3 + 2, none⟩) hbs2).trans d2
          have hstep := hko.out
          rw [rest_step p k _ hlt2, greatFrom_cons] at hstep
          obtain ⟨x, hx⟩ : ∃ x, x = p.list[k] := ⟨_, rfl⟩
          rw [← hx] at d0 d1 d2 hstep
          clear hx
          have hbbl := HB3.out.lt
          have e0 := HB3.out.cell 0
          have e1 := HB3.out.cell 1
          have e2 := HB3.out.cell 2
          have f0 := HB3.out.free 0
          have f1 := HB3.out.free 1
          have f2 := HB3.out.free 2
          simp only [bestVals, entVals, List.getElem?_cons_succ, List.getElem?_cons_zero] at e0 e1 e2
          have hbx := hbw.alloc hbw.size (.cells #[.int .i64 x.gen, .int .i64 x.bal, .string x.mark] 118)
          have hBx := Lib.hid (HB3.out.alloc (.cells #[.int .i64 x.gen, .int .i64 x.bal, .string x.mark] 118))
          have hne : bb ≠ wr.heap.size := Nat.ne_of_lt hbbl
          have hset := (((HB3.out.set 0 (.int .i64 x.gen)).set 1 (.int .i64 x.bal)).set 2 (.string x.mark)).alloc (.cells #[.int .i64 x.gen, .int .i64 x.bal, .string x.mark] 118)
          simp only [bestVals, entVals, List.set_cons_zero, List.set_cons_succ] at hset
          have hbt := (((hbw.setCell (p := ⟨bb, 0, none⟩) hble (.int .i64 x.gen)).setCell (p := ⟨bb, 1, none⟩) hble (.int .i64 x.bal)).setCell (p := ⟨bb, 2, none⟩) hble (.string x.mark)).alloc (by simp [World.setCell]; exact hbw.size) (.cells #[.int .i64 x.gen, .int .i64 x.bal, .string x.mark] 118)
          have Hset := Lib.hid hset
          have Hbt := Lib.hid hbt
          have Hbx := Lib.hid hbx
          clear hset hbt hbx
          by_cases hg : x.gen = g
          · cases hst : st with
            | none =>
              subst hst
              have hstep2 := Lib.hid (hstep.trans (congrArg (fun s => greatFrom g s (restOf p (k + 1) (flat (ps.drop (i + 1))))) (show pick g none x = some x by unfold pick; rw [if_pos ⟨hg, rfl⟩])))
              clear hstep
              go_wp2
              go_roundw
              case rel => exact ⟨k + 1, some x, by go_num, by omega, rfl, hstep2, by rw [hg] at Hset; exact Lib.hid (by simp only [bestVals, entVals, Option.getD_some, hg]; exact Hset.out), by rw [hg] at Hbt; exact Hbt.out⟩
              case measure => simp [intOf]; omega
            | some y =>
              subst hst
              simp only [Option.getD_some] at e0 e1 e2
              by_cases hlb : y.bal < x.bal
              · have hstep2 := Lib.hid (hstep.trans (congrArg (fun s => greatFrom g s (restOf p (k + 1) (flat (ps.drop (i + 1))))) (show pick g (some y) x = some x by unfold pick; rw [if_pos ⟨hg, by simp [better, hlb]⟩])))
                clear hstep
                go_wp2
                go_roundw
                case rel => exact ⟨k + 1, some x, by go_num, by omega, rfl, hstep2, by rw [hg] at Hset; exact Lib.hid (by simp only [bestVals, entVals, Option.getD_some, hg]; exact Hset.out), by rw [hg] at Hbt; exact Hbt.out⟩
                case measure => simp [intOf]; omega
              · have hstep2 := Lib.hid (hstep.trans (congrArg (fun s => greatFrom g s (restOf p (k + 1) (flat (ps.drop (i + 1))))) (show pick g (some y) x = some y by unfold pick; rw [if_neg (fun h => hlb (by simpa [better] using h.2))])))
                clear hstep
                go_wp2
                go_roundw
                case rel => exact ⟨k + 1, some y, by go_num, by omega, rfl, hstep2, by rw [hg] at hBx; exact hBx, by rw [hg] at Hbx; exact Hbx.out⟩
                case measure => simp [intOf]; omega
          · have hstep2 := Lib.hid (hstep.trans (congrArg (fun s => greatFrom g s (restOf p (k + 1) (flat (ps.drop (i + 1))))) (show pick g st x = st by unfold pick; rw [if_neg (fun h => hg h.1)])))
            obtain ⟨s0, hs0⟩ : ∃ s0 : Bool, s0 = st.isSome := ⟨_, rfl⟩
            rw [← hs0]
            have Hs0 := Lib.hid hs0
            clear hs0 hstep e0 e1 e2
            go_wp2
            go_roundw
            case rel => exact ⟨k + 1, st, by go_num, by omega, by rw [Hs0.out], hstep2, hBx, Hbx.out⟩
            case measure => simp [intOf]; omega
        · have hend := hko.out
          rw [rest_end p k _ (by omega)] at hend
          have Hend := Lib.hid hend
          obtain ⟨s0, hs0⟩ : ∃ s0 : Bool, s0 = st.isSome := ⟨_, rfl⟩
          rw [← hs0]
          have Hs0 := Lib.hid hs0
          clear hs0 hend
          go_wp2
          go_roundw
          case rel => exact ⟨i + 1, st, by go_num, by omega, by rw [Hs0.out], Hend, HB3, hbw⟩
          case measure => simp [intOf]; omega
    · have he := hk.out
      rw [List.drop_eq_nil_of_le (by omega)] at he
      have He := Lib.hid (show greatOf ps g = st from he)
      have hz3 := Hz.out.below hbr
      have hne : bb ≠ w.heap.size := by omega
      have z0 := hz3.cell 0
      have z1 := hz3.cell 1
      have z2 := hz3.cell 2
      have f0 := hz3.free 0
      have f1 := hz3.free 1
      have f2 := hz3.free 2
      have e0 := HB.out.cell 0
      have e1 := HB.out.cell 1
      have e2 := HB.out.cell 2
      simp only [List.getElem?_cons_succ, List.getElem?_cons_zero] at z0 z1 z2
      simp only [bestVals, entVals, List.getElem?_cons_succ, List.getElem?_cons_zero] at e0 e1 e2
      have Hz3 := Lib.hid hz3
      obtain ⟨x, hx⟩ : ∃ x, x = st.getD zEnt := ⟨_, rfl⟩
      obtain ⟨s0, hs0⟩ : ∃ s0 : Bool, s0 = st.isSome := ⟨_, rfl⟩
      rw [← hx] at e0 e1 e2
      rw [← hs0]
      have Hx := Lib.hid hx
      have Hs0 := Lib.hid hs0
      clear hz3 he hx hs0 hk
      go_wp2
      have hz4 := (((Hz3.out.set 0 (.int .i64 x.gen)).set 1 (.int .i64 x.bal)).set 2 (.string x.mark))
      have y0 := hz4.cell 0
      have y1 := hz4.cell 1
      have y2 := hz4.cell 2
      simp only [List.getElem?_cons_succ, List.getElem?_cons_zero, List.set_cons_zero, List.set_cons_succ] at y0 y1 y2
      refine bodyPost_ret (v := .tuple #[.agg #[.int .i64 x.gen, .int .i64 x.bal, .string x.mark], .bool s0]) ?_ rfl ⟨by rw [He.out, greatAgg, ← Hx.out, ← Hs0.out]; rfl, ?_⟩
      · clear Hz3 hz4
        simp [results, Tryz.results109, go_sem, y0, y1, y2]
      · exact ((((hb0.trans (hbr.mono hb0.size)).setCell (Nat.le_refl _) _).setCell (Nat.le_refl _) _).setCell (Nat.le_refl _) _)
end Go.Proofs.YtmmnaieikfekfaaGreatDoor
