/- Lists of entries and of promises in memory, and the walks of plan.known and plan.greatest. No condition. The walks of a coordinator's got, known, mark. Condition: the vault has told how far it is, and tells of nothing greater. -/
import Derived.Test.YtaemlplcjjbamaaGreatDoorBTick
import Derived.Test.YtaemlplcjjbamaaGreatDoorBHeld
import Derived.Test.YtaemlplcjjbamaaGreatDoorBKn
namespace Go.Proofs.YtaemlplcjjbamaaGreatDoor
open Go.RowKit
structure Ent where
  gen : Int
  bal : Int
  mark : ByteArray
structure Prom where
  floor : Int
  top : Int
  list : List Ent
def entVals (x : Ent) : List Value := [.int .i64 x.gen, .int .i64 x.bal, .string x.mark]
def entAgg (x : Ent) : Value := .agg #[.int .i64 x.gen, .int .i64 x.bal, .string x.mark]
def entsVals (l : List Ent) : List Value := l.flatMap entVals
def EntsAt (w : World) (ad : Option Addr) (l : List Ent) : Prop :=
  l = [] ∨ ∃ b off, ad = some ⟨b, off, none⟩ ∧ b < w.heap.size ∧ ∀ k (hk : k < l.length), w.cell? ⟨b, off + k * 3, none⟩ = some (.int .i64 l[k].gen) ∧ w.cell? ⟨b, off + k * 3 + 1, none⟩ = some (.int .i64 l[k].bal) ∧ w.cell? ⟨b, off + k * 3 + 2, none⟩ = some (.string l[k].mark)
def PromsAt (w : World) (ad : Option Addr) (l : List Prom) : Prop :=
  l = [] ∨ ∃ b off, ad = some ⟨b, off, none⟩ ∧ b < w.heap.size ∧ ∀ k (hk : k < l.length), ∃ la lc, w.cell? ⟨b, off + k * 3, none⟩ = some (.int .i64 l[k].floor) ∧ w.cell? ⟨b, off + k * 3 + 1, none⟩ = some (.int .i64 l[k].top) ∧ w.cell? ⟨b, off + k * 3 + 2, none⟩ = some (.slice la l[k].list.length lc) ∧ EntsAt w la l[k].list
theorem entsAt_below {w w' : World} {ad : Option Addr} {l : List Ent} (h : EntsAt w ad l) (hb : Below w.heap.size w w') : EntsAt w' ad l := by
  rcases h with h | ⟨b, off, h1, h2, h3⟩
  · exact Or.inl h
  · refine Or.inr ⟨b, off, h1, Nat.lt_of_lt_of_le h2 hb.size, fun k hk => ?_⟩
    rw [hb.cell (p := ⟨b, off + k * 3, none⟩) h2, hb.cell (p := ⟨b, off + k * 3 + 1, none⟩) h2, hb.cell (p := ⟨b, off + k * 3 + 2, none⟩) h2]
    exact h3 k hk
theorem promsAt_below {w w' : World} {ad : Option Addr} {l : List Prom} (h : PromsAt w ad l) (hb : Below w.heap.size w w') : PromsAt w' ad l := by
  rcases h with h | ⟨b, off, h1, h2, h3⟩
  · exact Or.inl h
  · refine Or.inr ⟨b, off, h1, Nat.lt_of_lt_of_le h2 hb.size, fun k hk => ?_⟩
    obtain ⟨la, lc, c0, c1, c2, c3⟩ := h3 k hk
    refine ⟨la, lc, ?_, ?_, ?_, entsAt_below c3 hb⟩
    · rw [hb.cell (p := ⟨b, off + k * 3, none⟩) h2]; exact c0
    · rw [hb.cell (p := ⟨b, off + k * 3 + 1, none⟩) h2]; exact c1
    · rw [hb.cell (p := ⟨b, off + k * 3 + 2, none⟩) h2]; exact c2
theorem promsAt_get {w : World} {ad : Option Addr} {l : List Prom} (h : PromsAt w ad l) (k : Nat) (hk : k < l.length) :
    ∃ b off la lc, ad = some ⟨b, off, none⟩ ∧ b < w.heap.size ∧ w.cell? ⟨b, off + k * 3, none⟩ = some (.int .i64 l[k].floor) ∧ w.cell? ⟨b, off + k * 3 + 1, none⟩ = some (.int .i64 l[k].top) ∧ w.cell? ⟨b, off + k * 3 + 2, none⟩ = some (.slice la l[k].list.length lc) ∧ EntsAt w la l[k].list := by
  obtain ⟨b, off, e, hb, hc⟩ := h.resolve_left (by intro h; rw [h] at hk; simp at hk)
  obtain ⟨la, lc, c0, c1, c2, c3⟩ := hc k hk
  exact ⟨b, off, la, lc, e, hb, c0, c1, c2, c3⟩
theorem entsAt_get {w : World} {ad : Option Addr} {l : List Ent} (h : EntsAt w ad l) (k : Nat) (hk : k < l.length) :
    ∃ b off, ad = some ⟨b, off, none⟩ ∧ b < w.heap.size ∧ w.cell? ⟨b, off + k * 3, none⟩ = some (.int .i64 l[k].gen) ∧ w.cell? ⟨b, off + k * 3 + 1, none⟩ = some (.int .i64 l[k].bal) ∧ w.cell? ⟨b, off + k * 3 + 2, none⟩ = some (.string l[k].mark) := by
  obtain ⟨b, off, e, hb, hc⟩ := h.resolve_left (by intro h; rw [h] at hk; simp at hk)
  exact ⟨b, off, e, hb, hc k hk⟩
/-- the entries of all promises, each with its promise's top -/
def flat (ps : List Prom) : List (Int × Ent) := ps.flatMap fun p => p.list.map fun x => (p.top, x)
def knownIn (l : List (Int × Ent)) (g : Int) : Option ByteArray := (l.find? fun t => decide (t.2.gen = g ∧ g < t.1)).map (·.2.mark)
def knownOf (ps : List Prom) (g : Int) : Option ByteArray := knownIn (flat ps) g
theorem flat_step (ps : List Prom) (i : Nat) (hi : i < ps.length) : flat (ps.drop i) = (ps[i].list.map fun x => (ps[i].top, x)) ++ flat (ps.drop (i + 1)) := by
  rw [List.drop_eq_getElem_cons hi]; rfl
theorem knownIn_cons (t : Int) (x : Ent) (l : List (Int × Ent)) (g : Int) : knownIn ((t, x) :: l) g = if x.gen = g ∧ g < t then some x.mark else knownIn l g := by
  unfold knownIn
  rw [List.find?_cons]
  by_cases h : x.gen = g ∧ g < t
  · rw [if_pos h]; simp [h]
  · rw [if_neg h]; simp only [h, decide_false]
/-- the entries of a promise from the k-th on, then others -/
def restOf (p : Prom) (k : Nat) (R : List (Int × Ent)) : List (Int × Ent) := ((p.list.drop k).map fun x => (p.top, x)) ++ R
theorem rest_zero (ps : List Prom) (i : Nat) (hi : i < ps.length) : flat (ps.drop i) = restOf ps[i] 0 (flat (ps.drop (i + 1))) := flat_step ps i hi
theorem rest_step (p : Prom) (k : Nat) (R : List (Int × Ent)) (hk : k < p.list.length) : restOf p k R = (p.top, p.list[k]) :: restOf p (k + 1) R := by
  unfold restOf; rw [List.drop_eq_getElem_cons hk]; rfl
theorem rest_end (p : Prom) (k : Nat) (R : List (Int × Ent)) (hk : p.list.length ≤ k) : restOf p k R = R := by
  unfold restOf; rw [List.drop_eq_nil_of_le hk]; rfl
def knownAgg (o : Option ByteArray) (g : Int) : Value := match o with
  | some m => .tuple #[.agg #[.int .i64 g, .int .i64 0, .string m], .bool true]
  | none => .tuple #[.agg #[.int .i64 0, .int .i64 0, .string ByteArray.empty], .bool false]
set_option maxRecDepth 100000 in
set_option maxHeartbeats 2000000 in
theorem known_any (ad : Option Addr) (cap : Nat) (ps : List Prom) (g : Int) (w : World) (hl : ps.length ≤ 1000000) (hll : ∀ p ∈ ps, p.list.length ≤ 1000000) (h : PromsAt w ad ps) :
    Calls Tryz.prog 121 #[.slice ad ps.length cap, .int .i64 g] w fun e w' => e = .returned (knownAgg (knownOf ps g) g) ∧ Below w.heap.size w w' := by
  have H := Lib.hid h
  have Hll := Lib.hid hll
  clear h hll
  go_enter Tryz.func121, Tryz.ntmps121
  go_wp2
  have hz : Blk (w.alloc (.cells #[.int .i64 0, .int .i64 0, .string ⟨#[]⟩] 102)) w.heap.size [.int .i64 0, .int .i64 0, .string ⟨#[]⟩] 102 := Blk.new w _ _
  have hb0 : Below w.heap.size w (w.alloc (.cells #[.int .i64 0, .int .i64 0, .string ⟨#[]⟩] 102)) := (Below.refl _ _).alloc (Nat.le_refl _) _
  have h0 := promsAt_below H.out hb0
  have hsz : w.heap.size < (w.alloc (.cells #[.int .i64 0, .int .i64 0, .string ⟨#[]⟩] 102)).heap.size := by simp
  generalize (w.alloc (.cells #[.int .i64 0, .int .i64 0, .string ⟨#[]⟩] 102)) = w1 at hz hb0 h0 hsz ⊢
  have Hz := Lib.hid hz
  have H0 := Lib.hid h0
  clear hz h0 H
  go_loopw [12] (fun i wr => ∃ k : Nat, i = .int .i64 k ∧ k ≤ ps.length ∧ Hid (knownOf ps g = knownIn (flat (ps.drop k)) g) ∧ Below w1.heap.size w1 wr) (fun i _ => ps.length - (intOf i).toNat)
  case atStart => exact ⟨0, rfl, Nat.zero_le _, Lib.hid rfl, Below.refl _ _⟩
  case round =>
    obtain ⟨i, rfl, hi, hk, hbr⟩ := hrel
    by_cases hlt : i < ps.length
    · obtain ⟨b, off, la, lc, rfl, hbs, c0, c1, c2, hes⟩ := promsAt_get (promsAt_below H0.out hbr) i hlt
      have hin : ps[i].list.length ≤ 1000000 := Hll.out _ (List.getElem_mem hlt)
      have hk2 := Lib.hid (hk.out.trans (congrArg (fun l => knownIn l g) (rest_zero ps i hlt)))
      obtain ⟨p, hp⟩ : ∃ p, p = ps[i] := ⟨_, rfl⟩
      rw [← hp] at c0 c1 c2 hes hin hk2
      have Hes := Lib.hid hes
      clear hp hes hk
      obtain ⟨wo, rfl⟩ : ∃ wo : World, wo = wr := ⟨_, rfl⟩
      go_wp2
      have hbr2 := hbr.alloc hbr.size (.cells #[.int .i64 p.floor, .int .i64 p.top, .slice la p.list.length lc] 171)
      have hes2 := entsAt_below Hes.out ((Below.refl _ _).alloc (Nat.le_refl _) (.cells #[.int .i64 p.floor, .int .i64 p.top, .slice la p.list.length lc] 171))
      have ht2 : (wo.alloc (.cells #[.int .i64 p.floor, .int .i64 p.top, .slice la p.list.length lc] 171)).cell? ⟨wo.heap.size, 1, none⟩ = some (.int .i64 p.top) := (Blk.new wo [.int .i64 p.floor, .int .i64 p.top, .slice la p.list.length lc] 171).cell 1
      have hs2 : wo.heap.size < (wo.alloc (.cells #[.int .i64 p.floor, .int .i64 p.top, .slice la p.list.length lc] 171)).heap.size := by simp
      generalize wo.alloc (.cells #[.int .i64 p.floor, .int .i64 p.top, .slice la p.list.length lc] 171) = w2 at hbr2 hes2 ht2 hs2 ⊢
      have Hes2 := Lib.hid hes2
      obtain ⟨q, hq⟩ : ∃ q, q = wo.heap.size := ⟨_, rfl⟩
      rw [← hq] at ht2 hs2 ⊢
      clear hes2 Hes c0 c1 c2 hq
      go_loopw [19] (fun j wr => ∃ k : Nat, j = .int .i64 k ∧ k ≤ p.list.length ∧ Hid (knownOf ps g = knownIn (restOf p k (flat (ps.drop (i + 1)))) g) ∧ Below w2.heap.size w2 wr) (fun j _ => p.list.length - (intOf j).toNat)
      case atStart => exact ⟨0, rfl, Nat.zero_le _, hk2, Below.refl _ _⟩
      case round =>
        obtain ⟨k, rfl, hk, hko, hbw⟩ := hrel
        by_cases hlt2 : k < p.list.length
        · obtain ⟨b2, off2, rfl, hbs2, d0, d1, d2⟩ := entsAt_get (entsAt_below Hes2.out hbw) k hlt2
          have ht3 := (hbw.cell (p := ⟨q, 1, none⟩) hs2).trans ht2
          have hstep := hko.out
          rw [rest_step p k _ hlt2, knownIn_cons] at hstep
          obtain ⟨x, hx⟩ : ∃ x, x = p.list[k] := ⟨_, rfl⟩
          rw [← hx] at d0 d1 d2 hstep
          clear hx
          have hbx := hbw.trans (((Below.refl wr.heap.size wr).alloc (Nat.le_refl _) (.cells #[.int .i64 x.gen, .int .i64 x.bal, .string x.mark] 102)).mono hbw.size)
          have hqr : q < wr.heap.size := Nat.lt_of_lt_of_le hs2 hbw.size
          have hwr : w.heap.size < wr.heap.size := Nat.lt_of_lt_of_le hsz (hbr2.trans (hbw.mono hbr2.size)).size
          have hmt : x.gen = g ∧ g < p.top ∨ ¬ x.gen = g ∨ x.gen = g ∧ ¬ g < p.top := by omega
          rcases hmt with ⟨hg, hm⟩ | hm
          · rw [if_pos ⟨hg, hm⟩] at hstep
            have Hstep := Lib.hid hstep
            have hw1r := hbr2.trans (hbw.mono hbr2.size)
            have hz3 := Hz.out.below hw1r
            have z0 := hz3.cell 0
            have z1 := hz3.cell 1
            have z2 := hz3.cell 2
            have f0 := hz3.free 0
            have f1 := hz3.free 1
            have f2 := hz3.free 2
            simp only [List.getElem?_cons_succ, List.getElem?_cons_zero] at z0 z1 z2
            have Hz3 := Lib.hid hz3
            clear hz3
            go_wp2
            have hz4 := ((((Hz3.out.set 0 (.int .i64 g)).set 1 (.int .i64 0)).set 2 (.string x.mark)).alloc (.cells #[.int .i64 g, .int .i64 x.bal, .string x.mark] 102))
            have y0 := hz4.cell 0
            have y1 := hz4.cell 1
            have y2 := hz4.cell 2
            simp only [List.getElem?_cons_succ, List.getElem?_cons_zero, List.set_cons_zero, List.set_cons_succ] at y0 y1 y2
            refine bodyPost_ret (v := .tuple #[.agg #[.int .i64 g, .int .i64 0, .string x.mark], .bool true]) ?_ rfl ⟨by rw [Hstep.out]; rfl, ?_⟩
            · clear hbx Hz3 hz4
              simp [results, Tryz.results121, go_sem, y0, y1, y2]
            · exact (((((hb0.trans (hw1r.mono hb0.size)).setCell (Nat.le_refl _) _).setCell (Nat.le_refl _) _).setCell (Nat.le_refl _) _).alloc (by simp; omega) _)
          · have hn : ¬ (x.gen = g ∧ g < p.top) := by omega
            rw [if_neg hn] at hstep
            have Hstep := Lib.hid hstep
            clear hstep hn
            rcases hm with hm | ⟨hg, hm⟩
            · go_wp2
              go_roundw
              case rel => exact ⟨k + 1, by go_num, by omega, Hstep, hbx⟩
              case measure => simp [intOf]; omega
            · go_wp2
              go_roundw
              case rel => exact ⟨k + 1, by go_num, by omega, Hstep, by rw [hg] at hbx; exact hbx⟩
              case measure => simp [intOf]; omega
        · go_wp2
          go_roundw
          case rel => exact ⟨i + 1, by go_num, by omega, Lib.hid (by have h := hko.out; rw [rest_end p k _ (by omega)] at h; exact h), hbr2.trans (hbw.mono hbr2.size)⟩
          case measure => simp [intOf]; omega
    · have he := hk.out
      rw [List.drop_eq_nil_of_le (by omega)] at he
      have He := Lib.hid (show knownOf ps g = none from he)
      have hz3 := Hz.out.below hbr
      have z0 := hz3.cell 0
      have z1 := hz3.cell 1
      have z2 := hz3.cell 2
      have f0 := hz3.free 0
      have f1 := hz3.free 1
      have f2 := hz3.free 2
      simp only [List.getElem?_cons_succ, List.getElem?_cons_zero] at z0 z1 z2
      have Hz3 := Lib.hid hz3
      clear hz3 he
      go_wp2
      have hz4 := (((Hz3.out.set 0 (.int .i64 0)).set 1 (.int .i64 0)).set 2 (.string ⟨#[]⟩))
      have y0 := hz4.cell 0
      have y1 := hz4.cell 1
      have y2 := hz4.cell 2
      simp only [List.getElem?_cons_succ, List.getElem?_cons_zero, List.set_cons_zero, List.set_cons_succ] at y0 y1 y2
      refine bodyPost_ret (v := .tuple #[.agg #[.int .i64 0, .int .i64 0, .string ⟨#[]⟩], .bool false]) ?_ rfl ⟨by rw [He.out]; rfl, ?_⟩
      · clear Hz3 hz4
        simp [results, Tryz.results121, go_sem, y0, y1, y2]
      · exact ((((hb0.trans (hbr.mono hb0.size)).setCell (Nat.le_refl _) _).setCell (Nat.le_refl _) _).setCell (Nat.le_refl _) _)
def better (st : Option Ent) (x : Ent) : Bool := match st with
  | none => true
  | some b => decide (b.bal < x.bal)
def pick (g : Int) (st : Option Ent) (x : Ent) : Option Ent := if x.gen = g ∧ better st x = true then some x else st
def greatFrom (g : Int) (st : Option Ent) (l : List (Int × Ent)) : Option Ent := l.foldl (fun s t => pick g s t.2) st
def greatOf (ps : List Prom) (g : Int) : Option Ent := greatFrom g none (flat ps)
theorem greatFrom_cons (g : Int) (st : Option Ent) (t : Int) (x : Ent) (l : List (Int × Ent)) : greatFrom g st ((t, x) :: l) = greatFrom g (pick g st x) l := rfl
def zEnt : Ent := ⟨0, 0, ⟨#[]⟩⟩
def bestVals (st : Option Ent) : List Value := entVals (st.getD zEnt)
def greatAgg (st : Option Ent) : Value := .tuple #[entAgg (st.getD zEnt), .bool st.isSome]
set_option maxRecDepth 100000 in
set_option maxHeartbeats 2000000 in
theorem greatest_any (ad : Option Addr) (cap : Nat) (ps : List Prom) (g : Int) (w : World) (hl : ps.length ≤ 1000000) (hll : ∀ p ∈ ps, p.list.length ≤ 1000000) (h : PromsAt w ad ps) :
    Calls Tryz.prog 122 #[.slice ad ps.length cap, .int .i64 g] w fun e w' => e = .returned (greatAgg (greatOf ps g)) ∧ Below w.heap.size w w' := by
  have H := Lib.hid h
  have Hll := Lib.hid hll
  clear h hll
  go_enter Tryz.func122, Tryz.ntmps122
  go_wp2
  have hz : Blk (w.alloc (.cells #[.int .i64 0, .int .i64 0, .string ⟨#[]⟩] 102)) w.heap.size [.int .i64 0, .int .i64 0, .string ⟨#[]⟩] 102 := Blk.new w _ _
  have hb0 : Below w.heap.size w (w.alloc (.cells #[.int .i64 0, .int .i64 0, .string ⟨#[]⟩] 102)) := (Below.refl _ _).alloc (Nat.le_refl _) _
  have h0 := promsAt_below H.out hb0
  have hsz : w.heap.size + 1 = (w.alloc (.cells #[.int .i64 0, .int .i64 0, .string ⟨#[]⟩] 102)).heap.size := by simp
  generalize (w.alloc (.cells #[.int .i64 0, .int .i64 0, .string ⟨#[]⟩] 102)) = w1 at hz hb0 h0 hsz ⊢
  obtain ⟨bb, hbb⟩ : ∃ bb, bb = w.heap.size + 1 := ⟨_, rfl⟩
  rw [← hbb] at hsz ⊢
  have hbest : Blk (w1.alloc (.cells #[.int .i64 0, .int .i64 0, .string ⟨#[]⟩] 102)) bb (bestVals none) 102 := by rw [hsz]; exact Blk.new w1 _ _
  have hb1 : Below w1.heap.size w1 (w1.alloc (.cells #[.int .i64 0, .int .i64 0, .string ⟨#[]⟩] 102)) := (Below.refl _ _).alloc (Nat.le_refl _) _
  generalize (w1.alloc (.cells #[.int .i64 0, .int .i64 0, .string ⟨#[]⟩] 102)) = w2 at hbest hb1 ⊢
  have Hz := Lib.hid hz
  have H0 := Lib.hid h0
  have Hbest := Lib.hid hbest
  have hble : w1.heap.size ≤ bb := Nat.le_of_eq hsz.symm
  have hbw1 : w.heap.size < w1.heap.size := by omega
  clear hz h0 H hbest hbb hsz
  go_loopw [7, 15] (fun h i wr => ∃ (k : Nat) (st : Option Ent), i = .int .i64 k ∧ k ≤ ps.length ∧ h = .bool st.isSome ∧ Hid (greatOf ps g = greatFrom g st (flat (ps.drop k))) ∧ Hid (Blk wr bb (bestVals st) 102) ∧ Below w1.heap.size w1 wr) (fun _ i _ => ps.length - (intOf i).toNat)
  case atStart => exact ⟨0, none, rfl, Nat.zero_le _, rfl, Lib.hid rfl, Hbest, hb1⟩
  case round =>
    obtain ⟨i, st, rfl, hi, rfl, hk, HB, hbr⟩ := hrel
    by_cases hlt : i < ps.length
    · obtain ⟨b, off, la, lc, rfl, hbs, c0, c1, c2, hes⟩ := promsAt_get H0.out i hlt
      replace c0 := (hbr.cell (p := ⟨b, off + i * 3, none⟩) hbs).trans c0
      replace c1 := (hbr.cell (p := ⟨b, off + i * 3 + 1, none⟩) hbs).trans c1
      replace c2 := (hbr.cell (p := ⟨b, off + i * 3 + 2, none⟩) hbs).trans c2
      have hin : ps[i].list.length ≤ 1000000 := Hll.out _ (List.getElem_mem hlt)
      have hk2 := Lib.hid (hk.out.trans (congrArg (fun l => greatFrom g st l) (rest_zero ps i hlt)))
      obtain ⟨p, hp⟩ : ∃ p, p = ps[i] := ⟨_, rfl⟩
      rw [← hp] at c0 c1 c2 hes hin hk2
      have Hes := Lib.hid hes
      clear hp hes hk
      obtain ⟨wo, rfl⟩ : ∃ wo : World, wo = wr := ⟨_, rfl⟩
      obtain ⟨s0, hs0⟩ : ∃ s0 : Bool, s0 = st.isSome := ⟨_, rfl⟩
      rw [← hs0]
      have Hs0 := Lib.hid hs0
      clear hs0
      go_wp2
      have hbr2 := hbr.alloc hbr.size (.cells #[.int .i64 p.floor, .int .i64 p.top, .slice la p.list.length lc] 171)
      have hbe2 := HB.out.alloc (.cells #[.int .i64 p.floor, .int .i64 p.top, .slice la p.list.length lc] 171)
      generalize wo.alloc (.cells #[.int .i64 p.floor, .int .i64 p.top, .slice la p.list.length lc] 171) = w3 at hbr2 hbe2 ⊢
      have HB2 := Lib.hid hbe2
      clear c0 c1 c2 hbe2
      go_loopw [7, 22] (fun h j wr => ∃ (k : Nat) (st : Option Ent), j = .int .i64 k ∧ k ≤ p.list.length ∧ h = .bool st.isSome ∧ Hid (greatOf ps g = greatFrom g st (restOf p k (flat (ps.drop (i + 1))))) ∧ Hid (Blk wr bb (bestVals st) 102) ∧ Below w1.heap.size w1 wr) (fun _ j _ => p.list.length - (intOf j).toNat)
      case atStart => exact ⟨0, st, rfl, Nat.zero_le _, by rw [Hs0.out], hk2, HB2, hbr2⟩
      case round =>
        obtain ⟨k, st, rfl, hk, rfl, hko, HB3, hbw⟩ := hrel
        by_cases hlt2 : k < p.list.length
        · obtain ⟨b2, off2, rfl, hbs2, d0, d1, d2⟩ := entsAt_get Hes.out k hlt2
          replace d0 := (hbw.cell (p := ⟨b2, off2 + k * 3, none⟩) hbs2).trans d0
          replace d1 := (hbw.cell (p := ⟨b2, off2 + k * 3 + 1, none⟩) hbs2).trans d1
          replace d2 := (hbw.cell (p := ⟨b2, off2 + k * 3 + 2, none⟩) hbs2).trans d2
          have hstep := hko.out
          rw [rest_step p k _ hlt2, greatFrom_cons] at hstep
          obtain ⟨x, hx⟩ : ∃ x, x = p.list[k] := ⟨_, rfl⟩
          rw [← hx] at d0 d1 d2 hstep
          clear hx
          have hbbl := HB3.out.lt
          have e0 := HB3.out.cell 0
          have e1 := HB3.out.cell 1
          have e2 := HB3.out.cell 2
          have f0 := HB3.out.free 0
          have f1 := HB3.out.free 1
          have f2 := HB3.out.free 2
          simp only [bestVals, entVals, List.getElem?_cons_succ, List.getElem?_cons_zero] at e0 e1 e2
          have hbx := hbw.alloc hbw.size (.cells #[.int .i64 x.gen, .int .i64 x.bal, .string x.mark] 102)
          have hBx := Lib.hid (HB3.out.alloc (.cells #[.int .i64 x.gen, .int .i64 x.bal, .string x.mark] 102))
          have hne : bb ≠ wr.heap.size := Nat.ne_of_lt hbbl
          have hset := (((HB3.out.set 0 (.int .i64 x.gen)).set 1 (.int .i64 x.bal)).set 2 (.string x.mark)).alloc (.cells #[.int .i64 x.gen, .int .i64 x.bal, .string x.mark] 102)
          simp only [bestVals, entVals, List.set_cons_zero, List.set_cons_succ] at hset
          have hbt := (((hbw.setCell (p := ⟨bb, 0, none⟩) hble (.int .i64 x.gen)).setCell (p := ⟨bb, 1, none⟩) hble (.int .i64 x.bal)).setCell (p := ⟨bb, 2, none⟩) hble (.string x.mark)).alloc (by simp [World.setCell]; exact hbw.size) (.cells #[.int .i64 x.gen, .int .i64 x.bal, .string x.mark] 102)
          have Hset := Lib.hid hset
          have Hbt := Lib.hid hbt
          have Hbx := Lib.hid hbx
          clear hset hbt hbx
          by_cases hg : x.gen = g
          · cases hst : st with
            | none =>
              subst hst
              have hstep2 := Lib.hid (hstep.trans (congrArg (fun s => greatFrom g s (restOf p (k + 1) (flat (ps.drop (i + 1))))) (show pick g none x = some x by unfold pick; rw [if_pos ⟨hg, rfl⟩])))
              clear hstep
              go_wp2
              go_roundw
              case rel => exact ⟨k + 1, some x, by go_num, by omega, rfl, hstep2, by rw [hg] at Hset; exact Lib.hid (by simp only [bestVals, entVals, Option.getD_some, hg]; exact Hset.out), by rw [hg] at Hbt; exact Hbt.out⟩
              case measure => simp [intOf]; omega
            | some y =>
              subst hst
              simp only [Option.getD_some] at e0 e1 e2
              by_cases hlb : y.bal < x.bal
              · have hstep2 := Lib.hid (hstep.trans (congrArg (fun s => greatFrom g s (restOf p (k + 1) (flat (ps.drop (i + 1))))) (show pick g (some y) x = some x by unfold pick; rw [if_pos ⟨hg, by simp [better, hlb]⟩])))
                clear hstep
                go_wp2
                go_roundw
                case rel => exact ⟨k + 1, some x, by go_num, by omega, rfl, hstep2, by rw [hg] at Hset; exact Lib.hid (by simp only [bestVals, entVals, Option.getD_some, hg]; exact Hset.out), by rw [hg] at Hbt; exact Hbt.out⟩
                case measure => simp [intOf]; omega
              · have hstep2 := Lib.hid (hstep.trans (congrArg (fun s => greatFrom g s (restOf p (k + 1) (flat (ps.drop (i + 1))))) (show pick g (some y) x = some y by unfold pick; rw [if_neg (fun h => hlb (by simpa [better] using h.2))])))
                clear hstep
                go_wp2
                go_roundw
                case rel => exact ⟨k + 1, some y, by go_num, by omega, rfl, hstep2, by rw [hg] at hBx; exact hBx, by rw [hg] at Hbx; exact Hbx.out⟩
                case measure => simp [intOf]; omega
          · have hstep2 := Lib.hid (hstep.trans (congrArg (fun s => greatFrom g s (restOf p (k + 1) (flat (ps.drop (i + 1))))) (show pick g st x = st by unfold pick; rw [if_neg (fun h => hg h.1)])))
            obtain ⟨s0, hs0⟩ : ∃ s0 : Bool, s0 = st.isSome := ⟨_, rfl⟩
            rw [← hs0]
            have Hs0 := Lib.hid hs0
            clear hs0 hstep e0 e1 e2
            go_wp2
            go_roundw
            case rel => exact ⟨k + 1, st, by go_num, by omega, by rw [Hs0.out], hstep2, hBx, Hbx.out⟩
            case measure => simp [intOf]; omega
        · have hend := hko.out
          rw [rest_end p k _ (by omega)] at hend
          have Hend := Lib.hid hend
          obtain ⟨s0, hs0⟩ : ∃ s0 : Bool, s0 = st.isSome := ⟨_, rfl⟩
          rw [← hs0]
          have Hs0 := Lib.hid hs0
          clear hs0 hend
          go_wp2
          go_roundw
          case rel => exact ⟨i + 1, st, by go_num, by omega, by rw [Hs0.out], Hend, HB3, hbw⟩
          case measure => simp [intOf]; omega
    · have he := hk.out
      rw [List.drop_eq_nil_of_le (by omega)] at he
      have He := Lib.hid (show greatOf ps g = st from he)
      have hz3 := Hz.out.below hbr
      have hne : bb ≠ w.heap.size := by omega
      have z0 := hz3.cell 0
      have z1 := hz3.cell 1
      have z2 := hz3.cell 2
      have f0 := hz3.free 0
      have f1 := hz3.free 1
      have f2 := hz3.free 2
      have e0 := HB.out.cell 0
      have e1 := HB.out.cell 1
      have e2 := HB.out.cell 2
      simp only [List.getElem?_cons_succ, List.getElem?_cons_zero] at z0 z1 z2
      simp only [bestVals, entVals, List.getElem?_cons_succ, List.getElem?_cons_zero] at e0 e1 e2
      have Hz3 := Lib.hid hz3
      obtain ⟨x, hx⟩ : ∃ x, x = st.getD zEnt := ⟨_, rfl⟩
      obtain ⟨s0, hs0⟩ : ∃ s0 : Bool, s0 = st.isSome := ⟨_, rfl⟩
      rw [← hx] at e0 e1 e2
      rw [← hs0]
      have Hx := Lib.hid hx
      have Hs0 := Lib.hid hs0
      clear hz3 he hx hs0 hk
      go_wp2
      have hz4 := (((Hz3.out.set 0 (.int .i64 x.gen)).set 1 (.int .i64 x.bal)).set 2 (.string x.mark))
      have y0 := hz4.cell 0
      have y1 := hz4.cell 1
      have y2 := hz4.cell 2
      simp only [List.getElem?_cons_succ, List.getElem?_cons_zero, List.set_cons_zero, List.set_cons_succ] at y0 y1 y2
      refine bodyPost_ret (v := .tuple #[.agg #[.int .i64 x.gen, .int .i64 x.bal, .string x.mark], .bool s0]) ?_ rfl ⟨by rw [He.out, greatAgg, ← Hx.out, ← Hs0.out]; rfl, ?_⟩
      · clear Hz3 hz4
        simp [results, Tryz.results122, go_sem, y0, y1, y2]
      · exact ((((hb0.trans (hbr.mono hb0.size)).setCell (Nat.le_refl _) _).setCell (Nat.le_refl _) _).setCell (Nat.le_refl _) _)
end Go.Proofs.YtaemlplcjjbamaaGreatDoor
namespace Go.Proofs.YtaemlplcjjbamaaGreatDoor
open Go Go.RowKit
set_option linter.unusedVariables false
def gotPeer (p : Peer) (gen rd : Int) (mk : ByteArray) : Peer := if rd = 0 then { p with told := true, has := gen, mark := mk } else { p with told := true }
theorem got_set3 {w1 : World} {b : Nat} {c : CSt} {ps : List Peer} {v : Nat} {p : Peer} (gen : Int) (mk : ByteArray) (h : CoordAt w1 b c) (hp : c.peers = peersVals ps) (hvl : v < ps.length) (hpv : p = ps[v]) :
    CoordAt (((w1.setCell ⟨b, 12 + v * 8, none⟩ (.bool true)).setCell ⟨b, 12 + v * 8 + 3, none⟩ (.int .i64 gen)).setCell ⟨b, 12 + v * 8 + 4, none⟩ (.string mk)) b { c with peers := peersVals (ps.set v (gotPeer p gen 0 mk)) } := by
  have q1 := h.asPeers hp v hvl
  rw [← hpv] at q1
  have q2 := q1.setPeer2 hvl 0 (by omega) (.bool true) { p with told := true } rfl
  have q3 := q2.setPeer2 hvl 3 (by omega) (.int .i64 gen) { p with told := true, has := gen } rfl
  exact q3.setPeer2 hvl 4 (by omega) (.string mk) { p with told := true, has := gen, mark := mk } rfl
theorem got_set1 {w1 : World} {b : Nat} {c : CSt} {ps : List Peer} {v : Nat} {p : Peer} (gen rd : Int) (mk : ByteArray) (h : CoordAt w1 b c) (hp : c.peers = peersVals ps) (hvl : v < ps.length) (hpv : p = ps[v]) (hr : rd ≠ 0) :
    CoordAt (w1.setCell ⟨b, 12 + v * 8, none⟩ (.bool true)) b { c with peers := peersVals (ps.set v (gotPeer p gen rd mk)) } := by
  have q1 := h.asPeers hp v hvl
  rw [← hpv] at q1
  have hg : gotPeer p gen rd mk = { p with told := true } := by unfold gotPeer; rw [if_neg hr]
  rw [hg]
  exact q1.setPeer2 hvl 0 (by omega) (.bool true) { p with told := true } rfl
set_option maxRecDepth 100000 in
set_option maxHeartbeats 4000000 in
theorem got_any (b : Nat) (c : CSt) (ps : List Peer) (v : Nat) (kind to' bal gen basis fl tp rd pa po : Int) (mk pt : ByteArray) (ls : Value) (w : World) (h : CoordAt w b c) (hp : c.peers = peersVals ps) (hps : ps.length = 9) (hv : v < 9) (ht : (ps[v]'(by omega)).told = true) (htp : tp ≤ (ps[v]'(by omega)).top) :
    Calls Tryz.prog 84 #[.pointer (some ⟨b, 0, none⟩), .agg #[.int .i64 kind, .int .i64 (v : Int), .int .i64 to', .int .i64 bal, .int .i64 gen, .int .i64 basis, .int .i64 fl, .int .i64 tp, .int .i64 rd, .string mk, .int .i64 pa, .int .i64 po, .string pt, ls]] w fun e w' =>
      e = .returned (.tuple #[]) ∧ CoordAt w' b { c with peers := peersVals (ps.set v (gotPeer (ps[v]'(by omega)) gen rd mk)) } ∧ Touch (fun k => k = b) w w' := by
  have hbl := h.1.lt
  obtain ⟨p, hpv⟩ : ∃ p, p = ps[v]'(by omega) := ⟨_, rfl⟩
  rw [← hpv] at ht htp ⊢
  have c0 : w.cell? ⟨b, 12 + v * 8, none⟩ = some (.bool true) := by rw [← ht, hpv]; exact h.peer hp v (by omega) 0 (by omega)
  have c2 : w.cell? ⟨b, 12 + v * 8 + 2, none⟩ = some (.int .i64 p.top) := by rw [hpv]; exact h.peer hp v (by omega) 2 (by omega)
  have c3 : w.cell? ⟨b, 12 + v * 8 + 3, none⟩ = some (.int .i64 p.has) := by rw [hpv]; exact h.peer hp v (by omega) 3 (by omega)
  have c4 : w.cell? ⟨b, 12 + v * 8 + 4, none⟩ = some (.string p.mark) := by rw [hpv]; exact h.peer hp v (by omega) 4 (by omega)
  have f0 := h.1.free (12 + v * 8)
  have f3 := h.1.free (12 + v * 8 + 3)
  have f4 := h.1.free (12 + v * 8 + 4)
  have hv1 : (0 : Int) ≤ (v : Int) := by omega
  have hv2 : (v : Int) < 9 := by omega
  have hnt : ¬ p.top < tp := by omega
  have H := Lib.hid h
  have Hp := Lib.hid hp
  have Hpv := Lib.hid hpv
  clear h hp hpv ht htp
  by_cases hr : rd = 0
  · obtain rfl := hr
    go_enter Tryz.func84, Tryz.ntmps84
    go_wp2
    go_quiet (fail)
    go_wp2
    go_quiet (fail)
    go_wp2
    go_region
    all_goals go_wp2
    all_goals go_end0
    all_goals
      refine ⟨rfl, ?_, ?_⟩
      · refine CoordAt.drew ?_
        refine got_set3 gen mk ?_ Hp.out (by omega) Hpv.out
        exact (H.out.alloc _).drewN _
      · refine Touch.drew ?_
        refine touchOne_set ?_ _
        refine touchOne_set ?_ _
        refine touchOne_set ?_ _
        exact ((Touch.refl _ _).alloc _).drewN _
  · have hrb : (rd == 0) = false := by rw [beq_eq_false_iff_ne]; exact hr
    have Hr := Lib.hid hr
    clear hr
    go_enter Tryz.func84, Tryz.ntmps84
    go_wp2
    go_quiet (fail)
    go_wp2
    go_quiet (fail)
    go_wp2
    go_end0
    refine ⟨rfl, ?_, ?_⟩
    · refine got_set1 gen rd mk ?_ Hp.out (by omega) Hpv.out Hr.out
      exact (H.out.alloc _).drewN _
    · refine touchOne_set ?_ _
      exact ((Touch.refl _ _).alloc _).drewN _
/-- an image at hand -/
def knF (I : List (Int × List UInt8)) (g : Int) : Option (List UInt8) := (I.find? fun x => x.1 == g).map (·.2)
theorem knF_some {I : List (Int × List UInt8)} {g : Int} {k : Nat} {x : Int × List UInt8} (hx : I[k]? = some x) (hg : x.1 = g) (h : ∀ i, i < k → ∀ y, I[i]? = some y → y.1 ≠ g) : knF I g = some x.2 := by
  induction I generalizing k with
  | nil => cases hx
  | cons y I ih =>
    unfold knF
    cases k with
    | zero =>
      simp at hx
      subst hx
      rw [List.find?_cons_of_pos (by simpa using hg)]
      rfl
    | succ k =>
      have h0 := h 0 (by omega) y rfl
      rw [List.find?_cons_of_neg (by simpa using h0)]
      exact ih (by simpa using hx) (fun i hi z hz => h (i + 1) (by omega) z (by simpa using hz))
theorem knF_none {I : List (Int × List UInt8)} {g : Int} (h : ∀ i, i < I.length → ∀ y, I[i]? = some y → y.1 ≠ g) : knF I g = none := by
  unfold knF
  rw [List.find?_eq_none.2]
  · rfl
  · intro x hx
    obtain ⟨i, hi, rfl⟩ := List.mem_iff_getElem.1 hx
    simpa using h i hi _ (List.getElem?_eq_getElem hi)
set_option maxRecDepth 100000 in
set_option maxHeartbeats 4000000 in
theorem cknown_any (b B : Nat) (c : CSt) (I : List (Int × List UInt8)) (g : Int) (w : World) (h : CoordAt w b c) (hr : w.ownsRow B 151 2 c.images I.length (knV I)) (hl : I.length ≤ 1000000) :
    Calls Tryz.prog 53 #[.pointer (some ⟨b, 0, none⟩), .int .i64 g] w fun e w' => e = .returned (.tuple #[.string (ba ((knF I g).getD [])), .bool (knF I g).isSome]) ∧ Below w.heap.size w w' := by
  have hbl := h.1.lt
  have c8 : w.cell? ⟨b, 8, none⟩ = some c.images := h.hd 8 (by omega)
  obtain ⟨m, hm⟩ : ∃ m, m = I.length := ⟨_, rfl⟩
  rw [← hm] at hr hl
  obtain ⟨ia, ic, hi⟩ := row_shape hr
  rw [hi] at c8 hr
  have HR := Lib.hid hr
  have Hm := Lib.hid hm
  clear h hr hi hm
  go_enter Tryz.func53, Tryz.ntmps53
  go_wp2_with fail
  go_loopw [13] (fun jv wr => ∃ k : Nat, jv = .int .i64 (k : Int) ∧ k ≤ m ∧ Hid (∀ i, i < k → ∀ y, I[i]? = some y → y.1 ≠ g) ∧ Hid (Below w.heap.size w wr)) (fun jv _ => m - (intOf jv).toNat)
  case atStart => exact ⟨0, rfl, Nat.zero_le _, Lib.hid (fun i hi => absurd hi (Nat.not_lt_zero _)), Lib.hid (Below.refl _ _)⟩
  case round =>
    obtain ⟨k, rfl, hk, HF, HB⟩ := hrel
    clear c8
    by_cases hlt : k < m
    · have HRr := Lib.hid (ownsRow_below HR.out HB.out)
      obtain ⟨gg, cap, hv0, hg2, hg3, hg4, hg6, hg5⟩ := row_some HRr.out (by omega)
      simp only [Value.slice.injEq] at hv0
      obtain ⟨rfl, _, rfl⟩ := hv0
      obtain ⟨x, hx⟩ : ∃ x, I[k]? = some x := ⟨_, List.getElem?_eq_getElem (by have := Hm.out; omega)⟩
      obtain ⟨v1, v2⟩ := knV_at hx
      have e1 := (hg5 (k * 2) (by omega)).trans v1
      have e2 := (hg5 (k * 2 + 1) (by omega)).trans v2
      have Hx := Lib.hid hx
      obtain ⟨xg, xt⟩ := x
      simp only at e1 e2
      have HBa := Lib.hid (HB.out.alloc HB.out.size (.cells #[.int .i64 xg, .string (ba xt)] 151))
      clear hg5 v1 v2 hx
      by_cases h1 : xg = g
      · have hb1 : (xg == g) = true := by rw [h1]; simp
        have Hkn := Lib.hid (knF_some Hx.out h1 HF.out)
        clear h1
        go_wp2_with fail
        go_ret2
        rw [Hkn.out]
        exact ⟨rfl, HBa.out⟩
      · have hb1 : (xg == g) = false := by rw [beq_eq_false_iff_ne]; exact h1
        have H1 := Lib.hid h1
        clear h1
        go_wp2_with fail
        go_roundw
        case rel =>
          refine ⟨k + 1, by go_num, by omega, Lib.hid (fun i hi y hy => ?_), HBa⟩
          by_cases hik : i < k
          · exact HF.out i hik y hy
          · obtain rfl : i = k := by omega
            have := Hx.out
            rw [this] at hy
            injection hy with hy
            subst hy
            exact H1.out
        case measure => simp [intOf]; omega
    · have hkm : k = m := by omega
      subst hkm
      have Hkn := Lib.hid (knF_none (I := I) (g := g) (by rw [← Hm.out]; exact HF.out))
      go_wp2_with fail
      go_ret2
      rw [Hkn.out]
      exact ⟨rfl, HB.out⟩
end Go.Proofs.YtaemlplcjjbamaaGreatDoor
