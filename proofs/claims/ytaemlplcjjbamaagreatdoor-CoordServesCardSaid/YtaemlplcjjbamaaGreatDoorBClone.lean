/- The walk of a coordinator's room. Condition: all vaults are as far, and not too far behind. What may be a name, a path, a tree: plain, as the program tells it and as the document tells it. No program in sight. Files in memory. No condition. The walks of tree's name, Path, Order, Within, paths, mode, Check. Conditions: texts of at most 2^62 bytes. The walk of slices.Clone at []api.File. Condition: at most 10^6 files. -/
import Derived.Test.YtaemlplcjjbamaaGreatDoorBKn
import Derived.Test.YtaemlplcjjbamaaGreatDoorBReached
import Derived.Test.YtaemlplcjjbamaaGreatDoorBAsk
import Derived.Test.YtaemlplcjjbamaaGreatDoorBHeld
import Derived.IntWalk
import Derived.Deep.RegionHeld3
import Derived.Lib.SplitLaws
import Derived.Laws.RangeAny
import Derived.Test.YtaemlplcjjbamaaGreatDoorBShelf
import Derived.Test.YtaemlplcjjbamaaGreatDoorRows
import Derived.Deep.AppendLies
import Derived.Lib.SliceRun
namespace Go.Proofs.YtaemlplcjjbamaaGreatDoor
open Go Go.RowKit
set_option linter.unusedVariables false
theorem info_intR : (Tryz.prog.info? 3).map (fun i => (i.zero, i.size, i.bytes)) = some (some (.int .i64 0), 1, 8) := by kernel_rfl
theorem ints_rowR {w : World} {base : Nat} {v : Value} {l : List Int} (h : w.ownsRow base 3 1 v l.length (l.map (Value.int .i64))) : ∃ ad cap, v = .slice ad l.length cap ∧ IntsAt .i64 w ad l := by
  rcases h.2 with ⟨rfl, h0⟩ | ⟨g, cap, cur, rfl, hb, hg, h3, h4, h5, h6⟩
  · exact ⟨none, 0, by rw [h0], Or.inl (List.eq_nil_of_length_eq_zero h0)⟩
  · refine ⟨_, cap, rfl, Or.inr ⟨g, 0, rfl, (h.lt g rfl).2, fun i hi => ?_⟩⟩
    have := h.cells (g := g) rfl i (.int .i64 l[i]) (by rw [List.getElem?_map, List.getElem?_eq_getElem hi]; rfl)
    rw [addr_add] at this
    rw [Nat.zero_add]
    exact this
set_option maxRecDepth 100000 in
set_option maxHeartbeats 4000000 in
theorem room_ok (b n : Nat) (c : CSt) (ps : List Peer) (t : Int) (w : World) (h : CoordAt w b c) (hp : c.peers = peersVals ps) (hps : ps.length = 9) (hcn : c.n = (n : Int)) (hn1 : 1 ≤ n) (hn9 : n ≤ 9) (hall : ∀ v, (hv : v < n) → (ps[v]'(by omega)).top = t) (hf0 : 0 ≤ c.floor) (hf1 : c.floor ≤ c.top) (hf2 : c.top ≤ 1000000) (hf : c.top - c.floor < 32) (ht0 : 0 ≤ t) (ht1 : t ≤ c.top) (ht : c.top - t < 8) :
    Calls Tryz.prog 57 #[.pointer (some ⟨b, 0, none⟩)] w fun e w' => e = .returned (.bool true) ∧ Below w.heap.size w w' := by
  have HC := Lib.hid h
  have Hp := Lib.hid hp
  have Hall := Lib.hid hall
  have c1 : w.cell? ⟨b, 1, none⟩ = some (.int .i64 (n : Int)) := by rw [← hcn]; exact h.hd 1 (by omega)
  have c5 : w.cell? ⟨b, 5, none⟩ = some (.int .i64 c.floor) := h.hd 5 (by omega)
  have c6 : w.cell? ⟨b, 6, none⟩ = some (.int .i64 c.top) := h.hd 6 (by omega)
  have H6 := Lib.hid (fun w' (hb : Below w.heap.size w w') => (show w'.cell? ⟨b, 6, none⟩ = some (.int .i64 c.top) from (h.below hb).hd 6 (by omega)))
  generalize c.floor = cf at c5 hf0 hf1 hf
  generalize c.top = ct at c6 H6 hf1 hf2 hf ht1 ht
  have hbl := h.1.lt
  clear h hp hcn hall
  go_enter Tryz.func57, Tryz.ntmps57
  go_wp2
  go_quiet (fail)
  go_wp2
  rename_i nq
  go_loopw [3, 22] (fun lv iv wr => ∃ k : Nat, iv = .int .i64 (k : Int) ∧ k ≤ n ∧ Hid (wr.ownsRow w.heap.size 3 1 lv k (List.replicate k (Value.int .i64 t))) ∧ Hid (Below w.heap.size w wr)) (fun _ iv _ => n - (intOf iv).toNat)
  case atStart => exact ⟨0, rfl, Nat.zero_le _, Lib.hid (World.ownsRow_nil _ _ _ _), Lib.hid (below_drewN (Below.refl _ _) _)⟩
  case round =>
    obtain ⟨k, rfl, hk, HV, HB⟩ := hrel
    clear c1 c5 c6
    by_cases hlt : k < n
    · have hCr := HC.out.below HB.out
      have d2 : wr.cell? ⟨b, 12 + k * 8 + 2, none⟩ = some (.int .i64 t) := by rw [← Hall.out k hlt]; exact hCr.peer Hp.out k (by omega) 2 (by omega)
      have hk1 : (0 : Int) ≤ (k : Int) := by omega
      have hk2 : (k : Int) < 9 := by omega
      have hszr := HB.out.size
      obtain ⟨ha, hc, rfl⟩ := row_shape HV.out
      have HVa := Lib.hid (HV.out)
      clear hCr
      go_wp2_with (at_builtin; refine append_own1 rfl _ _ 130 rfl w.heap.size 3 1 8 Tryz.underlying130 _ info_intR rfl (by decide) _ _ _ rfl HVa.out (wr.heap.size) rfl [.int .i64 t] rfl rfl (by simp [Value.oneCell']) ?c1 ?c2 ?c3 ?_)
      case c1 => unfold maxLen; omega
      case c2 => omega
      case c3 => first | omega | (simp; omega)
      intro v' w2 hown hg
      have hb2 : Below w.heap.size wr w2 := (touch_grown ((Touch.refl (fun j => w.heap.size ≤ j) wr).alloc _) hg (fun g hg => Or.inl (HV.out.lt g hg).1)).below (by omega) (fun k hk e => by omega)
      have HV2 := Lib.hid (show w2.ownsRow w.heap.size 3 1 v' (k + 1) (List.replicate (k + 1) (Value.int .i64 t)) by rw [List.replicate_succ']; exact hown)
      have HB2 := Lib.hid (HB.out.trans hb2)
      clear hown hg hb2 d2
      go_wp2_with fail
      go_roundw
      case rel => exact ⟨k + 1, by go_num, by omega, HV2, HB2⟩
      case measure => simp [intOf]; omega
    · obtain rfl : k = n := by omega
      have hlen : (List.replicate k t).length = k := List.length_replicate
      obtain ⟨ad, cap, hv, hat⟩ := ints_rowR (l := List.replicate k t) (by rw [hlen, List.map_replicate]; exact HV.out)
      rw [hlen] at hv
      subst hv
      have HRe := Lib.hid (fun w' (hb : Below wr.heap.size wr w') => (show Calls Tryz.prog 89 #[.slice ad k cap] w' fun e w2 => e = .returned (.int .i64 t) ∧ Below w'.heap.size w' w2 from by
        have := reached_any w' ad cap (List.replicate k t) (by rw [hlen]; omega) (intsAt_below hat hb)
        rw [hlen, reach_same _ t (fun x hx => List.eq_of_mem_replicate hx) (by intro e; rw [e] at hlen; simp at hlen; omega)] at this
        exact this))
      have e6 := H6.out wr HB.out
      have hk6 : wr.drew.cell? ⟨b, 6, none⟩ = some (.int .i64 ct) := e6
      have H6r := Lib.hid (fun w' (hb : Below wr.heap.size wr w') => H6.out w' (HB.out.trans (hb.mono HB.out.size)))
      have hsub : ¬ (8 : Int) ≤ ct - t := by omega
      have hlt8 : ct - t < 8 := by omega
      clear HV hat
      go_wp2_with fail
      go_region_held3 (fun w' => w'.cell? ⟨b, 6, none⟩ = some (.int .i64 ct))
        (first | with_reducible exact hk6 | with_reducible exact H6r.out _ (by assumption) | go_keep)
        ((go_at_call 89; refine (HRe.out _ (Below.refl _ _).drew).mono ?_; rintro e w1 ⟨rfl, hb1⟩; have hb2 := below_step ((Below.refl _ wr).drew) hb1))
      have hwr : IntKind.i64.wrap (ct - t) = ct - t := IntWalk.i64_in _ (by omega)
      rw [hwr, decide_eq_true hlt8]
      have HB3 := Lib.hid (HB.out.trans (hb2.mono HB.out.size))
      clear hwr hb1 hb2
      go_wp2_with fail
      go_ret
      exact ⟨rfl, HB3.out⟩
end Go.Proofs.YtaemlplcjjbamaaGreatDoor
namespace Go.Proofs.YtaemlplcjjbamaaGreatDoor
open Go Go.RowKit
set_option linter.unusedVariables false
/-- a byte that a name may have -/
def okNB (b : UInt8) : Bool := decide (33 ≤ b.toNat ∧ b.toNat ≤ 126)
def nameL (s : List UInt8) : Bool := decide (s ≠ [] ∧ s ≠ [46] ∧ s ≠ [46, 46] ∧ s.length ≤ 32) && s.all okNB
/-- what lies between slashes -/
def pieces : List UInt8 → List (List UInt8)
  | [] => [[]]
  | c :: r => if c = 47 then [] :: pieces r else match pieces r with | [] => [[c]] | p :: ps => (c :: p) :: ps
theorem pieces_none : ∀ (a : List UInt8), (∀ b ∈ a, b ≠ 47) → pieces a = [a]
  | [], _ => rfl
  | c :: r, h => by
    unfold pieces
    rw [if_neg (h c (List.mem_cons.2 (Or.inl rfl))), pieces_none r (fun b hb => h b (List.mem_cons.2 (Or.inr hb)))]
theorem pieces_cut : ∀ (a r : List UInt8), (∀ b ∈ a, b ≠ 47) → pieces (a ++ 47 :: r) = a :: pieces r
  | [], r, _ => by
    show pieces (47 :: r) = _
    conv => lhs; unfold pieces
    rw [if_pos rfl]
  | c :: a, r, h => by
    show pieces (c :: (a ++ 47 :: r)) = _
    conv => lhs; unfold pieces
    rw [if_neg (h c (List.mem_cons.2 (Or.inl rfl))), pieces_cut a r (fun b hb => h b (List.mem_cons.2 (Or.inr hb)))]
theorem index_slash : ∀ (s : List UInt8), (Lib.index s [47] = -1 ∧ ∀ b ∈ s, b ≠ 47) ∨ ∃ (i : Nat), Lib.index s [47] = i ∧ ∃ r, s = s.take i ++ 47 :: r ∧ r = s.drop (i + 1) ∧ ∀ b ∈ s.take i, b ≠ 47
  | [] => Or.inl ⟨rfl, fun b hb => by cases hb⟩
  | c :: l => by
    by_cases hc : c = 47
    · subst hc
      right
      refine ⟨0, ?_, l, rfl, rfl, fun b hb => by cases hb⟩
      rw [Lib.index]
      simp [List.isPrefixOf]
    · have hp : ([47] : List UInt8).isPrefixOf (c :: l) = false := by simp [List.isPrefixOf, Ne.symm hc]
      have hix : Lib.index (c :: l) [47] = if Lib.index l [47] == -1 then -1 else Lib.index l [47] + 1 := by rw [Lib.index, hp]; simp
      rcases index_slash l with ⟨h1, h2⟩ | ⟨i, h1, r, h2, h3, h4⟩
      · left
        refine ⟨by rw [hix, h1]; rfl, fun b hb => ?_⟩
        rcases List.mem_cons.1 hb with rfl | hb
        · exact hc
        · exact h2 b hb
      · right
        refine ⟨i + 1, ?_, r, ?_, h3, fun b hb => ?_⟩
        · rw [hix, h1, if_neg (by rw [beq_iff_eq]; omega)]
          omega
        · rw [List.take_succ_cons, List.cons_append, ← h2]
        · rw [List.take_succ_cons] at hb
          rcases List.mem_cons.1 hb with rfl | hb
          · exact hc
          · exact h4 b hb
theorem splitK_pieces : ∀ (k : Nat) (s : List UInt8), s.count 47 = k → Lib.splitK [47] 0 k s = pieces s
  | 0, s, h => by
    have hn : ∀ b ∈ s, b ≠ 47 := fun b hb e => by
      subst e
      have := List.count_pos_iff.2 hb
      omega
    rw [pieces_none s hn]
    rfl
  | k + 1, s, h => by
    rcases index_slash s with ⟨h1, h2⟩ | ⟨i, h1, r, h2, h3, h4⟩
    · exfalso
      have : s.count 47 = 0 := List.count_eq_zero.2 (fun hm => h2 47 hm rfl)
      omega
    · unfold Lib.splitK
      rw [h1, if_neg (by rw [beq_iff_eq]; omega)]
      show s.take (((i : Nat) : Int).toNat + 0) :: Lib.splitK [47] 0 k (s.drop (((i : Nat) : Int).toNat + 1)) = _
      rw [Int.toNat_natCast, Nat.add_zero, ← h3]
      have hc : r.count 47 = k := by
        have e := congrArg (List.count 47) h2
        rw [List.count_append, List.count_cons_self] at e
        have : (s.take i).count 47 = 0 := List.count_eq_zero.2 (fun hm => h4 47 hm rfl)
        omega
      rw [splitK_pieces k r hc]
      conv => rhs; rw [h2]
      rw [pieces_cut _ _ h4]
theorem split_pieces (s : ByteArray) : (Lib.splitB ⟨#[47]⟩ 0 (Lib.countB s ⟨#[47]⟩) s).map (·.data.toList) = pieces s.data.toList := by
  rw [Lib.splitB_data]
  have e : Lib.countB s ⟨#[47]⟩ = s.data.toList.count 47 := Lib.count_one 47 s.data.toList
  rw [e]
  exact splitK_pieces _ _ rfl
/-- what is wrong with a path -/
def pathE (s : ByteArray) : Int := if 200 < s.size then 4 else if (pieces s.data.toList).all nameL = true then 0 else 10
/-- how two paths stand, as the program tells it -/
def ordZ : List UInt8 → List UInt8 → Int
  | x :: a, y :: b => if x = y then ordZ a b else if x = 47 then -1 else if y = 47 then 1 else (x.toNat : Int) - (y.toNat : Int)
  | a, b => (a.length : Int) - (b.length : Int)
theorem ordZ_nil (b : List UInt8) : ordZ [] b = -(b.length : Int) := by
  unfold ordZ
  simp
theorem ordZ_nil2 (a : List UInt8) : ordZ a [] = (a.length : Int) := by
  cases a <;> unfold ordZ <;> simp
theorem ordZ_cons (x y : UInt8) (a b : List UInt8) : ordZ (x :: a) (y :: b) = if x = y then ordZ a b else if x = 47 then -1 else if y = 47 then 1 else (x.toNat : Int) - (y.toNat : Int) := by
  conv => lhs; unfold ordZ
/-- how two paths stand, as the document tells it -/
def keyB (b : UInt8) : Int := if b = 47 then 0 else (b.toNat : Int) + 1
def ordR : List UInt8 → List UInt8 → Int
  | [], [] => 0
  | [], _ :: _ => -1
  | _ :: _, [] => 1
  | x :: a, y :: b => if keyB x < keyB y then -1 else if keyB y < keyB x then 1 else ordR a b
theorem toNat_ne {x y : UInt8} (h : x ≠ y) : (x.toNat : Int) ≠ (y.toNat : Int) := fun e => h (UInt8.toNat_inj.1 (by omega))
theorem ordR_pos : ∀ (a b : List UInt8), (ordR b a < 0 ↔ 0 < ordZ a b) ∧ (ordZ a b = 0 ↔ a = b)
  | [], [] => by decide
  | [], y :: b => by
    rw [ordZ_nil]
    refine ⟨⟨fun h => ?_, fun h => ?_⟩, ⟨fun h => ?_, fun h => by cases h⟩⟩
    · unfold ordR at h; omega
    · simp at h; omega
    · simp at h; omega
  | x :: a, [] => by
    rw [ordZ_nil2]
    refine ⟨⟨fun h => by simp, fun h => ?_⟩, ⟨fun h => ?_, fun h => by cases h⟩⟩
    · unfold ordR; omega
    · simp at h; omega
  | x :: a, y :: b => by
    obtain ⟨h1, h2⟩ := ordR_pos a b
    have hx := x.toNat_lt
    have hy := y.toNat_lt
    have hk : ordR (y :: b) (x :: a) = if keyB y < keyB x then -1 else if keyB x < keyB y then 1 else ordR b a := by
      conv => lhs; unfold ordR
    rw [ordZ_cons, hk]
    by_cases hxy : x = y
    · subst hxy
      rw [if_neg (by omega), if_neg (by omega), if_pos rfl]
      exact ⟨h1, by rw [h2]; simp⟩
    · have hne := toNat_ne hxy
      rw [if_neg hxy]
      have hf : ¬ (x :: a = y :: b) := fun e => hxy (by injection e)
      have e47 : (47 : UInt8).toNat = 47 := rfl
      unfold keyB
      by_cases hx47 : x = 47
      · have hy47 : ¬ y = 47 := fun e => hxy (hx47.trans e.symm)
        rw [if_pos hx47, if_pos hx47, if_neg hy47]
        rw [if_neg (by omega), if_pos (by omega)]
        exact ⟨by omega, by constructor <;> intro h <;> first | omega | exact absurd h hf⟩
      · rw [if_neg hx47, if_neg hx47]
        by_cases hy47 : y = 47
        · rw [if_pos hy47, if_pos hy47, if_pos (by omega)]
          exact ⟨by omega, by constructor <;> intro h <;> first | omega | exact absurd h hf⟩
        · rw [if_neg hy47, if_neg hy47]
          by_cases hlt : (y.toNat : Int) < x.toNat
          · rw [if_pos (by omega)]
            exact ⟨by omega, by constructor <;> intro h <;> first | omega | exact absurd h hf⟩
          · rw [if_neg (by omega), if_pos (by omega)]
            exact ⟨by omega, by constructor <;> intro h <;> first | omega | exact absurd h hf⟩
/-- does a path lie in another one? -/
def withinB (s p : ByteArray) : Bool := decide (p.data.toList ++ [47] <+: s.data.toList)
/-- a file of a tree -/
structure TFile where
  path : ByteArray
  mode : Int
  data : ByteArray
/-- what is wrong with paths, behind another one -/
def pathsGo : Option ByteArray → List ByteArray → Int
  | _, [] => 0
  | none, s :: r => if pathE s ≠ 0 then pathE s else pathsGo (some s) r
  | some p, s :: r => if pathE s ≠ 0 then pathE s else if 0 < ordZ p.data.toList s.data.toList then 12 else if p = s ∨ withinB s p = true then 9 else pathsGo (some s) r
def pathsE (l : List ByteArray) : Int := if 256 < l.length then 7 else pathsGo none l
def modesE : List TFile → Int
  | [] => 0
  | f :: r => if f.mode < 0 ∨ 511 < f.mode then 11 else if 65536 < f.data.size then 4 else modesE r
/-- what is wrong with a tree -/
def checkE (l : List TFile) : Int := if pathsE (l.map TFile.path) ≠ 0 then pathsE (l.map TFile.path) else modesE l
def prevOf (l : List ByteArray) (i : Nat) : Option ByteArray := if i = 0 then none else l[i - 1]?
theorem prevOf_succ {l : List ByteArray} {i : Nat} (h : i < l.length) : prevOf l (i + 1) = some l[i] := by
  unfold prevOf
  rw [if_neg (by omega), Nat.add_sub_cancel, List.getElem?_eq_getElem h]
theorem paths_end {l : List ByteArray} {i : Nat} (h : ¬ i < l.length) : pathsGo (prevOf l i) (l.drop i) = 0 := by
  rw [List.drop_eq_nil_of_le (by omega)]
  unfold pathsGo
  rfl
theorem paths_bad {l : List ByteArray} {i : Nat} (h : i < l.length) (he : pathE l[i] ≠ 0) : pathsGo (prevOf l i) (l.drop i) = pathE l[i] := by
  rw [List.drop_eq_getElem_cons h]
  cases prevOf l i with
  | none => unfold pathsGo; rw [if_pos he]
  | some p => unfold pathsGo; rw [if_pos he]
theorem paths_first {l : List ByteArray} (h : 0 < l.length) (he : pathE l[0] = 0) : pathsGo (prevOf l 0) (l.drop 0) = pathsGo (prevOf l 1) (l.drop 1) := by
  rw [List.drop_eq_getElem_cons h, prevOf_succ h]
  have e : prevOf l 0 = none := rfl
  rw [e]
  conv => lhs; unfold pathsGo
  rw [if_neg (fun hh => hh he)]
theorem paths_step {l : List ByteArray} {i : Nat} (h : i + 1 < l.length) (he : pathE l[i + 1] = 0) :
    pathsGo (prevOf l (i + 1)) (l.drop (i + 1)) = if 0 < ordZ l[i].data.toList l[i + 1].data.toList then 12 else if l[i] = l[i + 1] ∨ withinB l[i + 1] l[i] = true then 9 else pathsGo (prevOf l (i + 2)) (l.drop (i + 2)) := by
  rw [List.drop_eq_getElem_cons h, prevOf_succ h, prevOf_succ (show i < l.length by omega)]
  conv => lhs; unfold pathsGo
  rw [if_neg (fun hh => hh he)]
theorem modes_step {l : List TFile} {i : Nat} (h : i < l.length) : modesE (l.drop i) = if l[i].mode < 0 ∨ 511 < l[i].mode then 11 else if 65536 < l[i].data.size then 4 else modesE (l.drop (i + 1)) := by
  rw [List.drop_eq_getElem_cons h]
  conv => lhs; unfold modesE
theorem modes_end {l : List TFile} {i : Nat} (h : ¬ i < l.length) : modesE (l.drop i) = 0 := by
  rw [List.drop_eq_nil_of_le (by omega)]
  rfl
end Go.Proofs.YtaemlplcjjbamaaGreatDoor
namespace Go.Proofs.YtaemlplcjjbamaaGreatDoor
open Go Go.RowKit
set_option linter.unusedVariables false
def tfV (x : TFile) : List Value := [.string x.path, .int .i64 x.mode, .string x.data]
def tfsVals (l : List TFile) : List Value := l.flatMap tfV
theorem tfsVals_length : ∀ (l : List TFile), (tfsVals l).length = l.length * 3
  | [] => rfl
  | x :: l => by
    have := tfsVals_length l
    show (tfV x ++ tfsVals l).length = _
    rw [List.length_append, this, List.length_cons]
    show 3 + _ = _
    omega
theorem tfsVals_append (l r : List TFile) : tfsVals (l ++ r) = tfsVals l ++ tfsVals r := by simp [tfsVals]
theorem tfsVals_at : ∀ (l : List TFile) (k : Nat) (hk : k < l.length) (j : Nat), j < 3 → (tfsVals l)[k * 3 + j]? = (tfV l[k])[j]?
  | [], k, hk, _, _ => by simp at hk
  | x :: l, k, hk, j, hj => by
    have e : tfsVals (x :: l) = tfV x ++ tfsVals l := rfl
    have hl : (tfV x).length = 3 := rfl
    rw [e]
    cases k with
    | zero => rw [List.getElem?_append_left (by omega)]; simp
    | succ k =>
      rw [List.getElem?_append_right (by omega), hl, show (k + 1) * 3 + j - 3 = k * 3 + j by omega]
      exact tfsVals_at l k (by simpa using hk) j hj
def TfsAt (w : World) (ad : Option Addr) (l : List TFile) : Prop :=
  l = [] ∨ ∃ b off, ad = some ⟨b, off, none⟩ ∧ b < w.heap.size ∧ ∀ k (hk : k < l.length), w.cell? ⟨b, off + k * 3, none⟩ = some (.string l[k].path) ∧ w.cell? ⟨b, off + k * 3 + 1, none⟩ = some (.int .i64 l[k].mode) ∧ w.cell? ⟨b, off + k * 3 + 2, none⟩ = some (.string l[k].data)
theorem TfsAt.below {w w' : World} {ad : Option Addr} {l : List TFile} (h : TfsAt w ad l) (hb : Below w.heap.size w w') : TfsAt w' ad l := by
  rcases h with h | ⟨b, off, h1, h2, h3⟩
  · exact Or.inl h
  · refine Or.inr ⟨b, off, h1, Nat.lt_of_lt_of_le h2 hb.size, fun k hk => ?_⟩
    rw [hb.cell (p := ⟨b, off + k * 3, none⟩) h2, hb.cell (p := ⟨b, off + k * 3 + 1, none⟩) h2, hb.cell (p := ⟨b, off + k * 3 + 2, none⟩) h2]
    exact h3 k hk
theorem TfsAt.get {w : World} {ad : Option Addr} {l : List TFile} (h : TfsAt w ad l) (k : Nat) (hk : k < l.length) :
    ∃ b off, ad = some ⟨b, off, none⟩ ∧ b < w.heap.size ∧ w.cell? ⟨b, off + k * 3, none⟩ = some (.string l[k].path) ∧ w.cell? ⟨b, off + k * 3 + 1, none⟩ = some (.int .i64 l[k].mode) ∧ w.cell? ⟨b, off + k * 3 + 2, none⟩ = some (.string l[k].data) := by
  obtain ⟨b, off, e, hb, hc⟩ := h.resolve_left (by intro h; rw [h] at hk; simp at hk)
  exact ⟨b, off, e, hb, hc k hk⟩
theorem tfsAt_own {w : World} {base : Nat} {e : TypeId} {x : Option Addr} {y : Nat} {l : List TFile} (h : w.ownsRow base e 3 (.slice x l.length y) l.length (tfsVals l)) : TfsAt w x l := by
  by_cases h0 : l.length = 0
  · exact Or.inl (List.length_eq_zero_iff.1 h0)
  · obtain ⟨g, cap, hv, _, hg, _, _, hc⟩ := row_some h (by omega)
    injection hv with hv _ _
    subst hv
    refine Or.inr ⟨g, 0, rfl, hg, fun k hk => ?_⟩
    refine ⟨?_, ?_, ?_⟩
    · rw [Nat.zero_add, hc _ (by omega)]; exact tfsVals_at l k hk 0 (by omega)
    · rw [Nat.zero_add, hc _ (by omega)]; exact tfsVals_at l k hk 1 (by omega)
    · rw [Nat.zero_add, hc _ (by omega)]; exact tfsVals_at l k hk 2 (by omega)
/-- what the statement makes of a tree -/
def fewF (f : TFile) : TFile := if 2000 < f.data.size then { f with data := f.data.extract 0 2000 } else f
def fewL (l : List TFile) : List TFile := (l.take 8).map fewF
end Go.Proofs.YtaemlplcjjbamaaGreatDoor
namespace Go.Proofs.YtaemlplcjjbamaaGreatDoor
open Go Go.RowKit
set_option linter.unusedVariables false
theorem strq_eq (a b : ByteArray) : (a.toList == b.toList) = decide (a = b) := by
  rw [Bool.eq_iff_iff, decide_eq_true_iff, beq_iff_eq]
  constructor
  · intro h
    rw [ByteArray.toList_eq, ByteArray.toList_eq] at h
    cases a; cases b
    simp at h
    rw [h]
  · rintro rfl; rfl
theorem strq_ne {a b : ByteArray} (h : a ≠ b) : (a.toList == b.toList) = false := by rw [strq_eq, decide_eq_false h]
theorem lst_ne {s : ByteArray} {l : List UInt8} (h : s ≠ ⟨l.toArray⟩) : ¬ s.toList = l := by
  intro e
  rw [ByteArray.toList_eq] at e
  apply h
  cases s
  simp at e
  rw [← e]
theorem lstq_ne {s : ByteArray} {l : List UInt8} (h : s ≠ ⟨l.toArray⟩) : (s.toList == l) = false := beq_eq_false_iff_ne.2 (lst_ne h)
theorem emptyq_ne {s : ByteArray} (h : s ≠ ⟨#[]⟩) : s.toList.isEmpty = false := by
  have := lst_ne (l := []) h
  cases hs : s.toList with
  | nil => exact absurd hs this
  | cons a b => rfl
theorem strq_same {a b : ByteArray} (h : a = b) : (a.toList == b.toList) = true := by rw [strq_eq, decide_eq_true h]
theorem name_head {s : ByteArray} (h : ¬ (s ≠ ⟨#[]⟩ ∧ s ≠ ⟨#[46]⟩ ∧ s ≠ ⟨#[46, 46]⟩ ∧ s.size ≤ 32)) : nameL s.data.toList = false := by
  unfold nameL
  have e : decide (s.data.toList ≠ [] ∧ s.data.toList ≠ [46] ∧ s.data.toList ≠ [46, 46] ∧ s.data.toList.length ≤ 32) = false := by
    rw [decide_eq_false_iff_not]
    rintro ⟨h1, h2, h3, h4⟩
    refine h ⟨?_, ?_, ?_, by simpa using h4⟩
    · rintro rfl; exact h1 rfl
    · rintro rfl; exact h2 rfl
    · rintro rfl; exact h3 rfl
  rw [e, Bool.false_and]
theorem name_body {s : ByteArray} (h : s ≠ ⟨#[]⟩ ∧ s ≠ ⟨#[46]⟩ ∧ s ≠ ⟨#[46, 46]⟩ ∧ s.size ≤ 32) : nameL s.data.toList = s.data.toList.all okNB := by
  unfold nameL
  obtain ⟨h1, h2, h3, h4⟩ := h
  have hx : ∀ (l : List UInt8), s.data.toList = l → s = ⟨l.toArray⟩ := by
    intro l hl
    cases s
    simp at hl
    rw [← hl]
  have e : decide (s.data.toList ≠ [] ∧ s.data.toList ≠ [46] ∧ s.data.toList ≠ [46, 46] ∧ s.data.toList.length ≤ 32) = true := by
    rw [decide_eq_true_iff]
    exact ⟨fun e => h1 (hx _ e), fun e => h2 (hx _ e), fun e => h3 (hx _ e), by simpa using h4⟩
  rw [e, Bool.true_and]
theorem okTo_step {s : ByteArray} {i : Nat} (hi : i < s.size) (h : (s.data.toList.take i).all okNB = true) (hb : okNB s[i] = true) : (s.data.toList.take (i + 1)).all okNB = true := by
  rw [take_snoc s i hi, List.all_append, h]
  simpa using hb
theorem okTo_bad {s : ByteArray} {i : Nat} (hi : i < s.size) (hb : okNB s[i] = false) : s.data.toList.all okNB = false := by
  rw [List.all_eq_false]
  exact ⟨s[i], by
    have : s[i] = s.data.toList[i]'(by simpa using hi) := rfl
    rw [this]; exact List.getElem_mem _, by rw [hb]; simp⟩
set_option maxRecDepth 100000 in
set_option maxHeartbeats 2000000 in
theorem name_any (s : ByteArray) (w : World) :
    Calls Tryz.prog 138 #[.string s] w fun e w' => e = .returned (.bool (nameL s.data.toList)) ∧ Below w.heap.size w w' := by
  by_cases h : s ≠ ⟨#[]⟩ ∧ s ≠ ⟨#[46]⟩ ∧ s ≠ ⟨#[46, 46]⟩ ∧ s.size ≤ 32
  · have hn := name_body h
    obtain ⟨h1, h2, h3, h4⟩ := h
    have q1 := emptyq_ne h1
    have q2 := lstq_ne (l := [46]) h2
    have q3 := lstq_ne (l := [46, 46]) h3
    have n1 := lst_ne (l := []) h1
    have n2 := lst_ne (l := [46]) h2
    have n3 := lst_ne (l := [46, 46]) h3
    have Hn := Lib.hid hn
    clear h1 h2 h3 hn
    go_enter Tryz.func138, Tryz.ntmps138
    go_wp2
    go_loopw [4] (fun _ wr => ∃ pos : Nat, pos ≤ s.size ∧ wr = w.iter s pos ∧ Hid ((s.data.toList.take pos).all okNB = true)) (fun _ wr => s.size - wr.iterPos w.heap.size)
    case atStart => exact ⟨0, Nat.zero_le _, rfl, Lib.hid rfl⟩
    case round =>
      obtain ⟨pos, hps, rfl, Hok⟩ := hrel
      have hbw := (Below.refl w.heap.size w).alloc (Nat.le_refl _)
      by_cases hlt : pos < s.size
      · by_cases ha : (s[pos]'hlt).toNat < 128
        · have hnx := fun ty => run_next_ascii (P := Tryz.prog) w s pos ty hlt ha
          by_cases hok : okNB (s[pos]'hlt) = true
          · have hk := Lib.hid (okTo_step hlt Hok.out hok)
            have hok2 : 33 ≤ (s[pos]'hlt).toNat ∧ (s[pos]'hlt).toNat ≤ 126 := by simpa [okNB] using hok
            obtain ⟨hk1, hk2⟩ := hok2
            clear hok
            generalize (s[pos]'hlt).toNat = x at ha hnx hk1 hk2
            go_wp2
            go_roundw
            case rel => exact ⟨pos + 1, hlt, rfl, hk⟩
            case measure => rw [World.iterPos_iter, World.iterPos_iter]; omega
          · have hbad := Lib.hid (okTo_bad hlt (by simpa using hok))
            have hok2 : (s[pos]'hlt).toNat < 33 ∨ (126 < (s[pos]'hlt).toNat ∧ 33 ≤ (s[pos]'hlt).toNat) := by
              have : ¬ (33 ≤ (s[pos]'hlt).toNat ∧ (s[pos]'hlt).toNat ≤ 126) := by simpa [okNB] using hok
              omega
            clear hok
            generalize (s[pos]'hlt).toNat = x at ha hnx hok2
            rcases hok2 with h5 | ⟨h5, h6⟩
            all_goals
              go_wp2
              go_ret
              rw [Hn.out, hbad.out]
              exact ⟨rfl, hbw _⟩
        · have hnx := fun ty => run_next_any (P := Tryz.prog) w s pos ty hlt
          obtain ⟨hd1, hd2⟩ := decode_high s pos hlt (by omega)
          have hd3 := decode_le s pos
          have hbad := Lib.hid (okTo_bad hlt (by simp [okNB]; omega))
          generalize (Utf8.decode s pos).1 = x at hnx hd1 hd3
          generalize (Utf8.decode s pos).2 = y at hnx hd2
          go_wp2
          go_ret
          rw [Hn.out, hbad.out]
          exact ⟨rfl, hbw _⟩
      · have hnx := fun ty => run_next_end (P := Tryz.prog) w s pos ty hlt
        have hall := Lib.hid (show s.data.toList.all okNB = true by
          have h := Hok.out
          rw [List.take_of_length_le (by simp; omega)] at h
          exact h)
        go_wp2
        go_ret
        rw [Hn.out, hall.out]
        exact ⟨rfl, hbw _⟩
  · rw [name_head h]
    by_cases h1 : s = ⟨#[]⟩
    · subst h1
      clear h
      go_enter Tryz.func138, Tryz.ntmps138
      go_wp2
      go_ret
      exact ⟨rfl, Below.refl _ _⟩
    by_cases h2 : s = ⟨#[46]⟩
    · subst h2
      clear h
      go_enter Tryz.func138, Tryz.ntmps138
      go_wp2
      go_ret
      exact ⟨rfl, Below.refl _ _⟩
    by_cases h3 : s = ⟨#[46, 46]⟩
    · subst h3
      clear h
      go_enter Tryz.func138, Tryz.ntmps138
      go_wp2
      go_ret
      exact ⟨rfl, Below.refl _ _⟩
    have h4 : 32 < s.size := by
      rcases Nat.lt_or_ge 32 s.size with h' | h'
      · exact h'
      · exact absurd ⟨h1, h2, h3, h'⟩ h
    have q1 := emptyq_ne h1
    have q2 := lstq_ne (l := [46]) h2
    have q3 := lstq_ne (l := [46, 46]) h3
    have n1 := lst_ne (l := []) h1
    have n2 := lst_ne (l := [46]) h2
    have n3 := lst_ne (l := [46, 46]) h3
    clear h h1 h2 h3
    go_enter Tryz.func138, Tryz.ntmps138
    go_wp2
    go_ret
    exact ⟨rfl, Below.refl _ _⟩
theorem drop_cons (s : ByteArray) (k : Nat) (h : k < s.size) : s.data.toList.drop k = s[k] :: s.data.toList.drop (k + 1) := by
  rw [List.drop_eq_getElem_cons (by simpa using h)]; rfl
set_option maxRecDepth 100000 in
set_option maxHeartbeats 2000000 in
theorem order_any (a b : ByteArray) (w : World) (ha : a.size ≤ 9223372036854775807) (hb : b.size ≤ 9223372036854775807) :
    Calls Tryz.prog 118 #[.string a, .string b] w fun e w' => e = .returned (.int .i64 (ordZ a.data.toList b.data.toList)) ∧ ∃ n, w' = w.drewN n := by
  obtain ⟨m, hm, hm1, hm2, hm3⟩ : ∃ m : Nat, min (a.size : Int) (b.size : Int) = (m : Int) ∧ m ≤ a.size ∧ m ≤ b.size ∧ (m = a.size ∨ m = b.size) := ⟨min a.size b.size, by omega, by omega, by omega, by omega⟩
  have hend0 : ordZ (a.data.toList.drop m) (b.data.toList.drop m) = (a.size : Int) - (b.size : Int) := by
    rcases hm3 with h | h
    · rw [List.drop_of_length_le (l := a.data.toList) (by simp; omega), ordZ_nil, List.length_drop, show b.data.toList.length = b.size by simp]
      omega
    · rw [List.drop_of_length_le (l := b.data.toList) (by simp; omega), ordZ_nil2, List.length_drop, show a.data.toList.length = a.size by simp]
      omega
  have hend := Lib.hid hend0
  clear hm3 hend0
  go_enter Tryz.func118, Tryz.ntmps118
  go_wp2
  go_loopw [5, 6, 7, 13] (fun _ _ _ i wr => ∃ k : Nat, (∃ n, wr = w.drewN n) ∧ i = .int .i64 k ∧ k ≤ m ∧ Hid (ordZ a.data.toList b.data.toList = ordZ (a.data.toList.drop k) (b.data.toList.drop k))) (fun _ _ _ i _ => m - (intOf i).toNat)
  case atStart => exact ⟨0, ⟨0, rfl⟩, rfl, Nat.zero_le _, Lib.hid rfl⟩
  case round =>
    obtain ⟨k, ⟨n, rfl⟩, rfl, hk, Hz⟩ := hrel
    by_cases hlt : k < m
    · have hka : k < a.size := by omega
      have hkb : k < b.size := by omega
      have hz := Lib.hid (show ordZ a.data.toList b.data.toList = _ by rw [Hz.out, drop_cons a k hka, drop_cons b k hkb, ordZ_cons])
      have ba := (a[k]'hka).toNat_lt
      have bb := (b[k]'hkb).toNat_lt
      have ka : (k : Int) < (a.size : Int) := by omega
      have kb : (k : Int) < (b.size : Int) := by omega
      by_cases hxy : (a[k]'hka) = (b[k]'hkb)
      · have hz2 := Lib.hid (show ordZ a.data.toList b.data.toList = ordZ (a.data.toList.drop (k + 1)) (b.data.toList.drop (k + 1)) by rw [hz.out, if_pos hxy])
        have e1 : (((a[k]'hka).toNat : Int) == ((b[k]'hkb).toNat : Int)) = true := by rw [hxy]; simp
        clear hz hxy
        go_wp2
        go_quiet (fail)
        go_wp2
        go_roundw
        case rel => exact ⟨k + 1, ⟨_, rfl⟩, by go_num, by omega, hz2⟩
        case measure => simp [intOf]; omega
      · have e1 : (((a[k]'hka).toNat : Int) == ((b[k]'hkb).toNat : Int)) = false := beq_eq_false_iff_ne.2 (toNat_ne hxy)
        by_cases hx47 : (a[k]'hka) = 47
        · have hz2 := Lib.hid (show ordZ a.data.toList b.data.toList = -1 by rw [hz.out, if_neg hxy, if_pos hx47])
          have e2 : (((a[k]'hka).toNat : Int) == 47) = true := by rw [hx47]; rfl
          clear hz hxy hx47
          go_wp2
          go_quiet (fail)
          go_wp2
          go_ret
          exact ⟨ret_int hz2.out.symm, _, rfl⟩
        · have e2 : (((a[k]'hka).toNat : Int) == 47) = false := beq_eq_false_iff_ne.2 (fun e => toNat_ne hx47 e)
          by_cases hy47 : (b[k]'hkb) = 47
          · have hz2 := Lib.hid (show ordZ a.data.toList b.data.toList = 1 by rw [hz.out, if_neg hxy, if_neg hx47, if_pos hy47])
            have e3 : (((b[k]'hkb).toNat : Int) == 47) = true := by rw [hy47]; rfl
            clear hz hxy hx47 hy47
            go_wp2
            go_quiet (fail)
            go_wp2
            go_ret
            exact ⟨ret_int hz2.out.symm, _, rfl⟩
          · have hz2 := Lib.hid (show ordZ a.data.toList b.data.toList = ((a[k]'hka).toNat : Int) - ((b[k]'hkb).toNat : Int) by rw [hz.out, if_neg hxy, if_neg hx47, if_neg hy47])
            have e3 : (((b[k]'hkb).toNat : Int) == 47) = false := beq_eq_false_iff_ne.2 (fun e => toNat_ne hy47 e)
            clear hz hxy hx47 hy47
            go_wp2
            go_quiet (fail)
            go_wp2
            go_ret
            exact ⟨ret_int hz2.out.symm, _, rfl⟩
    · obtain rfl : k = m := by omega
      have hz := Lib.hid (Hz.out.trans hend.out)
      go_wp2
      go_ret
      exact ⟨ret_int hz.out.symm, _, rfl⟩
end Go.Proofs.YtaemlplcjjbamaaGreatDoor
namespace Go.Proofs.YtaemlplcjjbamaaGreatDoor
open Go.RowKit
set_option linter.unusedVariables false
theorem info_file : (Tryz.prog.info? 65).map (fun i => (i.zero, i.size, i.bytes)) = some (some (.agg #[.string ⟨#[]⟩, .int .i64 0, .string ⟨#[]⟩]), 3, 40) := by kernel_rfl
theorem empty_rowF (w : World) (T : TypeId) (sz : Nat) : (w.alloc (.cells #[] T)).ownsRow w.heap.size T sz (.slice (some ⟨w.heap.size, 0, none⟩) 0 0) 0 [] := by
  exact ⟨by simp, Or.inr ⟨w.heap.size, 0, #[], rfl, Nat.le_refl _, heap_alloc_new w _, Nat.le_refl _, Nat.zero_le _, by simp, by simp⟩⟩
theorem tfsVals_one (l : List TFile) : ∀ v ∈ tfsVals l, v.oneCell' = true := by
  intro v hv
  obtain ⟨p, _, hp⟩ := List.mem_flatMap.1 hv
  simp only [tfV, List.mem_cons, List.not_mem_nil, or_false] at hp
  rcases hp with rfl | rfl | rfl <;> rfl
set_option maxRecDepth 100000 in
theorem cloneFiles_any (v : Value) (l : List TFile) (base : Nat) (w : World) (hown : w.ownsRow base 65 3 v l.length (tfsVals l)) (hn : l.length ≤ 1000000) :
    Calls Tryz.prog 19 #[v] w fun e w' => ∃ ad cap, e = .returned (.slice ad l.length cap) ∧ w'.ownsRow w.heap.size 65 3 (.slice ad l.length cap) l.length (tfsVals l) ∧ Below w.heap.size w w' := by
  have hq := fun w a l c => Lib.run_eql_slice_nil (P := Tryz.prog) w 31 65 a l c 0 0 Tryz.underlying31
  rcases hown.2 with ⟨rfl, h0⟩ | ⟨g, cap, cur, rfl, _, hb, hnc, hcm, hcs, hct⟩
  · obtain rfl := List.eq_nil_of_length_eq_zero h0
    clear hown hn h0
    go_enter Tryz.func19, Tryz.ntmps19
    go_wp2_with fail
    go_ret
    exact ⟨_, _, rfl, World.ownsRow_nil _ _ _ _, Below.refl _ _⟩
  · obtain ⟨i0, hi, hz0, hz1, hz2⟩ := info_parts info_file
    have hE := empty_rowF w 65 3
    have hnews : ∀ j u, (tfsVals l)[j]? = some u → (w.alloc (.cells #[] 65)).cell? ((⟨g, 0, none⟩ : Addr).add j) = some u := fun j u hj => by
      have hgl := (hown.lt g rfl).2
      have hj2 : j < l.length * 3 := by
        rcases Nat.lt_or_ge j (l.length * 3) with h | h
        · exact h
        · rw [List.getElem?_eq_none (by rw [tfsVals_length]; exact h)] at hj; cases hj
      rw [addr_add, (((Below.refl w.heap.size w).alloc (Nat.le_refl _) _).cell (p := ⟨g, j, none⟩) hgl), hown.cellAt j hj2]
      exact hj
    have HE := Lib.hid hE
    have Hnews := Lib.hid hnews
    have HA := Lib.hid ((Below.refl w.heap.size w).alloc (Nat.le_refl _) (.cells #[] 65))
    clear hE hnews hown hb hcs hct
    go_enter Tryz.func19, Tryz.ntmps19
    go_wp2_with (at_builtin; refine wpList_append_own_at _ rfl _ _ 31 rfl w.heap.size 65 i0 _ 3 40 Tryz.underlying31 hi hz0 hz1 hz2 rfl (by decide) _ _ _ rfl HE.out ⟨g, 0, none⟩ l.length cap (tfsVals l) rfl (by rw [tfsVals_length]) Hnews.out (tfsVals_one l) (by unfold maxLen; omega) (by omega) (by simp) ?_; intro v' w' hown' hgrow _ hat)
    go_ret
    have := hown'
    rw [Nat.zero_add, List.nil_append] at this
    obtain ⟨ad, cap2, rfl⟩ := row_shape this
    exact ⟨ad, cap2, rfl, this, HA.out.grown hgrow (by simp) (fun k hk => by cases hk; exact Nat.le_refl _)⟩
end Go.Proofs.YtaemlplcjjbamaaGreatDoor
