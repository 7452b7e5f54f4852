/- sign.NewTable at an ideal book's signature: what the table h -/
import Derived.Test.YtaemlplcjjbamaaGreatDoorBShelf
namespace Go.Proofs.YtaemlplcjjbamaaGreatDoor
open Go.Lib (hid)
set_option maxRecDepth 100000
set_option maxHeartbeats 8000000
open Go Go.RowKit
set_option linter.unusedVariables false
variable {B : List ByteArray} {S : List UInt8} {base bl c cap g gx hi i lo lt m n q size : Nat} {e : TypeId} {v : Value} {w w' : World} {xs : List Value}
theorem row_cells (h : w.ownsRow base e size (.slice (some ⟨g, 0, none⟩) n cap) n xs) : ∃ cs, Blk w g cs e ∧ n * size ≤ cs.length ∧ cs.take (n * size) = xs := by
 rcases h.2 with ⟨hv, _⟩ | ⟨g', cap', cur, hv, hb, hg, h3, h4, h5, h6⟩
 ·cases hv
 ·simp only [Value.slice.injEq, Option.some.injEq, Addr.mk.injEq, and_true, true_and] at hv
  obtain ⟨rfl, rfl⟩ := hv
  exact ⟨cur.toList, by unfold Blk; simpa using hg, by rw [Array.length_toList, h5]; exact Nat.mul_le_mul_right _ h3, h6⟩
theorem zGJ (base n : Nat) (v : Value) (zs : List Int) (w : World) (h : w.ownsRow base 3 1 v n (zs.map (Value.int .i64))) (hn : n ≤ 1048576) :
  Calls Tryz.prog 111 #[v] w fun e w' => ∃ v', e = .returned v' ∧ w'.ownsRow w.heap.size 3 1 v' n (zs.map (Value.int .i64)) ∧ Below w.heap.size w w' := by
 have hl : zs.length = n := by have := h.1; rw [List.length_map] at this; omega
 rcases h.2 with ⟨rfl, rfl⟩ | ⟨g, cap, cur, rfl, hb, hg, h3, h4, h5, h6⟩
 ·refine (Tryz.slices_Clone_int_nil 0 0 w).mono ?_
  rintro e w' ⟨rfl, rfl⟩
  have : zs = [] := List.eq_nil_of_length_eq_zero hl
  subst this
  exact ⟨_, rfl, World.ownsRow_nil _ _ _ _, Below.refl _ _⟩
 ·refine (Tryz.slices_Clone_int g 0 n cap zs w (by omega) (by omega) (fun j hj => ?_)).mono ?_
  ·have hc := h.cells (g := g) rfl j (.int .i64 (zs.getD j 0)) (by rw [List.getElem?_map, List.getD_eq_getElem?_getD, List.getElem?_eq_getElem hj]; rfl)
   rw [addr_add] at hc
   rw [Nat.zero_add]
   exact hc
  ·rintro e w' ⟨v', rfl, ho, _, hB⟩
   rw [List.take_of_length_le (by omega)] at ho
   exact ⟨v', rfl, ho, hB⟩
theorem zGN (base n : Nat) (v : Value) (zs : List ByteArray) (w : World) (h : w.ownsRow base 9 1 v n (zs.map Value.string)) (hn : n ≤ 1048576) :
  Calls Tryz.prog 193 #[v] w fun e w' => ∃ v', e = .returned v' ∧ w'.ownsRow w.heap.size 9 1 v' n (zs.map Value.string) ∧ Below w.heap.size w w' := by
 have hl : zs.length = n := by have := h.1; rw [List.length_map] at this; omega
 rcases h.2 with ⟨rfl, rfl⟩ | ⟨g, cap, cur, rfl, hb, hg, h3, h4, h5, h6⟩
 ·refine (Tryz.slices_Clone_string_nil 0 0 w).mono ?_
  rintro e w' ⟨rfl, rfl⟩
  have : zs = [] := List.eq_nil_of_length_eq_zero hl
  subst this
  exact ⟨_, rfl, World.ownsRow_nil _ _ _ _, Below.refl _ _⟩
 ·refine (Tryz.slices_Clone_string g 0 n cap zs w (by omega) (by omega) (fun j hj => ?_)).mono ?_
  ·have hc := h.cells (g := g) rfl j (.string (zs.getD j .empty)) (by rw [List.getElem?_map, List.getD_eq_getElem?_getD, List.getElem?_eq_getElem hj]; rfl)
   rw [addr_add] at hc
   rw [Nat.zero_add]
   exact hc
  ·rintro e w' ⟨v', rfl, ho, _, hB⟩
   rw [List.take_of_length_le (by omega)] at ho
   exact ⟨v', rfl, ho, hB⟩
theorem zIv (S : List UInt8) (bl n : Nat) : weakV S bl n = ((List.range n).map fun i => ((wsum (pcB S bl i) : Nat) : Int)).map (Value.int .i64) := by unfold weakV; rw [List.map_map]; rfl
theorem zDb (B : List ByteArray) (S : List UInt8) (bl n : Nat) : zAO B S bl n = ((List.range n).map fun i => zAt B (pcB S bl i)).map Value.string := by unfold zAO; rw [List.map_map]; rfl
structure NT (lo gx q : Nat) (B : List ByteArray) (S : List UInt8) (bl n : Nat) (wv sv cw cs tv bv : Value) (w : World) : Prop where
 arg : Blk w gx [.int .i64 (bl : Int), .int .i64 (S.length : Int), wv, sv] 214
 tab : Blk w q [.int .i64 (bl : Int), .int .i64 (S.length : Int), cw, cs, tv, bv] 262
 aw : w.ownsRow 0 3 1 wv n (weakV S bl n)
 rw : w.ownsRow lo 3 1 cw n (weakV S bl n)
 rs : w.ownsRow lo 9 1 cs n (zAO B S bl n)
 lo : lo ≤ gx ∧ lo ≤ q
theorem NT.touch {wv sv cw cs tv bv tv' bv' : Value} {T : Nat → Prop} (h : NT lo gx q B S bl n wv sv cw cs tv bv w) (ht : Touch T w w')
  (hq : Blk w' q [.int .i64 (bl : Int), .int .i64 (S.length : Int), cw, cs, tv', bv'] 262) (h1 : ¬ T gx) (h2 : ∀ g, wv.ownBlock = some g → ¬ T g) (h3 : ∀ g, cw.ownBlock = some g → ¬ T g) (h4 : ∀ g, cs.ownBlock = some g → ¬ T g) : NT lo gx q B S bl n wv sv cw cs tv' bv' w' :=
 ⟨h.arg.touch ht h1, hq, zAj h.aw ht h2, zAj h.rw ht h3, zAj h.rs ht h4, h.lo⟩
theorem NT.step {wv sv cw cs tv bv tv' bv' : Value} (h : NT lo gx q B S bl n wv sv cw cs tv bv w) (ht : Touch (fun k => k = q) w w')
  (hq : Blk w' q [.int .i64 (bl : Int), .int .i64 (S.length : Int), cw, cs, tv', bv'] 262) : NT lo gx q B S bl n wv sv cw cs tv' bv' w' :=
 h.touch ht hq (h.arg.ne h.tab (by decide)) (fun g hg e => zAp h.aw h.tab (by decide) (by rw [hg, e])) (fun g hg e => zAp h.rw h.tab (by decide) (by rw [hg, e])) (fun g hg e => zAp h.rs h.tab (by decide) (by rw [hg, e]))
theorem zBI {S T : Nat → Prop} {a b c : World} (h : Touch S a b) (k : Touch T b c) (hT : ∀ j, T j → S j ∨ a.heap.size ≤ j) : Touch S a c :=
 ⟨k.os.trans h.os, k.tape.trans h.tape, k.output.trans h.output, Nat.le_trans h.size k.size, fun j hj hn => by
  rw [k.block j (Nat.lt_of_lt_of_le hj h.size) (fun ht => (hT j ht).elim hn (fun e => by omega))]
  exact h.block j hj hn⟩
structure TabOk (lo hi q : Nat) (B : List ByteArray) (S : List UInt8) (bl : Nat) (w : World) : Prop where
 ex : ∃ (gt gb gw gs : Nat) (tf bf : Nat → Nat) (cW : Nat) (p : Option Addr), zDV q (S.length / bl) gt gb tf bf w ∧ zFa q bl gs (npc S.length bl) (fun j => zAt B (pcB S bl j)) w ∧ w.cell? ⟨q, 1, none⟩ = some (.int .i64 (S.length : Int)) ∧
  w.cell? ⟨q, 2, none⟩ = some (.slice p (npc S.length bl) cW) ∧ (0 < npc S.length bl → p = some ⟨gw, 0, none⟩) ∧ zEf w gw (npc S.length bl) (fun j => wsum (pcB S bl j)) ∧ (∀ j, j < S.length / bl → bf j < S.length / bl) ∧
  (∀ k, k = q ∨ k = gt ∨ k = gb ∨ k = gw ∨ k = gs → lo ≤ k ∧ k < hi)
 hi : hi ≤ w.heap.size
theorem TabOk.touch {T : Nat → Prop} (h : TabOk lo hi q B S bl w) (ht : Touch T w w') (hT : ∀ k, T k → k < lo ∨ hi ≤ k) : TabOk lo hi q B S bl w' := by
 obtain ⟨gt, gb, gw, gs, tf, bf, cW, p, r1, r2, r3, r4, r5, r6, r7, r8⟩ := h.ex
 have hn : ∀ k, k = q ∨ k = gt ∨ k = gb ∨ k = gw ∨ k = gs → ¬ T k := fun k hk e => by
  have := hT k e
  have := r8 k hk
  omega
 have hl : ∀ k, k = q ∨ k = gt ∨ k = gb ∨ k = gw ∨ k = gs → k < w.heap.size := fun k hk => Nat.lt_of_lt_of_le (r8 k hk).2 h.hi
 refine ⟨⟨gt, gb, gw, gs, tf, bf, cW, p, r1.touch ht (hn q (by simp)) (hn gt (by simp)) (hn gb (by simp)), r2.touch ht (hn q (by simp)) (hn gs (by simp)), (ht.cell (p := ⟨q, 1, none⟩) (hl q (by simp)) (hn q (by simp))).trans r3, (ht.cell (p := ⟨q, 2, none⟩) (hl q (by simp)) (hn q (by simp))).trans r4, r5, fun j hj => (ht.cell (p := ⟨gw, j, none⟩) (hl gw (by simp)) (hn gw (by simp))).trans (r6 j hj), r7, r8⟩, Nat.le_trans h.hi ht.size⟩
theorem TabOk.below (h : TabOk lo hi q B S bl w) (hb : Below w.heap.size w w') : TabOk lo hi q B S bl w' := h.touch (T := fun _ => False) (Touch.of_below hb) (fun k e => e.elim)
theorem row_num {L : List Nat} (h : w.ownsRow base 3 1 v n (natVs L)) (hq : q < w.heap.size) : ∃ p c g, v = .slice p n c ∧ (0 < n → p = some ⟨g, 0, none⟩) ∧ zEf w g n (fun j => L.getD j 0) ∧ (g = q ∨ base ≤ g) ∧ g < w.heap.size := by
 have hl : L.length = n := by have := h.1; unfold natVs at this; rw [List.length_map] at this; omega
 rcases h.2 with ⟨rfl, rfl⟩ | ⟨g, cap, cur, rfl, hb, hg, h3, h4, h5, h6⟩
 ·exact ⟨none, 0, q, rfl, fun h => by omega, fun j hj => by omega, Or.inl rfl, hq⟩
 ·refine ⟨_, cap, g, rfl, fun _ => rfl, fun j hj => ?_, Or.inr hb, (h.lt g rfl).2⟩
  have := h.cells (g := g) rfl j (.int .i64 ((L.getD j 0 : Nat) : Int)) (by
   unfold natVs
   rw [List.getElem?_map, List.getD_eq_getElem?_getD, List.getElem?_eq_getElem (by omega)]; rfl)
  rw [addr_add] at this
  exact this
theorem row_strs {L : List ByteArray} (h : w.ownsRow base 9 1 v n (L.map Value.string)) (hq : q < w.heap.size) : ∃ p c g, v = .slice p n c ∧ (0 < n → p = some ⟨g, 0, none⟩) ∧ (∀ j x, L[j]? = some x → w.cell? ⟨g, j, none⟩ = some (.string x)) ∧ (g = q ∨ base ≤ g) ∧ g < w.heap.size := by
 have hl : L.length = n := by have := h.1; rw [List.length_map] at this; omega
 rcases h.2 with ⟨rfl, rfl⟩ | ⟨g, cap, cur, rfl, hb, hg, h3, h4, h5, h6⟩
 ·exact ⟨none, 0, q, rfl, fun h => by omega, fun j x hj => by
   have := (List.getElem?_eq_some_iff.1 hj).1
   omega, Or.inl rfl, hq⟩
 ·refine ⟨_, cap, g, rfl, fun _ => rfl, fun j x hj => ?_, Or.inr hb, (h.lt g rfl).2⟩
  have := h.cells (g := g) rfl j (.string x) (by rw [List.getElem?_map, hj]; rfl)
  rw [addr_add] at this
  exact this
theorem rowIn_num (h : RowIn w g n m) : ∃ bf : Nat → Nat, zEf w g n bf ∧ ∀ j, j < n → bf j < m := by
 have hc : ∀ j : Nat, ∃ z : Nat, j < n → z < m ∧ w.cell? ⟨g, j, none⟩ = some (.int .i64 (z : Int)) := fun j => by
  by_cases hj : j < n
  ·obtain ⟨z, h1, h2⟩ := h.at hj
   exact ⟨z, fun _ => ⟨h1, h2⟩⟩
  ·exact ⟨0, fun h => absurd h hj⟩
 obtain ⟨bf, hbf⟩ := Classical.axiomOfChoice hc
 exact ⟨bf, fun j hj => (hbf j hj).2, fun j hj => (hbf j hj).1⟩
theorem weakV_nat (S : List UInt8) (bl n : Nat) : weakV S bl n = natVs ((List.range n).map fun i => wsum (pcB S bl i)) := by unfold weakV natVs; rw [List.map_map]; rfl
theorem NT.ok {wv sv cw cs tv bv : Value} (h : NT lo gx q B S bl n wv sv cw cs tv bv w) (hn : n = npc S.length bl) (him : i = S.length / bl) {L : List Nat} (hlt : lo ≤ lt) (ht : w.ownsRow lt 3 1 tv i (natVs L))
  {a : Option Addr} (hbv : bv = .slice a i c) (hbr : 0 < i → ∃ g, a = some ⟨g, 0, none⟩ ∧ RowIn w g i i ∧ lo ≤ g) : TabOk lo w.heap.size q B S bl w := by
 subst hn him hbv
 have hq := h.tab.lt
 obtain ⟨p1, c1, gw, rfl, e1, e2, e3, e4⟩ := row_num (q := q) (weakV_nat S bl _ ▸ h.rw) hq
 obtain ⟨p2, c2, gs, rfl, f1, f2, f3, f4⟩ := row_strs (q := q) (zDb B S bl _ ▸ h.rs) hq
 obtain ⟨p3, c3, gt, rfl, k1, k2, k3, k4⟩ := row_num (q := q) ht hq
 obtain ⟨gb, bf, b1, b2, b3, b4, b5⟩ : ∃ (gb : Nat) (bf : Nat → Nat), (0 < S.length / bl → a = some ⟨gb, 0, none⟩) ∧ zEf w gb (S.length / bl) bf ∧ (∀ j, j < S.length / bl → bf j < S.length / bl) ∧ (gb = q ∨ lo ≤ gb) ∧ gb < w.heap.size := by
  by_cases h0 : 0 < S.length / bl
  ·obtain ⟨g, r1, r2, r3⟩ := hbr h0
   obtain ⟨bf, s1, s2⟩ := rowIn_num r2
   exact ⟨g, bf, fun _ => r1, s1, s2, Or.inr r3, r2.lt⟩
  ·exact ⟨q, fun _ => 0, fun h => absurd h h0, fun j hj => by omega, fun j hj => by omega, Or.inl rfl, hq⟩
 have hlo := h.lo
 refine ⟨⟨gt, gb, gw, gs, _, bf, c1, p1, ⟨⟨p3, c3, h.tab.cell 4, k1⟩, ⟨a, c, h.tab.cell 5, b1⟩, k2, b2, hq, k4, b5⟩, ⟨h.tab.cell 0, ⟨p2, c2, h.tab.cell 3, f1⟩, fun j hj => f2 j _ (by rw [List.getElem?_map, List.getElem?_range hj]; rfl), hq, f4⟩, h.tab.cell 1, h.tab.cell 2, e1, fun j hj => ?_, b3, fun k hk => ?_⟩, Nat.le_refl _⟩
 ·have := e2 j hj
  rw [this]
  simp only [List.getD_eq_getElem?_getD]
  rw [List.getElem?_map, List.getElem?_range hj]
  rfl
 ·rcases hk with rfl | rfl | rfl | rfl | rfl <;> omega
theorem newTab_any (B : List ByteArray) (S : List UInt8) (bl base : Nat) (wv sv : Value) (w : World) (h : zBV w base B S bl (npc S.length bl) wv sv) (hS : S.length ≤ 524288) (h1 : 16 ≤ bl) (h2 : bl ≤ 1024) :
  Calls Tryz.prog 174 #[.agg #[.int .i64 (bl : Int), .int .i64 (S.length : Int), wv, sv]] w fun e w' => ∃ q, e = .returned (.tuple #[.pointer (some ⟨q, 0, none⟩), .int .i64 0]) ∧ TabOk w.heap.size w'.heap.size q B S bl w' ∧ Below w.heap.size w w' := by
 obtain ⟨wa, wcap, rfl⟩ := zAe h.1
 obtain ⟨sa, sc, rfl⟩ := zAe h.2
 have hn := zFK (size := S.length) (bl := bl) (by omega)
 have HSR := hid (fun w' (h' : zBV w' base B S bl (npc S.length bl) (.slice wa (npc S.length bl) wcap) (.slice sa (npc S.length bl) sc)) => zGh base B S bl _ _ w' h' hS h1 h2)
 obtain ⟨n, hnn⟩ : ∃ n, n = npc S.length bl := ⟨_, rfl⟩
 rw [← hnn] at h hn HSR ⊢
 have HB0 := hid ((Below.refl w.heap.size w).alloc (Nat.le_refl _) (.cells #[.int .i64 (bl : Int), .int .i64 (S.length : Int), .slice wa n wcap, .slice sa n sc] 214))
 have HQ := hid (Blk.new w [.int .i64 (bl : Int), .int .i64 (S.length : Int), .slice wa n wcap, .slice sa n sc] 214)
 have HR := hid (h.below ((Below.refl w.heap.size w).alloc (Nat.le_refl _) (.cells #[.int .i64 (bl : Int), .int .i64 (S.length : Int), .slice wa n wcap, .slice sa n sc] 214)))
 have Hnn := hid hnn
 clear h hnn
 go_enter Tryz.func174, Tryz.ntmps174
 go_upto_region 1 with fail
 generalize w.alloc (.cells #[.int .i64 (bl : Int), .int .i64 (S.length : Int), .slice wa n wcap, .slice sa n sc] 214) = w0 at HB0 HQ HR ⊢
 obtain ⟨gx, hgx⟩ : ∃ gx, gx = w.heap.size := ⟨_, rfl⟩
 rw [← hgx] at HQ HB0 ⊢
 have c0 : w0.cell? ⟨gx, 0, none⟩ = some (.int .i64 (bl : Int)) := HQ.out.cell 0
 have c1 : w0.cell? ⟨gx, 1, none⟩ = some (.int .i64 (S.length : Int)) := HQ.out.cell 1
 have c2 : w0.cell? ⟨gx, 2, none⟩ = some (.slice wa n wcap) := HQ.out.cell 2
 have c3 : w0.cell? ⟨gx, 3, none⟩ = some (.slice sa n sc) := HQ.out.cell 3
 have Hgx := hid hgx
 clear hgx
 go_wp2_with fail
 refine (HSR.out _ HR.out).mono ?_
 rintro e w1 ⟨rfl, hb1⟩
 have HB1 := hid (HB0.out.trans (hb1.mono (Nat.le_of_lt HQ.out.lt)))
 have HQ1 := hid (HQ.out.below hb1)
 have HR1 := hid (HR.out.below hb1)
 clear c0 c1 c2 c3 hb1 HB0 HQ HR HSR
 have HCi := hid (fun w' (h' : zBV w' base B S bl n (.slice wa n wcap) (.slice sa n sc)) => zGJ base n _ _ w' (zIv S bl n ▸ h'.1) (by omega))
 have HCs := hid (fun w' (h' : zBV w' base B S bl n (.slice wa n wcap) (.slice sa n sc)) => zGN base n _ _ w' (zDb B S bl n ▸ h'.2) (by omega))
 go_upto_region 3 with fail
 have HRd := hid (HR1.out.below (Below.refl _ w1).drew)
 have HQd := hid (HQ1.out.drew)
 have HG := hid (fun w' (hb : Blk w' gx [.int .i64 (bl : Int), .int .i64 (S.length : Int), .slice wa n wcap, .slice sa n sc] 214) => (show w'.cell? ⟨gx, 0, none⟩ = some (.int .i64 (bl : Int)) ∧ w'.cell? ⟨gx, 1, none⟩ = some (.int .i64 (S.length : Int)) ∧ w'.cell? ⟨gx, 2, none⟩ = some (.slice wa n wcap) ∧ w'.cell? ⟨gx, 3, none⟩ = some (.slice sa n sc) from ⟨hb.cell 0, hb.cell 1, hb.cell 2, hb.cell 3⟩))
 have hG0 := HG.out _ HQ1.out
 have hGd := HG.out _ HQd.out
 go_region_held3 (fun w' => w'.cell? ⟨gx, 0, none⟩ = some (.int .i64 (bl : Int)) ∧ w'.cell? ⟨gx, 1, none⟩ = some (.int .i64 (S.length : Int)) ∧ w'.cell? ⟨gx, 2, none⟩ = some (.slice wa n wcap) ∧ w'.cell? ⟨gx, 3, none⟩ = some (.slice sa n sc))
  (first | with_reducible exact hG3 | with_reducible exact hG2 | with_reducible exact hGd | with_reducible exact hG0 | go_keep)
  (first
   | (go_at_call 111; refine (HCi.out _ HRd.out).mono ?_; rintro e w2 ⟨cw, rfl, ho2, hb2⟩; obtain ⟨ca, cc, rfl⟩ := zAe ho2; have HO2 := hid ho2; have HB2 := hid hb2; have HR2 := hid (HRd.out.below hb2); have HQ2 := hid (HQd.out.below hb2); have hG2 := HG.out _ HQ2.out)
   | (go_at_call 193; refine (HCs.out _ HR2.out).mono ?_; rintro e w3 ⟨cs, rfl, ho3, hb3⟩; obtain ⟨da, dc, rfl⟩ := zAe ho3; have HO3 := hid ho3; have HB3 := hid hb3; have HR3 := hid (HR2.out.below hb3); have HQ3 := hid (HQ2.out.below hb3); have hG3 := HG.out _ HQ3.out))
 rename_i hHeld
 obtain ⟨q, hq⟩ : ∃ q, q = w3.heap.size := ⟨_, rfl⟩
 rw [← hq]
 have hqx : gx < q := by rw [hq]; exact HQ3.out.lt
 have hb13 : Below gx w1 w3 := (((Below.refl gx w1).drew).trans (HB2.out.mono (Nat.le_of_lt HQd.out.lt))).trans (HB3.out.mono (Nat.le_of_lt HQ2.out.lt))
 have hrw3 : w3.ownsRow gx 3 1 (.slice ca n cc) n (weakV S bl n) := by rw [zIv]; exact zAB (zAc HO2.out hb3) (Nat.le_of_lt HQd.out.lt)
 have hrs3 : w3.ownsRow gx 9 1 (.slice da n dc) n (zAO B S bl n) := by rw [zDb]; exact zAB HO3.out (Nat.le_of_lt HQ2.out.lt)
 have HN5 := hid (show NT gx gx q B S bl n (.slice wa n wcap) (.slice sa n sc) (.slice ca n cc) (.slice da n dc) (.slice none 0 0) (.slice none 0 0) (w3.alloc (.cells #[.int .i64 (bl : Int), .int .i64 (S.length : Int), .slice ca n cc, .slice da n dc, .slice none 0 0, .slice none 0 0] 262)) from
  ⟨HQ3.out.alloc _, by rw [hq]; exact Blk.new w3 _ _, zAB (HR3.out.1.alloc _) (Nat.zero_le _), hrw3.alloc _, hrs3.alloc _, Nat.le_refl _, Nat.le_of_lt hqx⟩)
 have HB5 := hid (show Below gx w (w3.alloc (.cells #[.int .i64 (bl : Int), .int .i64 (S.length : Int), .slice ca n cc, .slice da n dc, .slice none 0 0, .slice none 0 0] 262)) from (HB1.out.trans hb13).alloc (Nat.le_of_lt HQ3.out.lt) _)
 generalize w3.alloc (.cells #[.int .i64 (bl : Int), .int .i64 (S.length : Int), .slice ca n cc, .slice da n dc, .slice none 0 0, .slice none 0 0] 262) = w5 at HN5 HB5 ⊢
 clear hHeld hG0 hGd hG2 hG3 hb2 hb3 ho2 ho3 HO2 HO3 HB2 HB3 HR2 HR3 HQ2 HQ3 HG HCi HCs HRd HQd HR1 HQ1 HB1 hb13 hrw3 hrs3 hq
 have c0 : w5.cell? ⟨gx, 0, none⟩ = some (.int .i64 (bl : Int)) := HN5.out.arg.cell 0
 have c1 : w5.cell? ⟨gx, 1, none⟩ = some (.int .i64 (S.length : Int)) := HN5.out.arg.cell 1
 obtain ⟨m, hm⟩ : ∃ m, m = S.length / bl := ⟨_, rfl⟩
 have hquo : (S.length : Int).tdiv (bl : Int) = (m : Int) := by rw [hm]; rfl
 have hb0 : ((bl : Int) == 0) = false := by rw [beq_eq_false_iff_ne]; omega
 have hmS : m ≤ 524288 := by rw [hm]; exact Nat.le_trans (Nat.div_le_self _ _) hS
 have Hm := hid hm
 clear hm
 go_wp2_with fail
 have hq5 := HN5.out.tab.lt
 go_loopw [29] (fun iv_ wr => ∃ (i : Nat) (bv : Value), iv_ = .int .i64 (i : Int) ∧ i ≤ m ∧ Hid (Blk wr q [.int .i64 (bl : Int), .int .i64 (S.length : Int), .slice ca n cc, .slice da n dc, .slice none 0 0, bv] 262) ∧ Hid (wr.ownsRow w5.heap.size 3 1 bv i (natVs (List.range i))) ∧ Hid (i = 0 → bv = .slice none 0 0) ∧ Hid (Touch (fun k => k = q) w5 wr)) (fun iv_ _ => m - (intOf iv_).toNat)
 case atStart => exact ⟨0, _, rfl, Nat.zero_le _, hid HN5.out.tab, hid (World.ownsRow_nil _ _ _ _), hid (fun _ => rfl), hid (Touch.refl _ _)⟩
 case round =>
  obtain ⟨i, bv, rfl, hi, HBt, HR, HZ, HT⟩ := hrel
  obtain ⟨ba_, bc, rfl⟩ := zAe HR.out
  by_cases hlt : i < m
  ·have k1 := HBt.out.cell 5
   have k2 := HBt.out.free 5
   simp only [List.getElem?_cons_zero, List.getElem?_cons_succ] at k1
   have hszr := HT.out.size
   go_wp2_with (at_builtin; refine zAx rfl _ _ 130 rfl w5.heap.size 3 1 8 Tryz.underlying130 _ zCl rfl (by decide) _ _ _ rfl HR.out _ rfl [.int .i64 (i : Int)] rfl rfl (by simp [Value.oneCell']) ?c1 ?c2 ?c3 ?_)
   case c1 => unfold maxLen; omega
   case c2 => omega
   case c3 => first | omega | (simp; omega)
   intro v' w6 hown6 hg6
   have hrne : (Value.slice ba_ i bc).ownBlock ≠ some q := zAp HR.out HBt.out (by decide)
   have hB6 := zAr (HBt.out.alloc (.cells #[.int .i64 (i : Int)] 3)) hg6 hrne
   have l1 := hB6.cell 5
   have l2 := hB6.free 5
   simp only [List.getElem?_cons_zero, List.getElem?_cons_succ] at l1
   have HB6 := hid hB6
   obtain ⟨va, vc, rfl⟩ := zAe hown6
   have HG6 := hid hg6
   have HW6 := hid hown6
   clear hown6 hg6 hB6 k1 k2
   go_wp2_with fail
   have hT6 : Touch (fun j => (Value.slice ba_ i bc).ownBlock = some j ∨ j = q) wr (w6.setCell ⟨q, 5, none⟩ (.slice va (i + 1) vc)) := Touch.set (S := fun j => (Value.slice ba_ i bc).ownBlock = some j ∨ j = q) (p := ⟨q, 5, none⟩) (zAm ((Touch.refl _ wr).alloc _) HG6.out (fun g hg => Or.inl (Or.inl hg))) (Or.inl (Or.inr rfl)) _
   have hB7 := HB6.out.set 5 (.slice va (i + 1) vc)
   have hT7 := zBI HT.out hT6 (fun j hj => hj.elim (fun e => Or.inr (HR.out.lt j e).1) Or.inl)
   have hR7 := zAj HW6.out ((Touch.refl (fun k => k = q) w6).set (p := ⟨q, 5, none⟩) (Or.inl rfl) (.slice va (i + 1) vc)) (fun g hg e => zAp HW6.out HB6.out (by decide) (by rw [hg, e]))
   go_roundw
   case rel => exact ⟨i + 1, _, by go_num, by omega, hid hB7, hid (by rw [List.range_succ, zDN]; exact hR7), hid (fun h => by omega), hid hT7⟩
   case measure => simp [intOf]; omega
  ·have him : i = m := by omega
   subst him
   have hmf : ∀ (fn : Fn) (first cap : Array Value) (w : World), (Instr.makeFunc fn first cap).run Tryz.prog w = .ok (.func fn first cap) w := fun _ _ _ _ => rfl
   have k1 := HBt.out.cell 5
   simp only [List.getElem?_cons_zero, List.getElem?_cons_succ] at k1
   have hszr := HT.out.size
   have HNr := hid (HN5.out.step HT.out HBt.out)
   go_upto_region 9 with fail
   go_cut [] (fun wx => ∃ bv, Hid (Blk wx q [.int .i64 (bl : Int), .int .i64 (S.length : Int), .slice ca n cc, .slice da n dc, .slice none 0 0, bv] 262) ∧ Hid (Touch (fun k => k = q) w5 wx) ∧ Hid (∃ a c, bv = .slice a i c ∧ (0 < i → ∃ g, a = some ⟨g, 0, none⟩ ∧ RowIn wx g i i ∧ w5.heap.size ≤ g)))
   case first =>
    by_cases hi0 : i = 0
    ·subst hi0
     have hz := HZ.out rfl
     simp only [Value.slice.injEq, true_and] at hz
     obtain ⟨rfl, rfl⟩ := hz
     have HS := hid (zIN gx wr)
     unfold cmpFn at HS
     go_wp2_with fail
     refine HS.out.mono ?_
     rintro ee w8 ⟨rfl, hb8⟩
     have HB8 := hid hb8
     clear hb8
     go_wp2_with fail
     go_meet
     exact ⟨_, hid (HBt.out.below HB8.out), hid (HT.out.trans (Touch.of_below HB8.out)), hid ⟨none, 0, rfl, by simp⟩⟩
    ·obtain ⟨g, hsa, hv, hg2, hg3, hg4, hg6, hg5⟩ := zAz HR.out (by omega)
     simp only [Value.slice.injEq, true_and] at hv
     obtain ⟨rfl, rfl⟩ := hv
     obtain ⟨gcs, hgb, hgl, hgt⟩ := row_cells HR.out
     have hRI : RowIn wr g i i := ⟨gcs, hgb, by omega, fun j hj => ⟨j, hj, by
      have h9 : (gcs.take (i * 1))[j]? = (natVs (List.range i))[j]? := by rw [hgt]
      rw [List.getElem?_take_of_lt (by omega)] at h9
      rw [h9]
      unfold natVs
      rw [List.getElem?_map, List.getElem?_range hj]
      rfl⟩⟩
     have him := Hm.out
     have hnn := Hnn.out
     have hin : i ≤ n := by
      rw [him, hnn]
      unfold npc
      exact Nat.div_le_div_right (by omega)
     obtain ⟨gw, hsw, hvw, hw2, hw3, hw4, hw6, hw5⟩ := zAz HN5.out.aw (by omega)
     simp only [Value.slice.injEq, true_and] at hvw
     obtain ⟨rfl, rfl⟩ := hvw
     have hCA : CmpAt g gx i (fun j => wsum (pcB S bl j)) wr := ⟨⟨gw, n, wcap, HNr.out.arg.cell 2, hin, fun j hj => (by
      have := HNr.out.aw.cells (g := gw) rfl j _ (zGg S bl n j (by omega))
      rw [addr_add] at this
      exact this), by omega, by omega⟩, HNr.out.arg.lt, by have := HN5.out.arg.lt; omega⟩
     have HS := hid (zFw g i i gx bc (fun j => wsum (pcB S bl j)) wr hRI hCA (fun j => zEQ _) (by omega) (by omega))
     unfold cmpFn at HS
     have Hg2 := hid hg2
     clear hRI hCA hg5 hgt hgl hgb hw5 hw6 hw4 hw3 hw2 hg4 hg6 him hnn hquo
     go_wp2_with fail
     refine HS.out.mono ?_
     clear HS
     rintro ee w8 ⟨rfl, hR8, hT8⟩
     have HR8 := hid hR8
     have HT8 := hid hT8
     clear hR8 hT8
     go_wp2_with fail
     go_meet
     exact ⟨_, hid (HBt.out.touch HT8.out (fun e => by omega)), hid (zBI HT.out HT8.out (fun j hj => Or.inr (by have := Hg2.out; omega))), hid ⟨_, bc, rfl, fun _ => ⟨g, rfl, HR8.out, Hg2.out⟩⟩⟩
   case rest =>
    obtain ⟨bv, HB9, HT9, HC9⟩ := hcut
    have HN9 := hid (HN5.out.step HT9.out HB9.out)
    obtain ⟨a9, c9, rfl, hrow9⟩ := HC9.out
    have HW9 := hid hrow9
    have hs9 := HT9.out.size
    have k9 := HB9.out.cell 5
    simp only [List.getElem?_cons_zero, List.getElem?_cons_succ] at k9
    have hq9 := HB9.out.lt
    clear hrow9 HBt HT HR HZ HNr k1 hquo
    obtain ⟨wz, hwz⟩ : ∃ wz, wz = wc := ⟨_, rfl⟩
    rw [← hwz] at HB9 HT9 HN9 HW9 hs9 k9 hq9 ⊢
    clear hwz HC9
    go_upto_region 11 with fail
    go_loopw [54] (fun kv_ wr => ∃ (k : Nat) (tv : Value) (L : List Nat), kv_ = .int .i64 (k : Int) ∧ k ≤ i ∧ Hid (Blk wr q [.int .i64 (bl : Int), .int .i64 (S.length : Int), .slice ca n cc, .slice da n dc, tv, .slice a9 i c9] 262) ∧ Hid (wr.ownsRow wz.heap.size 3 1 tv k (natVs L)) ∧ Hid (Touch (fun k => k = q) wz wr)) (fun kv_ _ => i - (intOf kv_).toNat)
    case atStart => exact ⟨0, _, [], rfl, Nat.zero_le _, HB9, hid (World.ownsRow_nil _ _ _ _), hid (Touch.refl _ _)⟩
    case round =>
     obtain ⟨k, tv, L, rfl, hk, HBt, HR, HT⟩ := hrel
     have HNr := hid (HN9.out.step HT.out HBt.out)
     have hszr := HT.out.size
     by_cases hlt : k < i
     ·obtain ⟨g, rfl, hRI, hg5⟩ := HW9.out (by omega)
      obtain ⟨z, hz, d1⟩ := hRI.at hlt
      have hgq : g ≠ q := fun e => by
       obtain ⟨rcs, r1, _⟩ := hRI
       exact r1.ne HB9.out (by decide) e
      have e1 : wr.cell? ⟨g, k, none⟩ = some (.int .i64 (z : Int)) := (HT.out.cell (p := ⟨g, k, none⟩) hRI.lt hgq).trans d1
      have hin : i ≤ n := by
       have him := Hm.out
       have hnn := Hnn.out
       rw [him, hnn]
       unfold npc
       exact Nat.div_le_div_right (by omega)
      have hrowA := HNr.out.aw
      obtain ⟨gw, wc_, hvw, hx1, hgwl, hnc, hx2, hx3⟩ := zAz hrowA (by omega)
      clear hx1 hx2 hx3
      simp only [Value.slice.injEq, true_and] at hvw
      obtain ⟨rfl, rfl⟩ := hvw
      have e2 : wr.cell? ⟨gw, z, none⟩ = some (.int .i64 ((wsum (pcB S bl z) : Nat) : Int)) := by
       have := hrowA.cells (g := gw) rfl z _ (zGg S bl n z (by omega))
       rw [addr_add] at this
       exact this
      have e3 : wr.cell? ⟨gx, 2, none⟩ = some (.slice (some ⟨gw, 0, none⟩) n wcap) := HNr.out.arg.cell 2
      obtain ⟨ta, tc, rfl⟩ := zAe HR.out
      have e4 : wr.cell? ⟨q, 4, none⟩ = some (.slice ta k tc) := HBt.out.cell 4
      have f4 := HBt.out.free 4
      have hql := HBt.out.lt
      have hzn : z < n := by omega
      have hown := HR.out
      have hrw : (Value.slice ta k tc).ownBlock ≠ some q := zAp HR.out HBt.out (by decide)
      obtain ⟨i0, hi0, hz0, hz1, hz2⟩ := info_parts zCl
      have hxw : (natVs L).length = k := by have := HR.out.1; omega
      have hk6 : k ≤ 524288 := by omega
      generalize wsum (pcB S bl z) = y at e2
      clear d1 hrowA hnc hRI
      go_upto_region 13 with fail
      go_region_law (first
       | (refine step_append_lies _ (by rfl) _ _ _ (by rfl) wz.heap.size 3 i0 _ 1 8 Tryz.underlying130 hi0 hz0 hz1 hz2 rfl (by omega) (.slice ta k tc) k (natVs L) (by rfl) ((hown.alloc _).drew) ⟨wr.heap.size, 0, none⟩ 1 1 [.int .i64 (y : Int)] (by rfl) (by rfl) (World.news_of_block (cs := #[.int .i64 (y : Int)]) (t := 3) (fr := (0, 0)) (heap_alloc_new wr _)) (by simp [Value.oneCell']) (by omega) (by unfold maxLen; omega) (by omega) (by simp; omega) (wr.heap.size + 1) (by simp) ?_; intro gg ucap w4 hown4 hgrow hat hlt4; have hc4 := hgrow.cell_far ⟨q, 4, none⟩ (by simp; omega) (Ne.symm hrw); have hf4 := hgrow.frozen_far ⟨q, 4, none⟩ (by simp; omega) (Ne.symm hrw)))
      all_goals
       have hT6 : Touch (fun j => (Value.slice ta k tc).ownBlock = some j ∨ j = q) wr (w4.setCell ⟨q, 4, none⟩ (.slice (some ⟨gg, 0, none⟩) (k + 1) ucap)) := Touch.set (S := fun j => (Value.slice ta k tc).ownBlock = some j ∨ j = q) (p := ⟨q, 4, none⟩) (zAm (((Touch.refl _ wr).alloc _).drew) hgrow (fun g hg => Or.inl (Or.inl hg))) (Or.inl (Or.inr rfl)) _
       have hB4 := zAr ((HBt.out.alloc (.cells #[.int .i64 (y : Int)] 3)).drew) hgrow hrw
       have hB7 := hid (hB4.set 4 (.slice (some ⟨gg, 0, none⟩) (k + 1) ucap))
       have hT7 := hid (zBI HT.out hT6 (fun j hj => hj.elim (fun e => Or.inr (HR.out.lt j e).1) Or.inl))
       have hR7 := hid (zAj hown4 ((Touch.refl (fun k => k = q) w4).set (p := ⟨q, 4, none⟩) (Or.inl rfl) (.slice (some ⟨gg, 0, none⟩) (k + 1) ucap)) (fun g hg e => zAp hown4 hB4 (by decide) (by rw [hg, e])))
       clear hown4 hgrow hat hlt4 hc4 hf4 hown hrw e1 e2 e3 e4 f4 hT6 hB4 hi0 hz0 hz1 hz2
       generalize w4.setCell ⟨q, 4, none⟩ (.slice (some ⟨gg, 0, none⟩) (k + 1) ucap) = w7 at hB7 hT7 hR7 ⊢
       go_wp2_with fail
       go_roundw
       case rel => exact ⟨k + 1, _, L ++ [y], by go_num, by omega, hid hB7.out, hid (by rw [zDN]; exact hR7.out), hid hT7.out⟩
       case measure => simp [intOf]; omega
     ·have hki : k = i := by omega
      subst hki
      go_wp2_with fail
      go_ret2
      have hok := HNr.out.ok Hnn.out Hm.out (L := L) (lt := wz.heap.size) (by omega) HR.out rfl (fun h => by
       obtain ⟨g, r1, r2, r3⟩ := HW9.out h
       refine ⟨g, r1, ?_, by omega⟩
       obtain ⟨rcs, r4, r5, r6⟩ := r2
       exact ⟨rcs, r4.touch HT.out (fun e => r4.ne HB9.out (by decide) e), r5, r6⟩)
      refine ⟨q, rfl, by rw [← Hgx.out]; exact hok, ?_⟩
      rw [← Hgx.out]
      exact HB5.out.trans ((HT9.out.trans HT.out).below (Nat.le_trans (Nat.le_of_lt hqx) (Nat.le_of_lt hq5)) (fun k hk e => by omega))
def TailSays (n la : Nat) (sf : Nat → ByteArray) (k mb : Nat) (B : List ByteArray) (s : ByteArray) (w : World) (e : Ending) (w' : World) : Prop :=
 ∃ (r : Bool), e = .returned (.bool r) ∧ Touch (fun j => j = mb) w w' ∧ ((r = false ∧ zAo w' k mb B) ∨ (0 < n ∧ s.size = n ∧ zAo w' k mb (seen B s) ∧ r = decide (zAt (seen B s) s = sf la)))
theorem tail_any (q size bl n la gw gs nS k mb : Nat) (p : Option Addr) (cW : Nat) (wf : Nat → Nat) (sf : Nat → ByteArray) (B : List ByteArray) (s : ByteArray) (w : World) (hS : zFa q bl gs nS sf w) (c1 : w.cell? ⟨q, 1, none⟩ = some (.int .i64 (size : Int))) (c2 : w.cell? ⟨q, 2, none⟩ = some (.slice p nS cW)) (hp : 0 < nS → p = some ⟨gw, 0, none⟩) (hw : zEf w gw nS wf) (hn : n = size % bl) (hpos : 0 < n → nS = la + 1) (hsz : size ≤ 1048576) (hbl : 1 ≤ bl) (hbl2 : bl ≤ 1048576) (hK : zAo w k mb B) (hnS : nS ≤ 1048576) (hs : s.size ≤ 1048576) (hB : B.length ≤ 1000000000) (hne : k ≠ mb) (hq : q ≠ mb) (hgs : gs ≠ mb) (hgw : gw ≠ mb) :
  Calls Tryz.prog 199 #[.pointer (some ⟨q, 0, none⟩), .pointer (some ⟨k, 0, none⟩), .string s] w (TailSays n la sf k mb B s w) := by
 have hrem : (size : Int).tmod (bl : Int) = (n : Int) := by rw [hn]; rfl
 have c0 := hS.block
 obtain ⟨pS, cS, c3, hpS⟩ := hS.strong
 have HpS := hid hpS
 clear hpS
 have Hmarks := hid hS.marks
 have HKw := hid hK
 have hSl := hid hS.lt
 have hb0 : ((bl : Int) == 0) = false := by rw [beq_eq_false_iff_ne]; omega
 have hnb : n ≤ 1048576 := by rw [hn]; exact Nat.le_trans (Nat.mod_le _ _) hsz
 have Hn := hid hn
 have Hw := hid hw
 have HP := hid hp
 have Hpos := hid hpos
 have Hs := hid hs
 have HBl := hid hB
 have Hne := hid hne
 clear hn hw hp hpos hK hS hB hne
 by_cases hn0 : 0 < n
 ·have hnl := Hpos.out hn0
  have hp1 := HP.out (by omega)
  subst hp1
  have hp2 := HpS.out (by omega)
  subst hp2
  have hla : (nS : Int) - 1 = (la : Int) := by omega
  have hlt : la < nS := by omega
  have d1 := Hw.out la hlt
  have d2 := Hmarks.out la hlt
  have hlq := hid (show q < w.heap.size ∧ ¬ q = mb ∧ gw < w.heap.size ∧ ¬ gw = mb ∧ gs < w.heap.size ∧ ¬ gs = mb from ⟨hSl.out.1, hq, World.block_lt_of_cell? _ _ d1, hgw, hSl.out.2, hgs⟩)
  have HSm := hid (fun w0 => zBK s w0 Hs.out)
  have HSq := hid (fun (w0 : World) j => (zBK s (w0.drewN j) Hs.out).mono (fun e w' h => (⟨h.1, 0, h.2.symm⟩ : e = .returned (.int .i64 (wsum s : Nat)) ∧ ∃ i, w' = (w0.drewN j).drewN i)))
  have HMk := hid (fun w' (hT : Touch (fun _ => False) w w') => zBF k mb B s w' (HKw.out.touch hT (fun h => h) (fun h => h)) (by have := Hs.out; unfold maxLen; omega) HBl.out Hne.out)
  generalize wf la = y at d1
  generalize hz : sf la = z at d2
  have Hz := hid hz
  have hbd : wsum s < 4294967296 := zEQ s
  generalize wsum s = v at HSm HSq hbd
  clear hnl hz
  obtain ⟨z0, hz0⟩ : ∃ z0, z0 = s.size := ⟨_, rfl⟩
  go_enter Tryz.func199, Tryz.ntmps199
  go_upto_region 3 with fail
  go_quiet (fail)
  go_upto_region 5 with fail
  obtain ⟨ws, hws⟩ : ∃ ws, ws = w.drewN nq := ⟨_, rfl⟩
  have hTw := hid (show Touch (fun j => j = mb) w ws by rw [hws]; exact (Touch.refl _ _).drewN _)
  have hTf := hid (show Touch (fun _ => False) w ws by rw [hws]; exact (Touch.refl _ _).drewN _)
  have e2 : ws.cell? ⟨q, 2, none⟩ = some (.slice (some ⟨gw, 0, none⟩) nS cW) := by rw [hws]; exact c2
  have e3 : ws.cell? ⟨q, 3, none⟩ = some (.slice (some ⟨gs, 0, none⟩) nS cS) := by rw [hws]; exact c3
  have e4 : ws.cell? ⟨gw, la, none⟩ = some (.int .i64 (y : Int)) := by rw [hws]; exact d1
  have e5 : ws.cell? ⟨gs, la, none⟩ = some (.string z) := by rw [hws]; exact d2
  have hKs := hid (HKw.out.touch hTf.out (fun h => h) (fun h => h))
  rw [← hws]
  clear hws
  by_cases hsn : s.size = n
  ·have hs1 : ((s.size : Int) == (n : Int)) = true := by rw [beq_iff_eq]; omega
   have Hsn := hid hsn
   clear hsn hz0
   by_cases hvy : v = y
   ·have hv1 : ((v : Int) == (y : Int)) = true := by rw [beq_iff_eq]; omega
    have HMk2 := hid (fun w' (hT : Touch (fun _ => False) ws w') => zBF k mb B s w' (hKs.out.touch hT (fun h => h) (fun h => h)) (by have := Hs.out; unfold maxLen; omega) HBl.out Hne.out)
    have HG2 := hid (fun w' (hT : Touch (fun j => j = mb) ws w') => (show w'.cell? ⟨q, 2, none⟩ = some (.slice (some ⟨gw, 0, none⟩) nS cW) ∧ w'.cell? ⟨q, 3, none⟩ = some (.slice (some ⟨gs, 0, none⟩) nS cS) ∧ w'.cell? ⟨gw, la, none⟩ = some (.int .i64 (y : Int)) ∧ w'.cell? ⟨gs, la, none⟩ = some (.string z) from
     ⟨(hT.cell (p := ⟨q, 2, none⟩) (Nat.lt_of_lt_of_le hlq.out.1 hTf.out.size) hlq.out.2.1).trans e2, (hT.cell (p := ⟨q, 3, none⟩) (Nat.lt_of_lt_of_le hlq.out.1 hTf.out.size) hlq.out.2.1).trans e3, (hT.cell (p := ⟨gw, la, none⟩) (Nat.lt_of_lt_of_le hlq.out.2.2.1 hTf.out.size) hlq.out.2.2.2.1).trans e4, (hT.cell (p := ⟨gs, la, none⟩) (Nat.lt_of_lt_of_le hlq.out.2.2.2.2.1 hTf.out.size) hlq.out.2.2.2.2.2).trans e5⟩))
    clear hvy
    go_region_held3 (fun w' => w'.cell? ⟨q, 2, none⟩ = some (.slice (some ⟨gw, 0, none⟩) nS cW) ∧ w'.cell? ⟨q, 3, none⟩ = some (.slice (some ⟨gs, 0, none⟩) nS cS) ∧ w'.cell? ⟨gw, la, none⟩ = some (.int .i64 (y : Int)) ∧ w'.cell? ⟨gs, la, none⟩ = some (.string z))
     (first | with_reducible exact hG3 | go_keep)
     (first
      | (go_at_call 173; refine (HSm.out _).mono ?_; rintro e w4 ⟨rfl, rfl⟩)
      | (go_at_call 11; refine (HMk2.out _ (by first | exact (Touch.refl _ _).drew | exact ((Touch.refl _ _).drewN _) | exact (Touch.refl _ _))).mono ?_; rintro e w5 ⟨rfl, hK5, hT5⟩; have HT5 := hid (show Touch (fun j => j = mb) ws w5 from ((Touch.refl _ _).drew).trans hT5); have hG3 := HG2.out _ HT5.out))
    all_goals
     go_wp2_with fail
     go_ret
     exact ⟨_, rfl, hTw.out.trans HT5.out, Or.inr ⟨hn0, Hsn.out, hK5, by rw [zAY, Hz.out]⟩⟩
   ·have hv1 : ((v : Int) == (y : Int)) = false := by rw [beq_eq_false_iff_ne]; omega
    clear hvy
    go_quiet ((go_at_call 173; exact zBg (HSq.out _ _)))
    go_wp2_with fail
    go_ret
    exact ⟨false, rfl, hTw.out.trans ((Touch.refl _ _).drewN _), Or.inl ⟨rfl, HKw.out.touch (T := fun _ => False) (hTf.out.trans ((Touch.refl _ _).drewN _)) (fun h => h) (fun h => h)⟩⟩
  ·have hs1 : ((s.size : Int) == (n : Int)) = false := by rw [beq_eq_false_iff_ne]; omega
   clear hsn hz0
   go_quiet (fail)
   go_wp2_with fail
   go_ret
   exact ⟨false, rfl, hTw.out.trans ((Touch.refl _ _).drewN _), Or.inl ⟨rfl, HKw.out.touch (T := fun _ => False) (hTf.out.trans ((Touch.refl _ _).drewN _)) (fun h => h) (fun h => h)⟩⟩
 ·have hn1 : n = 0 := by omega
  subst hn1
  go_enter Tryz.func199, Tryz.ntmps199
  go_upto_region 3 with fail
  go_quiet (fail)
  go_upto_region 5 with fail
  go_quiet (fail)
  go_wp2_with fail
  go_ret
  first
     | exact ⟨false, rfl, ((Touch.refl _ _).drewN _).drewN _, Or.inl ⟨rfl, HKw.out.touch (T := fun _ => False) (((Touch.refl _ _).drewN _).drewN _) (fun h => h) (fun h => h)⟩⟩
     | exact ⟨false, rfl, (Touch.refl _ _).drewN _, Or.inl ⟨rfl, HKw.out.touch (T := fun _ => False) ((Touch.refl _ _).drewN _) (fun h => h) (fun h => h)⟩⟩
end Go.Proofs.YtaemlplcjjbamaaGreatDoor
