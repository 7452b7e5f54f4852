/- The walks of a coordinator's known and mark over rows that w -/
import Derived.Test.YtaemlplcjjbamaaGreatDoorBRAt
import Derived.Laws.EntriesVeiled
namespace Go.Proofs.YtaemlplcjjbamaaGreatDoor
open Go.Lib (hid)
set_option maxRecDepth 100000
set_option maxHeartbeats 8000000
open Go Go.RowKit
set_option linter.unusedVariables false
variable {E : Prop} {L out t : List UInt8} {P : Program} {Q : Exit → Act → World → Prop} {T e : TypeId} {ad : Option Addr} {at_ b base base' bytes cap cap' g k n size sz : Nat} {cs xs : List Value} {l : List Int} {o : Oper} {ops : Array Oper} {rest : List Oper} {v v' : Value} {w w' w2 : World}
theorem gknown_any (b B : Nat) (c : CSt) (I : List (Int × List UInt8)) (g : Int) (w : World) (h : zAb w b c) (hr : RAt w B 151 2 c.images I.length (knV I)) (hl : I.length ≤ 1000000) :
  Calls Tryz.prog 53 #[.pointer (some ⟨b, 0, none⟩), .int .i64 g] w fun e w' => e = .returned (.tuple #[.string (ba ((knF I g).getD [])), .bool (knF I g).isSome]) ∧ Below w.heap.size w w' := by
 have hbl := h.1.lt
 have c8 : w.cell? ⟨b, 8, none⟩ = some c.images := h.hd 8 (by omega)
 obtain ⟨m, hm⟩ : ∃ m, m = I.length := ⟨_, rfl⟩
 rw [← hm] at hr hl
 obtain ⟨ia, ic, hi⟩ := RAt.shape hr
 rw [hi] at c8 hr
 have HR := hid hr
 have Hm := hid hm
 clear h hr hi hm
 go_enter Tryz.func53, Tryz.ntmps53
 go_wp2_with fail
 go_loopw [13] (fun jv wr => ∃ k : Nat, jv = .int .i64 (k : Int) ∧ k ≤ m ∧ Hid (∀ i, i < k → ∀ y, I[i]? = some y → y.1 ≠ g) ∧ Hid (Below w.heap.size w wr)) (fun jv _ => m - (intOf jv).toNat)
 case atStart => exact ⟨0, rfl, Nat.zero_le _, hid (fun i hi => absurd hi (Nat.not_lt_zero _)), hid (Below.refl _ _)⟩
 case round =>
  obtain ⟨k, rfl, hk, HF, HB⟩ := hrel
  clear c8
  by_cases hlt : k < m
  ·have HRr := hid (RAt.below HR.out HB.out)
   obtain ⟨gg, off, cap, hv0, hg2, hg3, hg4, hg6, hg5⟩ := RAt.some HRr.out (by omega)
   simp only [Value.slice.injEq] at hv0
   obtain ⟨rfl, _, rfl⟩ := hv0
   obtain ⟨x, hx⟩ : ∃ x, I[k]? = some x := ⟨_, List.getElem?_eq_getElem (by have := Hm.out; omega)⟩
   obtain ⟨v1, v2⟩ := zHJ hx
   have e1 : wr.cell? ⟨gg, off + k * 2, none⟩ = _ := (hg5 (k * 2) (by omega)).trans v1
   have e2 : wr.cell? ⟨gg, off + k * 2 + 1, none⟩ = _ := (hg5 (k * 2 + 1) (by omega)).trans v2
   have Hx := hid hx
   obtain ⟨xg, xt⟩ := x
   simp only at e1 e2
   have HBa := hid (HB.out.alloc HB.out.size (.cells #[.int .i64 xg, .string (ba xt)] 151))
   clear hg5 v1 v2 hx
   by_cases h1 : xg = g
   ·have hb1 : (xg == g) = true := by rw [h1]; simp
    have Hkn := hid (knF_some Hx.out h1 HF.out)
    clear h1
    go_wp2_with fail
    go_ret2
    rw [Hkn.out]
    exact ⟨rfl, HBa.out⟩
   ·have hb1 : (xg == g) = false := by rw [beq_eq_false_iff_ne]; exact h1
    have H1 := hid h1
    clear h1
    go_wp2_with fail
    go_roundw
    case rel =>
     refine ⟨k + 1, by go_num, by omega, hid (fun i hi y hy => ?_), HBa⟩
     by_cases hik : i < k
     ·exact HF.out i hik y hy
     ·obtain rfl : i = k := by omega
      have := Hx.out
      rw [this] at hy
      injection hy with hy
      subst hy
      exact H1.out
    case measure => simp [intOf]; omega
  ·have hkm : k = m := by omega
   subst hkm
   have Hkn := hid (knF_none (I := I) (g := g) (by rw [← Hm.out]; exact HF.out))
   go_wp2_with fail
   go_ret2
   rw [Hkn.out]
   exact ⟨rfl, HB.out⟩
theorem zIb (b B : Nat) (c : CSt) (l : List Ent) (g : Int) (w : World) (h : zAb w b c) (hr : RAt w B 102 3 c.chosen l.length (zAs l)) (hl : l.length ≤ 1000000000) :
  Calls Tryz.prog 90 #[.pointer (some ⟨b, 0, none⟩), .int .i64 g] w fun e w' => e = .returned (.tuple #[.string ((mkF l g).getD ⟨#[]⟩), .bool (mkF l g).isSome]) ∧ Below w.heap.size w w' := by
 have hbl := h.1.lt
 have c7 : w.cell? ⟨b, 7, none⟩ = some c.chosen := h.hd 7 (by omega)
 obtain ⟨m, hm⟩ : ∃ m, m = l.length := ⟨_, rfl⟩
 rw [← hm] at hr hl
 obtain ⟨ia, ic, hi⟩ := RAt.shape hr
 rw [hi] at c7 hr
 have HR := hid hr
 have Hm := hid hm
 clear h hr hi hm
 go_enter Tryz.func90, Tryz.ntmps90
 go_wp2_with fail
 go_loopw [13] (fun jv wr => ∃ k : Nat, jv = .int .i64 (k : Int) ∧ k ≤ m ∧ Hid (∀ i, i < k → ∀ y, l[i]? = some y → y.gen ≠ g) ∧ Hid (Below w.heap.size w wr)) (fun jv _ => m - (intOf jv).toNat)
 case atStart => exact ⟨0, rfl, Nat.zero_le _, hid (fun i hi => absurd hi (Nat.not_lt_zero _)), hid (Below.refl _ _)⟩
 case round =>
  obtain ⟨k, rfl, hk, HF, HB⟩ := hrel
  clear c7
  by_cases hlt : k < m
  ·have HRr := hid (RAt.below HR.out HB.out)
   obtain ⟨gg, off, cap, hv0, hg2, hg3, hg4, hg6, hg5⟩ := RAt.some HRr.out (by omega)
   simp only [Value.slice.injEq] at hv0
   obtain ⟨rfl, _, rfl⟩ := hv0
   obtain ⟨x, hx⟩ : ∃ x, l[k]? = some x := ⟨_, List.getElem?_eq_getElem (by have := Hm.out; omega)⟩
   obtain ⟨v1, v2, v3⟩ := zBQ hx
   have e1 : wr.cell? ⟨gg, off + k * 3, none⟩ = _ := (hg5 (k * 3) (by omega)).trans v1
   have e2 : wr.cell? ⟨gg, off + k * 3 + 1, none⟩ = _ := (hg5 (k * 3 + 1) (by omega)).trans v2
   have e3 : wr.cell? ⟨gg, off + k * 3 + 2, none⟩ = _ := (hg5 (k * 3 + 2) (by omega)).trans v3
   have Hx := hid hx
   obtain ⟨xg, xb, xm⟩ := x
   simp only at e1 e2 e3
   have HBa := hid (HB.out.alloc HB.out.size (.cells #[.int .i64 xg, .int .i64 xb, .string xm] 102))
   clear hg5 v1 v2 v3 hx
   by_cases h1 : xg = g
   ·have hb1 : (xg == g) = true := by rw [h1]; simp
    have Hkn := hid (mkF_some Hx.out h1 HF.out)
    clear h1
    go_wp2_with fail
    go_ret2
    rw [Hkn.out]
    exact ⟨rfl, HBa.out⟩
   ·have hb1 : (xg == g) = false := by rw [beq_eq_false_iff_ne]; exact h1
    have H1 := hid h1
    clear h1
    go_wp2_with fail
    go_roundw
    case rel =>
     refine ⟨k + 1, by go_num, by omega, hid (fun i hi y hy => ?_), HBa⟩
     by_cases hik : i < k
     ·exact HF.out i hik y hy
     ·obtain rfl : i = k := by omega
      have := Hx.out
      rw [this] at hy
      injection hy with hy
      subst hy
      exact H1.out
    case measure => simp [intOf]; omega
  ·have hkm : k = m := by omega
   subst hkm
   have Hkn := hid (mkF_none (l := l) (g := g) (by rw [← Hm.out]; exact HF.out))
   go_wp2_with fail
   go_ret2
   rw [Hkn.out]
   exact ⟨rfl, HB.out⟩
def msgsV (l : List MG) : List Value := l.flatMap MG.vals
theorem zAL (a b : List MG) : msgsV (a ++ b) = msgsV a ++ msgsV b := by unfold msgsV; rw [List.flatMap_append]
theorem MG.vals_one (m : MG) : ∀ u ∈ m.vals, u.oneCell' = true := by
 intro u hu
 unfold MG.vals at hu
 simp only [List.mem_cons, List.not_mem_nil, or_false] at hu
 rcases hu with rfl | rfl | rfl | rfl | rfl | rfl | rfl | rfl | rfl | rfl | rfl | rfl | rfl | rfl
 all_goals rfl
theorem zEL (l : List MG) : ∀ u ∈ msgsV l, u.oneCell' = true := by
 intro u hu
 obtain ⟨m, _, hm⟩ := List.mem_flatMap.1 hu
 exact m.vals_one u hm
theorem row_lit1 (o : Obj) (m : MG) (hb : Below w.heap.size w w2) : ((w2.alloc o).alloc (.cells m.vals.toArray 30)).ownsRow w.heap.size 30 14 (.slice (some ⟨w2.heap.size + 1, 0, none⟩) 1 1) 1 (msgsV [m]) := by
 have hs : (w2.alloc o).heap.size = w2.heap.size + 1 := by simp
 have h := World.ownsRow_lit (base := w.heap.size) (e := 30) (size := 14) (w2.alloc o) m.vals.toArray 1 (by rw [hs]; have := hb.size; omega) (by unfold maxLen; omega) (by simp [MG.vals])
 rw [hs] at h
 have e : msgsV [m] = m.vals.toArray.toList := by unfold msgsV; simp
 rw [e]
 exact h
theorem zJu {z : Value} (h : (P.info? e).map (fun i => (i.zero, i.size, i.bytes)) = some (some z, size, bytes)) : ∃ i, P.info? e = some i ∧ i.zero = some z ∧ i.size = size ∧ i.bytes = bytes := by
 cases hi : P.info? e with
 | none => rw [hi] at h; cases h
 | some i =>
  rw [hi] at h
  simp only [Option.map_some, Option.some.injEq, Prod.mk.injEq] at h
  exact ⟨i, rfl, h.1, h.2.1, h.2.2⟩
theorem zEn (t ty e : TypeId) (z : Value) (size bytes : Nat) (ht : P.underlying t = some (.slice e)) (hi : (P.info? e).map (fun i => (i.zero, i.size, i.bytes)) = some (some z, size, bytes)) (hzs : z.cells.size = size) (hsz : 0 < size)
  (base base2 : Nat) (v v2 : Value) (n m N : Nat) (xs ys : List Value) (hown : w.ownsRow base e size v n xs) (hown2 : w.ownsRow base2 e size v2 m ys) (hone : ∀ u ∈ ys, u.oneCell' = true) (hN : n + m = N) (h63 : N ≤ maxLen) (hbytes : N * bytes ≤ 140737488355328) (hbase : base ≤ w.heap.size) :
  ∃ va cap w', (Builtin.append_ #[t, t] ty #[v, v2]).run P w = .ok (.slice va N cap) w' ∧ w'.ownsRow base e size (.slice va N cap) N (xs ++ ys) ∧ w.grownBy w' v.ownBlock ∧ Below base w w' ∧ (∀ g, (Value.slice va N cap).ownBlock = some g → v.ownBlock = some g ∨ w.heap.size ≤ g) := by
 obtain ⟨i0, hi0, hz0, hz1, hz2⟩ := zJu hi
 have hbel : ∀ w', w.grownBy w' v.ownBlock → Below base w w' := fun w' hg => ⟨hg.os, hg.tape, hg.output, hg.size, fun j hj => hg.block j (by omega) (fun e => by
   have := (hown.lt j e.symm).1
   omega)⟩
 have key : ∃ v' w', (Builtin.append_ #[t, t] ty #[v, v2]).run P w = .ok v' w' ∧ w'.ownsRow base e size v' N (xs ++ ys) ∧ w.grownBy w' v.ownBlock ∧ (v'.ownBlock = v.ownBlock ∨ v'.ownBlock = some w.heap.size) := by
  rcases hown2.2 with ⟨rfl, rfl⟩ | ⟨g, cap, cur, rfl, hg, hb, hnc, hcm, hsz2, htk⟩
  ·have hnil : ys = [] := List.length_eq_zero_iff.1 (by have := hown2.1; omega)
   refine ⟨v, w, run_append_owned_none (P := P) w base t ty e i0 size ht hi0 v n xs hown, ?_, zCU (Below.refl _ _) _, Or.inl rfl⟩
   rw [hnil, List.append_nil, ← hN]
   exact hown
  ·have hcells := hown2
   have hlen2 : ys.length = m * size := hown2.1
   obtain ⟨v', w', hr, h2, h3, _, h5⟩ := run_append_own_at (P := P) w base t ty e i0 z size bytes ht hi0 hz0 hz1 hz2 hzs hsz v n xs hown ⟨g, 0, none⟩ m cap ys hlen2 (fun j u hu => by
    have hj : j < m * size := by
     rw [← hlen2]
     exact (List.getElem?_eq_some_iff.1 hu).1
    rw [addr_add, hcells.cellAt j hj]
    exact hu) hone (by omega) (by rw [hN]; exact hbytes) hbase
   refine ⟨v', w', hr, ?_, h3, h5⟩
   rw [← hN]
   exact h2
 obtain ⟨v', w', hr, h2, h3, h5⟩ := key
 obtain ⟨va, vc, rfl⟩ := zAe h2
 refine ⟨va, vc, w', hr, h2, h3, hbel w' h3, fun g hg => ?_⟩
 rcases h5 with h5 | h5
 ·exact Or.inl (by rw [← h5]; exact hg)
 ·rw [h5] at hg
  injection hg with hg
  exact Or.inr (by omega)
theorem zBd {a : Act} (hgd : o.guard = none) (s x : Operand) (t : TypeId)
  (ho : o.op = .call { callee := .builtin .append, args := #[s, x], argTypes := #[t, t] })
  (e : TypeId) (z : Value) (size bytes : Nat) (ht : P.underlying t = some (.slice e)) (hi : (P.info? e).map (fun i => (i.zero, i.size, i.bytes)) = some (some z, size, bytes)) (hzs : z.cells.size = size) (hsz : 0 < size)
  (base base2 : Nat) (v v2 : Value) (n m N : Nat) (xs ys : List Value) (hs : a.eval s = v) (hx : a.eval x = v2) (hown : w.ownsRow base e size v n xs) (hown2 : w.ownsRow base2 e size v2 m ys) (hone : ∀ u ∈ ys, u.oneCell' = true) (hN : n + m = N) (h63 : N ≤ maxLen) (hbytes : N * bytes ≤ 140737488355328) (hbase : base ≤ w.heap.size)
  (h : ∀ va cap w', w'.ownsRow base e size (.slice va N cap) N (xs ++ ys) → w.grownBy w' v.ownBlock → Below base w w' → (∀ g, (Value.slice va N cap).ownBlock = some g → v.ownBlock = some g ∨ w.heap.size ≤ g) → wpList P ops Q rest (a.put o.dst (.slice va N cap)) w') : wpList P ops Q (o :: rest) a w :=
 wpList_plain hgd fun _ hK => by
  obtain ⟨va, vc, w', hr, h2, h3, h4, h5⟩ := zEn (P := P) t o.type e z size bytes ht hi hzs hsz base base2 v v2 n m N xs ys hown hown2 hone hN h63 hbytes hbase
  unfold Oper.wp execOp
  simp only [ho, resolve, invoke, builtin, Sem.run_bind, Sem.run_pure, Result.andThen_ok, List.map_toArray, List.map_cons, List.map_nil, hs, hx, hr]
  exact hK _ _ (h va vc w' h2 h3 h4 h5)
attribute [local go_sem ↓] Go.wp_at_zero Go.wp_at_succ
theorem info_kn : (Tryz.prog.info? 151).map (fun i => (i.zero, i.size, i.bytes)) = some (some (.agg #[.int .i64 0, .string ByteArray.empty]), 2, 24) := by kernel_rfl
theorem zHb (x g : Int) (t : ByteArray) (q : Nat) (w : World) (hq : w.cell? ⟨q, 0, none⟩ = some (.int .i64 g)) (hl : q < w.heap.size) :
  Calls Tryz.prog 110 #[.agg #[.int .i64 x, .string t], .pointer (some ⟨q, 0, none⟩)] w fun e w' => e = .returned (.bool (x == g)) ∧ Below w.heap.size w w' := by
 go_enter Tryz.func110, Tryz.ntmps110
 go_wp2_with fail
 go_ret
 exact ⟨rfl, (Below.refl _ _).alloc (Nat.le_refl _) _⟩
theorem zAb.setImages {c : CSt} (h : zAb w b c) (v : Value) : zAb (w.setCell ⟨b, 8, none⟩ v) b { c with images := v } := ⟨h.1.set 8 v, h.2⟩
open Go.RowKit
def zCr (floor top gen best g : Int) : Prop := floor ≤ g ∧ g < top ∧ g < gen ∧ (best = gen ∨ best < g)
instance (floor top gen best g : Int) : Decidable (zCr floor top gen best g) := by unfold zCr; exact inferInstance
def zBj (floor top gen best g : Int) : Int := if zCr floor top gen best g then g else best
def basis (floor top gen : Int) (l : List Int) : Int := l.foldl (zBj floor top gen) gen
theorem zFN (floor top gen : Int) (l : List Int) (g : Int) : basis floor top gen (l ++ [g]) = zBj floor top gen (basis floor top gen l) g := by unfold basis; rw [List.foldl_append]; rfl
theorem basis_yes {floor top gen b g : Int} {hk : k < l.length} (hb : b = basis floor top gen (l.take k)) (hg : g = l[k]) (h : zCr floor top gen b g) : g = basis floor top gen (l.take (k + 1)) := by
 rw [List.take_succ_eq_append_getElem hk, zFN, ← hb, ← hg, zBj, if_pos h]
theorem basis_no {floor top gen b g : Int} {hk : k < l.length} (hb : b = basis floor top gen (l.take k)) (hg : g = l[k]) (h : ¬ zCr floor top gen b g) : b = basis floor top gen (l.take (k + 1)) := by
 rw [List.take_succ_eq_append_getElem hk, zFN, ← hb, ← hg, zBj, if_neg h]
theorem zIT (h : zEK .i64 w ad l) (k : Nat) (hk : k < l.length) : ∃ b off, ad = some ⟨b, off, none⟩ ∧ w.cell? ⟨b, off + k, none⟩ = some (.int .i64 l[k]) := by
 rcases h with rfl | ⟨b, off, h1, _, h3⟩
 ·simp at hk
 ·exact ⟨b, off, h1, h3 k hk⟩
theorem basis_any (w : World) (ad : Option Addr) (cap : Nat) (l : List Int) (floor top gen : Int) (h : zEK .i64 w ad l) (hl : l.length ≤ 1000000) :
  Calls Tryz.prog 113 #[.slice ad l.length cap, .int .i64 floor, .int .i64 top, .int .i64 gen] w fun e w' => e = .returned (.int .i64 (basis floor top gen l)) ∧ w = w' := by
 have H := hid h
 clear h
 go_enter Tryz.func113, Tryz.ntmps113
 go_wp2
 go_loop [9, 15] (fun b i => ∃ (k : Nat) (x : Int), k ≤ l.length ∧ i = .int .i64 k ∧ b = .int .i64 x ∧ Hid (x = basis floor top gen (l.take k))) (fun _ i => l.length - (intOf i).toNat)
 case atStart => exact ⟨0, gen, Nat.zero_le _, rfl, rfl, hid rfl⟩
 case round =>
  obtain ⟨k, x, hk, rfl, rfl, Hx⟩ := hrel
  by_cases hlt : k < l.length
  ·obtain ⟨b, off, rfl, hc⟩ := zIT H.out k hlt
   obtain ⟨g, hg⟩ : ∃ g, g = l[k] := ⟨_, rfl⟩
   rw [← hg] at hc
   have Hg := hid hg
   clear hg
   by_cases hP : zCr floor top gen x g
   ·have HP := hid hP
    clear hP
    go_wp2
    all_goals first
     | (exfalso; have hx := HP.out; unfold zCr at hx; simp at *; omega)
     | (go_round
        case rel => exact ⟨k + 1, g, by omega, by go_num, rfl, hid (basis_yes Hx.out Hg.out HP.out)⟩
        case measure => simp [intOf]; omega)
   ·have HP := hid hP
    clear hP
    go_wp2
    all_goals first
     | (exfalso; apply HP.out; unfold zCr; simp at *; omega)
     | (go_round
        case rel => exact ⟨k + 1, x, by omega, by go_num, rfl, hid (basis_no Hx.out Hg.out HP.out)⟩
        case measure => simp [intOf]; omega)
  ·have hk' : k = l.length := by omega
   subst hk'
   go_wp2
   go_ret
   exact ⟨zAk (by rw [Hx.out, List.take_length]), rfl⟩
theorem basis_in (floor top gen : Int) (l : List Int) : basis floor top gen l = gen ∨ (floor ≤ basis floor top gen l ∧ basis floor top gen l < top ∧ basis floor top gen l < gen) := by
 unfold basis
 have key : ∀ (l : List Int) (b : Int), (b = gen ∨ (floor ≤ b ∧ b < top ∧ b < gen)) → (l.foldl (zBj floor top gen) b = gen ∨ (floor ≤ l.foldl (zBj floor top gen) b ∧ l.foldl (zBj floor top gen) b < top ∧ l.foldl (zBj floor top gen) b < gen)) := by
  intro l
  induction l with
  | nil => intro b h; exact h
  | cons x l ih =>
   intro b h
   rw [List.foldl_cons]
   apply ih
   unfold zBj
   by_cases hx : zCr floor top gen b x
   ·rw [if_pos hx]
    exact Or.inr ⟨hx.1, hx.2.1, hx.2.2.1⟩
   ·rw [if_neg hx]; exact h
 exact key l gen (Or.inl rfl)
def TxAt (w : World) (base : Nat) (v : Value) (L : List UInt8) : Prop :=
 ∃ ad cap, v = .slice ad L.length cap ∧ L.length ≤ cap ∧ cap ≤ maxLen ∧
  ((ad = none ∧ cap = 0) ∨ ∃ g off cs, ad = some ⟨g, off, none⟩ ∧ base ≤ g ∧ Blk w g cs 5 ∧ off + cap ≤ cs.length ∧ (cs.drop off).take L.length = u8s L)
theorem TxAt.nil (w : World) (base : Nat) : TxAt w base (.slice none 0 0) [] := ⟨none, 0, rfl, Nat.le_refl _, Nat.zero_le _, Or.inl ⟨rfl, rfl⟩⟩
theorem TxAt.shape (h : TxAt w base v L) : ∃ ad cap, v = .slice ad L.length cap ∧ L.length ≤ cap := by
 obtain ⟨ad, cap, e, h1, _⟩ := h
 exact ⟨ad, cap, e, h1⟩
theorem TxAt.lt (h : TxAt w base v L) : ∀ g, v.ownBlock = some g → base ≤ g ∧ g < w.heap.size := by
 obtain ⟨ad, cap, rfl, h1, h2, ⟨rfl, _⟩ | ⟨g, off, cs, rfl, hb, hB, _⟩⟩ := h
 ·intro g hg; simp [Value.ownBlock] at hg
 ·intro g' hg
  simp [Value.ownBlock] at hg
  subst hg
  exact ⟨hb, hB.lt⟩
theorem TxAt.ne (h : TxAt w base v L) (hb : Blk w b cs T) (hT : 5 ≠ T) : v.ownBlock ≠ some b := by
 obtain ⟨ad, cap, rfl, h1, h2, ⟨rfl, _⟩ | ⟨g, off, cs', rfl, hg, hB, _⟩⟩ := h
 ·simp [Value.ownBlock]
 ·intro e
  simp [Value.ownBlock] at e
  subst e
  exact hB.ne hb hT rfl
theorem TxAt.ne_row (h : TxAt w base v L) (h' : w.ownsRow base' e sz v' n xs) (hT : 5 ≠ e) (hg : v.ownBlock = some g) : v'.ownBlock ≠ some g := by
 obtain ⟨ad, cap, rfl, h1, h2, ⟨rfl, _⟩ | ⟨g1, off, cs', rfl, hg1, hB, _⟩⟩ := h
 ·simp [Value.ownBlock] at hg
 ·simp [Value.ownBlock] at hg
  subst hg
  exact zAp h' hB (Ne.symm hT)
theorem TxAt.touch {T : Nat → Prop} (h : TxAt w base v L) (ht : Touch T w w') (hT : ∀ g, v.ownBlock = some g → ¬ T g) : TxAt w' base v L := by
 obtain ⟨ad, cap, rfl, h1, h2, ⟨rfl, h3⟩ | ⟨g, off, cs, rfl, hb, hB, h4, h5⟩⟩ := h
 ·exact ⟨none, cap, rfl, h1, h2, Or.inl ⟨rfl, h3⟩⟩
 ·exact ⟨_, cap, rfl, h1, h2, Or.inr ⟨g, off, cs, rfl, hb, hB.touch ht (hT g rfl), h4, h5⟩⟩
theorem TxAt.below (h : TxAt w base v L) (hb : Below w.heap.size w w') : TxAt w' base v L := h.touch (T := fun _ => False) (Touch.of_below hb) (fun _ _ h => h)
theorem TxAt.cut (h : TxAt w base (.slice ad L.length cap) L) (n : Nat) (hn : n ≤ L.length) : TxAt w base (.slice (if cap = n then ad else ad.map (·.add n)) (L.length - n) (cap - n)) (L.drop n) := by
 obtain ⟨ad', cap', e, h1, h2, h3⟩ := h
 simp only [Value.slice.injEq, true_and] at e
 obtain ⟨rfl, rfl⟩ := e
 refine ⟨_, _, by rw [List.length_drop], by rw [List.length_drop]; omega, by omega, ?_⟩
 rcases h3 with ⟨rfl, h3⟩ | ⟨g, off, cs, rfl, hb, hB, h4, h5⟩
 ·exact Or.inl ⟨by simp, by omega⟩
 ·by_cases hc : cap = n
  ·rw [if_pos hc]
   refine Or.inr ⟨g, off, cs, rfl, hb, hB, by omega, ?_⟩
   rw [List.length_drop, show L.length - n = 0 by omega, List.take_zero, List.drop_of_length_le (by omega)]; rfl
  ·rw [if_neg hc]
   refine Or.inr ⟨g, off + n, cs, by simp [Addr.add], hb, hB, by omega, ?_⟩
   rw [List.length_drop, ← List.drop_drop, ← List.drop_take, h5]
   unfold u8s
   rw [List.map_drop]
theorem TxAt.conv (h : TxAt w base (.slice ad L.length cap) L) (n : Nat) (hn : n ≤ L.length) (h0 : 0 < n) : (convert 108 9 (.slice ad n cap')).run Tryz.prog w = .ok (.string (ba (L.take n))) w := by
 obtain ⟨ad', cap1, e, h1, h2, h3⟩ := h
 simp only [Value.slice.injEq, true_and] at e
 obtain ⟨rfl, rfl⟩ := e
 rcases h3 with ⟨rfl, h3⟩ | ⟨g, off, cs, rfl, hb, hB, h4, h5⟩
 ·omega
 ·have hl : (L.take n).length = n := by rw [List.length_take]; omega
  have := run_convert_bytes_back (P := Tryz.prog) w 108 9 5 ⟨g, off, none⟩ cap' (L.take n) Tryz.underlying108 Tryz.underlying5 Tryz.underlying9 (by
   intro j hj
   rw [show (⟨g, off, none⟩ : Addr).add j = ⟨g, off + j, none⟩ by unfold Addr.add; split <;> simp_all, hB.cell (off + j)]
   have h6 : ((cs.drop off).take L.length)[j]? = (u8s L)[j]? := by rw [h5]
   rw [List.getElem?_take_of_lt (by omega), List.getElem?_drop] at h6
   rw [h6]
   unfold u8s
   rw [List.getElem?_map, List.getElem?_eq_getElem (by omega), List.getElem_take]
   rfl)
  rw [hl] at this
  exact this
theorem zFF (w : World) (t tx ty e : TypeId) (i : TypeInfo) (ht : P.underlying t = some (.slice e)) (hi : P.info? e = some i) (base : Option Addr) (sLen sCap : Nat) (hle : sLen ≤ sCap) (x : Value) (hs : Src P i.size tx x 0 [] w) :
  (Builtin.append_ #[t, tx] ty #[.slice base sLen sCap, x]).run P w = .ok (.slice base sLen sCap) w := by
 rcases hs.kind with ⟨e', hk⟩ | hk <;> cases base <;> simp [Builtin.append_, run_underlying ht, run_underlying hk, sizeOf, typeInfo, hi, hs.len, hle, hs.cells, storeCells]
theorem room_off (w : World) (t tx ty e : TypeId) (i : TypeInfo) (ht : P.underlying t = some (.slice e)) (hi : P.info? e = some i) (hs1 : i.size = 1)
  (g off sLen sCap : Nat) (cur : Array Value) (hg : w.heap[g]? = some (.cells cur e (0, 0))) (x : Value) (n : Nat) (news : List Value) (hs : Src P 1 tx x n news w)
  (hroom : sLen + n ≤ sCap) (hfit : off + sLen + news.length ≤ cur.size) :
  (Builtin.append_ #[t, tx] ty #[.slice (some ⟨g, off, none⟩) sLen sCap, x]).run P w =
   .ok (.slice (some ⟨g, off, none⟩) (sLen + n) sCap) (w.setRow g (cur.toList.take (off + sLen) ++ news ++ cur.toList.drop (off + sLen + news.length)).toArray) := by
 have hst := run_storeCells_at P g (off + sLen) e news 0 cur w hg (by simpa using hfit) hs.one
 simp only [Nat.add_zero] at hst
 have hc := hs.cells
 rcases hs.kind with ⟨e', hk⟩ | hk <;> simp [Builtin.append_, run_underlying ht, run_underlying hk, sizeOf, typeInfo, hi, hs1, hs.len, hroom, hc, Addr.add_lit, hst]
theorem tx_append (w : World) (base : Nat) (v : Value) (L M : List UInt8) (x : Value) (tx ty : TypeId) (h : TxAt w base v L) (hs : Src Tryz.prog 1 tx x M.length (u8s M) w) (hlen : L.length + M.length ≤ 1099511627776) (hbase : base ≤ w.heap.size) :
  ∃ ad cap w', (Builtin.append_ #[108, tx] ty #[v, x]).run Tryz.prog w = .ok (.slice ad (L.length + M.length) cap) w' ∧ TxAt w' base (.slice ad (L.length + M.length) cap) (L ++ M) ∧ w.grownBy w' v.ownBlock ∧
   ((Value.slice ad (L.length + M.length) cap).ownBlock = v.ownBlock ∨ (Value.slice ad (L.length + M.length) cap).ownBlock = some w.heap.size) := by
 obtain ⟨i0, hi, hz0, hz1, hz2⟩ := info_parts zEG
 obtain ⟨ad, cap, rfl, h1, h2, h3⟩ := h
 have hll : (L ++ M).length = L.length + M.length := List.length_append
 have grow : cap < L.length + M.length → (Builtin.firstCells 1 L.length (.slice ad L.length cap)).run Tryz.prog w.drew = .ok (u8s L).toArray w.drew →
   ∃ ad' cap' w', (Builtin.append_ #[108, tx] ty #[.slice ad L.length cap, x]).run Tryz.prog w = .ok (.slice ad' (L.length + M.length) cap') w' ∧ TxAt w' base (.slice ad' (L.length + M.length) cap') (L ++ M) ∧ w.grownBy w' (Value.slice ad L.length cap).ownBlock ∧
   ((Value.slice ad' (L.length + M.length) cap').ownBlock = (Value.slice ad L.length cap).ownBlock ∨ (Value.slice ad' (L.length + M.length) cap').ownBlock = some w.heap.size) := by
  intro hg hold
  have hm : L.length + M.length ≤ maxLen := by unfold maxLen; omega
  have hrun := run_append_grow_src (P := Tryz.prog) w 108 tx ty 5 i0 (.int .u8 0) Tryz.underlying108 hi hz0 ad L.length cap (u8s L) (by rw [hz1]; exact hold) x M.length (u8s M) (by rw [hz1]; exact hs) hg (by omega) (growslice_fits hg (by rw [hz2]; omega))
  have hge := grownCap_ge w (L.length + M.length) cap 5
  have hcm := grownCap_le_maxLen w (L.length + M.length) cap 5 hm
  refine ⟨_, _, _, hrun, ⟨_, _, by rw [hll], by rw [hll]; exact hge, hcm, Or.inr ⟨w.heap.size, 0, (u8s L ++ u8s M) ++ (Builtin.zeroCells (Value.int .u8 0).cells (grownCap w (L.length + M.length) cap 5 - (L.length + M.length))).toList, rfl, hbase, ?_, ?_, ?_⟩⟩, ⟨rfl, rfl, rfl, by simp, fun k hk _ => Below.heap_alloc w.drew _ k hk⟩, Or.inr rfl⟩
  ·unfold Blk
   have := heap_alloc_new w.drew (.cells ((u8s L ++ u8s M).toArray ++ Builtin.zeroCells (Value.int .u8 0).cells (grownCap w (L.length + M.length) cap 5 - (L.length + M.length))) 5 (0, 0))
   refine this.trans (congrArg (fun z => some (Obj.cells z 5 (0, 0))) ?_)
   apply Array.ext'
   rw [Array.toList_append]
  ·have hz : (Builtin.zeroCells (Value.int .u8 0).cells (grownCap w (L.length + M.length) cap 5 - (L.length + M.length))).toList.length = grownCap w (L.length + M.length) cap 5 - (L.length + M.length) := by
    rw [Array.length_toList, size_zeroCells]
    exact Nat.mul_one _
   rw [List.length_append, List.length_append, zAK, zAK, hz]
   omega
  ·have hul : (u8s L ++ u8s M).length = (L ++ M).length := by rw [List.length_append, zAK, zAK, hll]
   rw [List.drop_zero, ← hul, List.take_left]
   unfold u8s
   rw [List.map_append]
 rcases h3 with ⟨rfl, rfl⟩ | ⟨g, off, cs, rfl, hb, hB, h4, h5⟩
 ·have hL : L = [] := List.eq_nil_of_length_eq_zero (by omega)
  subst hL
  by_cases hM : M = []
  ·subst hM
   exact ⟨none, 0, w, zFF (P := Tryz.prog) w 108 tx ty 5 i0 Tryz.underlying108 hi none 0 0 (Nat.le_refl _) x (by rw [hz1]; exact hs), TxAt.nil _ _, ⟨rfl, rfl, rfl, Nat.le_refl _, fun _ _ _ => rfl⟩, Or.inl rfl⟩
  ·exact grow (by have := List.length_pos_iff.2 hM; simp; omega) (run_firstCells_none w.drew 1 0 0 0)
 ·by_cases hroom : L.length + M.length ≤ cap
  ·have hrun := room_off (P := Tryz.prog) w 108 tx ty 5 i0 Tryz.underlying108 hi hz1 g off L.length cap cs.toArray hB x M.length (u8s M) hs hroom (by rw [zAK]; simp; omega)
   refine ⟨_, _, _, hrun, ⟨_, _, by rw [hll], by rw [hll]; exact hroom, h2, Or.inr ⟨g, off, cs.take (off + L.length) ++ u8s M ++ cs.drop (off + L.length + M.length), rfl, hb, ?_, ?_, ?_⟩⟩, ⟨rfl, rfl, rfl, by simp, fun k _ hk => setRow_other w g k _ (fun e => hk (by simp [Value.ownBlock, e]))⟩, Or.inl rfl⟩
   ·unfold Blk
    rw [setRow_heap w g _ _ _ _ hB, zAK]
   ·simp only [List.length_append, List.length_take, List.length_drop, zAK]
    omega
   ·rw [hll, List.append_assoc, List.drop_append_of_le_length (by rw [List.length_take]; omega), List.drop_take, show off + L.length - off = L.length by omega, h5, ← List.append_assoc, show L.length + M.length = (u8s L ++ u8s M).length by rw [List.length_append, zAK, zAK], List.take_left]
    unfold u8s
    rw [List.map_append]
  ·refine grow (by omega) (run_firstCells_some w.drew 1 L.length ⟨g, off, none⟩ L.length cap (u8s L) (by rw [zAK, Nat.mul_one]) ?_)
   intro j u hu
   rw [show (⟨g, off, none⟩ : Addr).add j = ⟨g, off + j, none⟩ by unfold Addr.add; split <;> simp_all]
   show w.cell? ⟨g, off + j, none⟩ = some u
   have hj : j < L.length := by
    have := (List.getElem?_eq_some_iff.1 hu).1
    rw [zAK] at this
    exact this
   rw [hB.cell (off + j)]
   rw [← h5, List.getElem?_take_of_lt hj, List.getElem?_drop] at hu
   exact hu
theorem zEd {a : Act} {K : Act → World → Prop} (s x : Operand) (tx : TypeId)
  (ho : o.op = .call { callee := .builtin .append, args := #[s, x], argTypes := #[108, tx] })
  (base : Nat) (v : Value) (L M : List UInt8) (hs : a.eval s = v) (h : TxAt w base v L) (hx : Src Tryz.prog 1 tx (a.eval x) M.length (u8s M) w) (hlen : L.length + M.length ≤ 1099511627776) (hbase : base ≤ w.heap.size)
  (hk : ∀ ad cap w', TxAt w' base (.slice ad (L.length + M.length) cap) (L ++ M) → w.grownBy w' v.ownBlock → ((Value.slice ad (L.length + M.length) cap).ownBlock = v.ownBlock ∨ (Value.slice ad (L.length + M.length) cap).ownBlock = some w.heap.size) → K (a.put o.dst (.slice ad (L.length + M.length) cap)) w') : o.wp Tryz.prog a w K Q := by
 obtain ⟨ad, cap, w', hr, h2, h3, h4⟩ := tx_append w base v L M (a.eval x) tx o.type h hx hlen hbase
 unfold Oper.wp execOp
 simp only [ho, resolve, invoke, builtin, Sem.run_bind, Sem.run_pure, Result.andThen_ok, List.map_toArray, List.map_cons, List.map_nil, hs, hr]
 exact hk ad cap w' h2 h3 h4
theorem zCz {a : Act} (hgd : o.guard = none) (s x : Operand) (tx : TypeId)
  (ho : o.op = .call { callee := .builtin .append, args := #[s, x], argTypes := #[108, tx] })
  (base : Nat) (v : Value) (L M : List UInt8) (hs : a.eval s = v) (h : TxAt w base v L) (hx : Src Tryz.prog 1 tx (a.eval x) M.length (u8s M) w) (hlen : L.length + M.length ≤ 1099511627776) (hbase : base ≤ w.heap.size)
  (hk : ∀ ad cap w', TxAt w' base (.slice ad (L.length + M.length) cap) (L ++ M) → w.grownBy w' v.ownBlock → ((Value.slice ad (L.length + M.length) cap).ownBlock = v.ownBlock ∨ (Value.slice ad (L.length + M.length) cap).ownBlock = some w.heap.size) → wpList Tryz.prog ops Q rest (a.put o.dst (.slice ad (L.length + M.length) cap)) w') : wpList Tryz.prog ops Q (o :: rest) a w :=
 wpList_plain hgd fun _ hK => zEd s x tx ho base v L M hs h hx hlen hbase fun ad cap w' h2 h3 h4 => hK _ _ (hk ad cap w' h2 h3 h4)
theorem zCV {a : Act} {K : Act → World → Prop} (hgd : o.guard = none) (s x : Operand) (tx : TypeId)
  (ho : o.op = .call { callee := .builtin .append, args := #[s, x], argTypes := #[108, tx] })
  (base : Nat) (v : Value) (L M : List UInt8) (hs : a.eval s = v) (h : TxAt w base v L) (hx : Src Tryz.prog 1 tx (a.eval x) M.length (u8s M) w) (hlen : L.length + M.length ≤ 1099511627776) (hbase : base ≤ w.heap.size)
  (hk : ∀ ad cap w', TxAt w' base (.slice ad (L.length + M.length) cap) (L ++ M) → w.grownBy w' v.ownBlock → ((Value.slice ad (L.length + M.length) cap).ownBlock = v.ownBlock ∨ (Value.slice ad (L.length + M.length) cap).ownBlock = some w.heap.size) → K (a.put o.dst (.slice ad (L.length + M.length) cap)) w') :
  if Region.wanted o (yielded ops a.tmps) = true then Oper.wp Tryz.prog o a w K Q else E := by
 have hw : Region.wanted o (yielded ops a.tmps) = true := by simp [Region.wanted, hgd]
 rw [if_pos hw]
 exact zEd s x tx ho base v L M hs h hx hlen hbase hk
def lcp : Nat → List UInt8 → List UInt8 → Nat
 | 0, _, _ => 0
 | n + 1, [], _ => 0
 | n + 1, _ :: _, [] => 0
 | n + 1, c :: x, d :: y => if c = d then lcp n x y + 1 else 0
theorem lcp_le (n : Nat) : ∀ x y : List UInt8, lcp n x y ≤ n ∧ lcp n x y ≤ y.length := by
 induction n with
 | zero => intro x y; simp [lcp]
 | succ n ih =>
  intro x y
  match x, y with
  | [], _ => simp [lcp]
  | _ :: _, [] => simp [lcp]
  | c :: x, d :: y =>
   unfold lcp
   by_cases h : c = d
   ·rw [if_pos h]
    have := ih x y
    simp only [List.length_cons]
    omega
   ·rw [if_neg h]; simp
theorem lcp_at (n : Nat) : ∀ (x y : List UInt8) (j : Nat), j < lcp n x y → x[j]? = y[j]? := by
 induction n with
 | zero => intro x y j h; simp [lcp] at h
 | succ n ih =>
  intro x y j h
  match x, y with
  | [], _ => simp [lcp] at h
  | _ :: _, [] => simp [lcp] at h
  | c :: x, d :: y =>
   unfold lcp at h
   by_cases e : c = d
   ·rw [if_pos e] at h
    match j with
    | 0 => simp [e]
    | j + 1 => simp only [List.getElem?_cons_succ]; exact ih x y j (by omega)
   ·rw [if_neg e] at h; omega
def pslot (L : List UInt8) (i : Nat) : Nat := ((L.getD i 0).toNat + (L.getD (i + 1) 0).toNat * 256 + (L.getD (i + 2) 0).toNat * 65536 + (L.getD (i + 3) 0).toNat * 16777216) * 2654435761 % 4294967296 / 1048576
theorem zEz (L : List UInt8) (i : Nat) : pslot L i < 4096 := by unfold pslot; omega
structure Fd where
 head : List Nat
 prev : List Nat
 done : Nat
def Fd.new (L : List UInt8) : Fd := ⟨List.replicate 4096 0, List.replicate L.length 0, 0⟩
def Fd.put1 (L : List UInt8) (F : Fd) : Fd := ⟨F.head.set (pslot L F.done) (F.done + 1), F.prev.set F.done (F.head.getD (pslot L F.done) 0), F.done + 1⟩
def Fd.puts (L : List UInt8) : Nat → Fd → Fd
 | 0, F => F
 | n + 1, F => Fd.puts L n (F.put1 L)
def Fd.putTo (L : List UInt8) (to_ : Nat) (F : Fd) : Fd := F.puts L (min to_ (L.length - 3) - F.done)
def zBm (L : List UInt8) (prev : List Nat) (at_ : Nat) : Nat → Nat → Nat → Nat → Nat × Nat
 | 0, _, back, size => (back, size)
 | f + 1, p, back, size =>
  if 0 < p ∧ at_ - (p - 1) ≤ 4096 then
   if size < lcp 259 (L.drop (p - 1)) (L.drop at_) then zBm L prev at_ f (prev.getD (p - 1) 0) (at_ - (p - 1)) (lcp 259 (L.drop (p - 1)) (L.drop at_))
   else zBm L prev at_ f (prev.getD (p - 1) 0) back size
  else (back, size)
def Fd.headAt (L : List UInt8) (at_ : Nat) (F : Fd) : Nat := F.head.getD (pslot L at_) 0
def Fd.chain (L : List UInt8) (at_ : Nat) (F : Fd) : Nat × Nat := zBm L F.prev at_ (F.headAt L at_ + 1) (F.headAt L at_) 0 0
def Fd.longest (L : List UInt8) (at_ : Nat) (F : Fd) : (Nat × Nat) × Fd :=
 if L.length < at_ + 4 then ((0, 0), F)
 else (if ((F.putTo L at_).chain L at_).2 < 4 then (0, 0) else (F.putTo L at_).chain L at_, F.putTo L at_)
structure Fd.Ok (L : List UInt8) (F : Fd) : Prop where
 head : F.head.length = 4096
 prev : F.prev.length = L.length
 le : ∀ x ∈ F.head, x ≤ F.done
 back : ∀ i, F.prev.getD i 0 ≤ i
 done : F.done ≤ L.length
theorem Fd.Ok.headAt {F : Fd} (h : F.Ok L) (i : Nat) : F.head.getD (pslot L i) 0 ≤ F.done := by
 have hl : pslot L i < F.head.length := by rw [h.head]; exact zEz L i
 rw [List.getD_eq_getElem?_getD, List.getElem?_eq_getElem hl]
 exact h.le _ (List.getElem_mem hl)
theorem Fd.new_ok (L : List UInt8) : (Fd.new L).Ok L := by
 refine ⟨List.length_replicate, List.length_replicate, ?_, ?_, Nat.zero_le _⟩
 ·intro x hx
  have := List.eq_of_mem_replicate hx
  subst this
  exact Nat.zero_le _
 ·intro i
  show (List.replicate L.length 0).getD i 0 ≤ i
  rw [List.getD_eq_getElem?_getD, List.getElem?_replicate]
  by_cases h : i < L.length
  ·rw [if_pos h]; exact Nat.zero_le _
  ·rw [if_neg h]; exact Nat.zero_le _
theorem Fd.put1_ok {F : Fd} (h : F.Ok L) (hd : F.done < L.length) : (F.put1 L).Ok L := by
 have hh := h.headAt F.done
 refine ⟨by simp [Fd.put1, h.head], by simp [Fd.put1, h.prev], ?_, ?_, hd⟩
 ·intro x hx
  rcases List.mem_or_eq_of_mem_set hx with h1 | h1
  ·exact Nat.le_succ_of_le (h.le x h1)
  ·rw [h1]; exact Nat.le_refl _
 ·intro i
  show (F.prev.set F.done _).getD i 0 ≤ i
  rw [List.getD_eq_getElem?_getD, List.getElem?_set]
  by_cases e : F.done = i
  ·rw [if_pos e]
   by_cases h2 : F.done < F.prev.length
   ·rw [if_pos h2]; subst e; exact hh
   ·rw [if_neg h2]; exact Nat.zero_le _
  ·rw [if_neg e, ← List.getD_eq_getElem?_getD]; exact h.back i
theorem Fd.puts_ok {L : List UInt8} : ∀ (n : Nat) {F : Fd}, F.Ok L → F.done + n ≤ L.length → (F.puts L n).Ok L ∧ (F.puts L n).done = F.done + n
 | 0, F, h, _ => ⟨h, rfl⟩
 | n + 1, F, h, hn => by
  have := Fd.puts_ok n (Fd.put1_ok h (by omega)) (show F.done + 1 + n ≤ L.length by omega)
  refine ⟨this.1, this.2.trans ?_⟩
  show F.done + 1 + n = F.done + (n + 1)
  omega
theorem Fd.putTo_ok {F : Fd} (to_ : Nat) (h : F.Ok L) (ht : F.done ≤ to_) (hl : to_ ≤ L.length) : (F.putTo L to_).Ok L ∧ (F.putTo L to_).done ≤ to_ := by
 have := Fd.puts_ok (min to_ (L.length - 3) - F.done) h (by omega)
 refine ⟨this.1, ?_⟩
 have h2 := this.2
 show (F.puts L (min to_ (L.length - 3) - F.done)).done ≤ to_
 omega
def zGa (L : List UInt8) (at_ : Nat) (r : Nat × Nat) : Prop := 1 ≤ r.1 ∧ r.1 ≤ at_ ∧ r.1 ≤ 4096 ∧ r.2 ≤ 259 ∧ at_ + r.2 ≤ L.length ∧ ∀ j, j < r.2 → L[at_ - r.1 + j]? = L[at_ + j]?
theorem zCM {L : List UInt8} {prev : List Nat} {at_ : Nat} (hp : ∀ i, prev.getD i 0 ≤ i) (hat : at_ ≤ L.length) : ∀ (f p back size : Nat), p ≤ at_ → (size = 0 ∨ zGa L at_ (back, size)) → ((zBm L prev at_ f p back size).2 = 0 ∨ zGa L at_ (zBm L prev at_ f p back size))
 | 0, p, back, size, _, h => h
 | f + 1, p, back, size, hpa, h => by
  unfold zBm
  by_cases h1 : 0 < p ∧ at_ - (p - 1) ≤ 4096
  ·rw [if_pos h1]
   have hq := hp (p - 1)
   by_cases h2 : size < lcp 259 (L.drop (p - 1)) (L.drop at_)
   ·rw [if_pos h2]
    refine zCM hp hat f _ _ _ (by omega) (Or.inr ?_)
    have hl := lcp_le 259 (L.drop (p - 1)) (L.drop at_)
    rw [List.length_drop] at hl
    refine ⟨by show 1 ≤ at_ - (p - 1); omega, by show at_ - (p - 1) ≤ at_; omega, h1.2, hl.1, by show at_ + _ ≤ _; omega, fun j hj => ?_⟩
    have := lcp_at 259 _ _ j hj
    rw [List.getElem?_drop, List.getElem?_drop] at this
    rw [show at_ - (at_ - (p - 1)) + j = p - 1 + j by omega]
    exact this
   ·rw [if_neg h2]
    exact zCM hp hat f _ _ _ (by omega) h
  ·rw [if_neg h1]; exact h
theorem Fd.longest_ok {F : Fd} (at_ : Nat) (h : F.Ok L) (ht : F.done ≤ at_) (hl : at_ ≤ L.length) : (F.longest L at_).2.Ok L ∧ (F.longest L at_).2.done ≤ at_ ∧ ((F.longest L at_).1.2 = 0 ∨ 4 ≤ (F.longest L at_).1.2 ∧ zGa L at_ (F.longest L at_).1) := by
 unfold Fd.longest
 by_cases h1 : L.length < at_ + 4
 ·rw [if_pos h1]; exact ⟨h, ht, Or.inl rfl⟩
 ·rw [if_neg h1]
  have h2 := Fd.putTo_ok at_ h ht hl
  refine ⟨h2.1, h2.2, ?_⟩
  have h3 : (F.putTo L at_).headAt L at_ ≤ at_ := Nat.le_trans (h2.1.headAt at_) h2.2
  have h4 := zCM h2.1.back hl ((F.putTo L at_).headAt L at_ + 1) ((F.putTo L at_).headAt L at_) 0 0 h3 (Or.inl rfl)
  show (if ((F.putTo L at_).chain L at_).2 < 4 then (0, 0) else (F.putTo L at_).chain L at_).2 = 0 ∨ _
  by_cases h5 : ((F.putTo L at_).chain L at_).2 < 4
  ·rw [if_pos h5]; exact Or.inl rfl
  ·rw [if_neg h5]
   refine Or.inr ⟨Nat.le_of_not_lt h5, ?_⟩
   rcases h4 with h4 | h4
   ·exact absurd (show ((F.putTo L at_).chain L at_).2 = 0 from h4) (by omega)
   ·exact h4
def zAF (L : List UInt8) (from_ to_ : Nat) : List UInt8 := if from_ < to_ then cnL (2 * (to_ - from_)) ++ (L.drop from_).take (to_ - from_) else []
def zAD (L : List UInt8) : Nat → Nat → Nat → Fd → List UInt8
 | 0, _, _, _ => []
 | f + 1, at_, from_, F =>
  if at_ < L.length then
   if (F.longest L at_).1.2 = 0 then zAD L f (at_ + 1) from_ (F.longest L at_).2
   else zAF L from_ at_ ++ (cnL (2 * ((F.longest L at_).1.2 - 4) + 1) ++ (cnL ((F.longest L at_).1.1 - 1) ++ zAD L f (at_ + (F.longest L at_).1.2) (at_ + (F.longest L at_).1.2) (F.longest L at_).2))
  else zAF L from_ L.length
def press (L : List UInt8) : List UInt8 := cnL L.length ++ zAD L (L.length + 1) 0 0 (Fd.new L)
def wrapL (L : List UInt8) : List UInt8 := if (press L).length < L.length then 90 :: press L else 82 :: L
theorem zFg (L : List UInt8) : (wrapL L).length ≤ L.length + 1 := by
 unfold wrapL
 by_cases h : (press L).length < L.length
 ·rw [if_pos h, List.length_cons]; omega
 ·rw [if_neg h, List.length_cons]; exact Nat.le_refl _
structure Stp where
 at_ : Int
 len : Int
 text : List UInt8
structure Dl where
 basis : List UInt8
 mark : List UInt8
 size : Int
 steps : List Stp
def stpOk (x : Stp) (basis : Int) : Prop :=
 (x.text ≠ [] ∧ x.at_ = 0 ∧ x.len = 0 ∧ x.text.length ≤ 4096) ∨
 (x.text = [] ∧ 0 < x.len ∧ 0 ≤ x.at_ ∧ x.len ≤ 524288 ∧ x.at_ ≤ 524288 - x.len ∧ (basis < 0 ∨ x.at_ + x.len ≤ basis))
instance (x : Stp) (basis : Int) : Decidable (stpOk x basis) := by unfold stpOk; infer_instance
def stpN (x : Stp) : Int := x.len + (x.text.length : Nat)
def zCA (B : List UInt8) (x : Stp) : List UInt8 := (B.drop x.at_.toNat).take x.len.toNat ++ x.text
def outS (B : List UInt8) (l : List Stp) : List UInt8 := l.flatMap (zCA B)
theorem stpOk.any {x : Stp} {b : Int} (h : stpOk x b) : stpOk x (-1) := by
 rcases h with h | ⟨h1, h2, h3, h4, h5, _⟩
 ·exact Or.inl h
 ·exact Or.inr ⟨h1, h2, h3, h4, h5, Or.inl (by decide)⟩
theorem stpOk.n_pos {x : Stp} {b : Int} (h : stpOk x b) : 0 < stpN x := by
 unfold stpN
 rcases h with ⟨h1, h2, h3, h4⟩ | ⟨h1, h2, h3, h4, h5, _⟩
 ·have : 0 < x.text.length := List.length_pos_iff.2 h1
  omega
 ·rw [h1]; simp; omega
theorem zDX {B : List UInt8} {x : Stp} (h : stpOk x (B.length : Nat)) : ((zCA B x).length : Int) = stpN x := by
 unfold zCA stpN
 rw [List.length_append, List.length_take, List.length_drop]
 rcases h with ⟨h1, h2, h3, h4⟩ | ⟨h1, h2, h3, h4, h5, h6⟩
 ·rw [h3]; simp
 ·rw [h1]
  have : ¬ ((B.length : Nat) : Int) < 0 := by omega
  have h7 := h6.resolve_left this
  simp only [List.length_nil]
  omega
theorem zDC (B : List UInt8) (x : Stp) (l : List Stp) : outS B (x :: l) = zCA B x ++ outS B l := rfl
theorem zBs (B : List UInt8) (l m : List Stp) : outS B (l ++ m) = outS B l ++ outS B m := by unfold outS; rw [List.flatMap_append]
theorem zCb {B : List UInt8} : ∀ (l : List Stp), (∀ x ∈ l, stpOk x (B.length : Nat)) → l.length ≤ (outS B l).length
 | [], _ => Nat.zero_le _
 | x :: l, h => by
  have hx := h x (List.mem_cons_self ..)
  have hn := zDX hx
  have hp := hx.n_pos
  have := zCb l (fun y hy => h y (List.mem_cons_of_mem _ hy))
  rw [zDC, List.length_append, List.length_cons]
  omega
def stpB (x : Stp) : List UInt8 := if x.text ≠ [] then cnL (2 * x.text.length) ++ x.text else cnL (2 * x.len + 1).toNat ++ cnL x.at_.toNat
def zDT (d : Dl) : List UInt8 := (d.basis ++ d.mark) ++ (cnL d.size.toNat ++ (cnL d.steps.length ++ d.steps.flatMap stpB))
def zCh (t : List UInt8) (cs : List Stp) : Prop := (∀ x ∈ cs, x.at_ = 0 ∧ x.len = 0 ∧ x.text ≠ [] ∧ x.text.length ≤ 4096) ∧ cs.flatMap Stp.text = t
theorem zCh.ok {cs : List Stp} (h : zCh t cs) (B : List UInt8) : (∀ x ∈ cs, stpOk x (B.length : Nat)) ∧ outS B cs = t := by
 obtain ⟨h1, h2⟩ := h
 refine ⟨fun x hx => Or.inl ⟨(h1 x hx).2.2.1, (h1 x hx).1, (h1 x hx).2.1, (h1 x hx).2.2.2⟩, ?_⟩
 rw [← h2]
 clear h2
 induction cs with
 | nil => rfl
 | cons x cs ih =>
  have hx := h1 x (List.mem_cons_self ..)
  rw [zDC, ih (fun y hy => h1 y (List.mem_cons_of_mem _ hy))]
  show zCA B x ++ _ = x.text ++ _
  have : zCA B x = x.text := by unfold zCA; rw [hx.2.1]; simp
  rw [this]; rfl
def zCH (l : List Stp) (at_ n : Int) : List Stp :=
 match l.getLast? with
 | some x => if 0 < x.len ∧ x.at_ + x.len = at_ then l.dropLast ++ [⟨x.at_, x.len + n, x.text⟩] else l ++ [⟨at_, n, []⟩]
 | none => l ++ [⟨at_, n, []⟩]
structure Mk (B : List UInt8) (l : List Stp) (out : List UInt8) : Prop where
 ok : ∀ x ∈ l, stpOk x (B.length : Nat)
 out : outS B l = out
theorem Mk.nil (B : List UInt8) : Mk B [] [] := ⟨fun x hx => (by cases hx), rfl⟩
theorem Mk.add {B : List UInt8} {l cs : List Stp} (h : Mk B l out) (hc : zCh t cs) : Mk B (l ++ cs) (out ++ t) := by
 have := hc.ok B
 refine ⟨fun x hx => ?_, by rw [zBs, h.out, this.2]⟩
 rcases List.mem_append.1 hx with e | e
 ·exact h.ok x e
 ·exact this.1 x e
theorem Mk.copy {B : List UInt8} {l : List Stp} (h : Mk B l out) (hn : 0 < n) (ha : at_ + n ≤ B.length) (hB : B.length ≤ 524288) : Mk B (zCH l (at_ : Nat) (n : Nat)) (out ++ (B.drop at_).take n) := by
 have hnew : Mk B (l ++ [⟨(at_ : Nat), (n : Nat), []⟩]) (out ++ (B.drop at_).take n) := by
  refine ⟨fun x hx => ?_, ?_⟩
  ·rcases List.mem_append.1 hx with e | e
   ·exact h.ok x e
   ·rw [List.mem_singleton.1 e]
    refine Or.inr ⟨rfl, by show (0 : Int) < (n : Nat); omega, by show (0 : Int) ≤ (at_ : Nat); omega, by show ((n : Nat) : Int) ≤ 524288; omega, by show ((at_ : Nat) : Int) ≤ 524288 - (n : Nat); omega, Or.inr (by show ((at_ : Nat) : Int) + (n : Nat) ≤ (B.length : Nat); omega)⟩
  ·rw [zBs, h.out]
   show out ++ (zCA B _ ++ []) = _
   unfold zCA
   simp
 unfold zCH
 match hl : l.getLast? with
 | none => exact hnew
 | some x =>
  show Mk B (if 0 < x.len ∧ x.at_ + x.len = (at_ : Nat) then l.dropLast ++ [⟨x.at_, x.len + (n : Nat), x.text⟩] else l ++ [⟨(at_ : Nat), (n : Nat), []⟩]) _
  by_cases hc : 0 < x.len ∧ x.at_ + x.len = (at_ : Nat)
  ·rw [if_pos hc]
   obtain ⟨hx0, hx1⟩ := hc
   have hsp : l = l.dropLast ++ [x] := by
    have hne : l ≠ [] := by rintro rfl; simp at hl
    have := List.dropLast_concat_getLast hne
    rw [List.getLast?_eq_some_getLast hne] at hl
    injection hl with hl
    rw [← hl]
    exact this.symm
   have hxm : x ∈ l := by rw [hsp]; simp
   have hok := h.ok x hxm
   rcases hok with ⟨_, _, h3, _⟩ | ⟨h1, h2, h3, h4, h5, h6⟩
   ·omega
   ·have h7 := h6.resolve_left (by omega)
    refine ⟨fun y hy => ?_, ?_⟩
    ·rcases List.mem_append.1 hy with e | e
     ·exact h.ok y (List.mem_of_mem_take (by rw [← List.dropLast_eq_take]; exact e))
     ·rw [List.mem_singleton.1 e]
      exact Or.inr ⟨h1, by show (0 : Int) < x.len + (n : Nat); omega, h3, by show x.len + (n : Nat) ≤ 524288; omega, by show x.at_ ≤ 524288 - (x.len + (n : Nat)); omega, Or.inr (by show x.at_ + (x.len + (n : Nat)) ≤ (B.length : Nat); omega)⟩
    ·have ho := h.out
     rw [hsp, zBs] at ho
     rw [zBs, ← ho, List.append_assoc]
     congr 1
     show zCA B ⟨x.at_, x.len + (n : Nat), x.text⟩ ++ [] = (zCA B x ++ []) ++ _
     unfold zCA
     rw [h1]
     simp only [List.append_nil]
     rw [show (x.len + (n : Nat)).toNat = x.len.toNat + n by omega, show at_ = x.at_.toNat + x.len.toNat by omega, ← List.drop_drop, List.take_add]
  ·rw [if_neg hc]; exact hnew
end Go.Proofs.YtaemlplcjjbamaaGreatDoor
