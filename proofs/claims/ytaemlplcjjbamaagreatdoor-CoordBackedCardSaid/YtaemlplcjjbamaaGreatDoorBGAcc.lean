/- The walk of a coordinator's wants in whatever state. No cond -/
import Derived.Test.YtaemlplcjjbamaaGreatDoorBGPack
namespace Go.Proofs.YtaemlplcjjbamaaGreatDoor
open Go.Lib (hid)
set_option maxRecDepth 100000
set_option maxHeartbeats 8000000
open Go Go.RowKit
set_option linter.unusedVariables false
variable {P : Program} {Z c i j kb mb n off : Nat} {bal id : Int} {mid : List (Int × List UInt8)} {w w' w0 : World}
theorem Gf.newFet {G : Gh} {D : Dt} {S : CSt} (h : Gf w0 c kb mb n id bal G Z D S w) (hc : zAb w c S) (hT : Touch (fun k => k = c) w w') (F : FetD) (h1 : Blk w' F.f (zCm F) 129) (hl : w0.heap.size ≤ F.f) (hb : BoxOk w0.heap.size w' F.box) :
  Gf w0 c kb mb n id bal G Z { D with fet := some F } { S with fetch := .pointer (some ⟨F.f, 0, none⟩) } w' ∧ Fr w0 w w' := by
 obtain ⟨g1, g2⟩ := h.coord hc hT
 exact ⟨{ g1 with
  fet := rfl
  fetB := fun F' e => by
   injection e with e
   subst e
   exact ⟨h1, hl, hb⟩ }, g2⟩
theorem zEy {G : Gh} {D : Dt} {S : CSt} (h : Gc w0 c kb mb n id bal G Z D S w) (gen rank : Int) (mk : ByteArray) :
  Calls Tryz.prog 56 #[.pointer (some ⟨c, 0, none⟩), .int .i64 gen, .string mk, .int .i64 rank] w fun x w' => x = .returned (.tuple #[]) ∧ Gs w0 c kb mb n id bal G Z w' ∧ Fr w0 w w' := by
 have hbl := h.at_.1.lt
 have H0 := hid h
 have c85 : w.cell? ⟨c, 85, none⟩ = some S.fetch := h.at_.ft 1
 have f85 := h.at_.1.free 85
 have fin : Gs w0 c kb mb n id bal G Z ((w.setCell ⟨c, 85, none⟩ (.pointer (some ⟨w.heap.size, 0, none⟩))).alloc (.cells #[.int .i64 gen, .string mk, .pointer none, .int .i64 rank, .int .i64 0] 129)) ∧ Fr w0 w ((w.setCell ⟨c, 85, none⟩ (.pointer (some ⟨w.heap.size, 0, none⟩))).alloc (.cells #[.int .i64 gen, .string mk, .pointer none, .int .i64 rank, .int .i64 0] 129)) := by
  have hT : Touch (fun k => k = c) w ((w.setCell ⟨c, 85, none⟩ (.pointer (some ⟨w.heap.size, 0, none⟩))).alloc (.cells #[.int .i64 gen, .string mk, .pointer none, .int .i64 rank, .int .i64 0] 129)) := (zAa (Touch.refl _ _) _).alloc _
  have hN := Blk.new (w.setCell ⟨c, 85, none⟩ (.pointer (some ⟨w.heap.size, 0, none⟩))) [.int .i64 gen, .string mk, .pointer none, .int .i64 rank, .int .i64 0] 129
  have hs : (w.setCell ⟨c, 85, none⟩ (.pointer (some ⟨w.heap.size, 0, none⟩))).heap.size = w.heap.size := by simp [World.setCell]
  rw [hs] at hN
  obtain ⟨g1, f1⟩ := h.gf.newFet h.at_ hT ⟨w.heap.size, gen, mk, .pointer none, rank, 0⟩ hN h.gf.below.size (Or.inl rfl)
  have hC : zAb ((w.setCell ⟨c, 85, none⟩ (.pointer (some ⟨w.heap.size, 0, none⟩))).alloc (.cells #[.int .i64 gen, .string mk, .pointer none, .int .i64 rank, .int .i64 0] 129)) c { S with fetch := .pointer (some ⟨w.heap.size, 0, none⟩) } := (h.at_.setFt 1 (.pointer (some ⟨w.heap.size, 0, none⟩)) { S with fetch := .pointer (some ⟨w.heap.size, 0, none⟩) } rfl rfl rfl).alloc _
  exact ⟨⟨_, _, hC, g1⟩, f1⟩
 have HFin := hid fin
 clear fin
 cases hf : D.fet with
 | none =>
  rw [show S.fetch = .pointer none by rw [h.gf.fet, hf]; rfl] at c85
  clear h hf
  go_enter Tryz.func56, Tryz.ntmps56
  go_wp2
  go_end0
  exact ⟨rfl, HFin.out.1, HFin.out.2⟩
 | some F =>
  obtain ⟨a1, a2, a3⟩ := h.gf.fetB F hf
  rw [show S.fetch = .pointer (some ⟨F.f, 0, none⟩) by rw [h.gf.fet, hf]; rfl] at c85
  have k0 : w.cell? ⟨F.f, 0, none⟩ = some (.int .i64 F.gen) := a1.cell 0
  have k3 : w.cell? ⟨F.f, 3, none⟩ = some (.int .i64 F.rank) := a1.cell 3
  have k4 : w.cell? ⟨F.f, 4, none⟩ = some (.int .i64 F.age) := a1.cell 4
  have hkl := a1.lt
  have hkc : F.f ≠ c := a1.ne h.at_.1 (by decide)
  generalize F.f = f at c85 k0 k3 k4 hkl hkc
  generalize F.gen = fg at k0
  generalize F.rank = fr at k3
  generalize F.age = fa at k4
  clear h hf a1 a2 a3
  by_cases h1 : fr < rank
  ·go_enter Tryz.func56, Tryz.ntmps56
   go_wp2
   go_end0
   exact ⟨rfl, HFin.out.1, HFin.out.2⟩
  ·cases h2 : (fr == rank) with
   | true =>
    by_cases h3 : fg < gen
    ·go_enter Tryz.func56, Tryz.ntmps56
     go_wp2
     go_end0
     exact ⟨rfl, HFin.out.1, HFin.out.2⟩
    ·skip
     by_cases h4 : 8 < fa
     ·cases h5 : (fg == gen) with
      | true =>
       go_enter Tryz.func56, Tryz.ntmps56
       go_wp2
       go_end0
       exact ⟨rfl, ⟨D, S, H0.out⟩, Fr.of_below (Below.refl _ _)⟩
      | false =>
       go_enter Tryz.func56, Tryz.ntmps56
       go_wp2
       go_end0
       exact ⟨rfl, HFin.out.1, HFin.out.2⟩
     ·go_enter Tryz.func56, Tryz.ntmps56
      go_wp2
      go_end0
      exact ⟨rfl, ⟨D, S, H0.out⟩, Fr.of_below (Below.refl _ _)⟩
   | false =>
    by_cases h4 : 8 < fa
    ·cases h5 : (fg == gen) with
     | true =>
      go_enter Tryz.func56, Tryz.ntmps56
      go_wp2
      go_end0
      exact ⟨rfl, ⟨D, S, H0.out⟩, Fr.of_below (Below.refl _ _)⟩
     | false =>
      go_enter Tryz.func56, Tryz.ntmps56
      go_wp2
      go_end0
      exact ⟨rfl, HFin.out.1, HFin.out.2⟩
    ·go_enter Tryz.func56, Tryz.ntmps56
     go_wp2
     go_end0
     exact ⟨rfl, ⟨D, S, H0.out⟩, Fr.of_below (Below.refl _ _)⟩
theorem zGV (w : World) (t e ty : TypeId) (z : Value) (zs : List Value) (ht : P.underlying t = some (.slice e)) (hv : ∀ w, (zeroValue e).run P w = .ok z w) (b o n c : Nat) (hz : (Builtin.zeroCells z.cells n).toList = zs) (h1 : ∀ v ∈ zs, v.oneCell' = true) (hn : 0 < n)
  (hc : ∀ j, j < zs.length → (w.cell? ⟨b, o + j, none⟩).isSome = true) (hf : ∀ j, j < zs.length → w.frozen? ⟨b, o + j, none⟩ = false) :
  (Builtin.clear_ #[t] ty #[.slice (some ⟨b, o, none⟩) n c]).run P w = .ok (.tuple #[]) (w.setCells b o zs) := by
 have hst := run_storeCells_cells (P := P) b o zs 0 w (by simpa using hc) (by simpa using hf) h1
 simp only [Nat.add_zero] at hst
 obtain ⟨m, rfl⟩ : ∃ m, n = m + 1 := ⟨n - 1, by omega⟩
 simp [Builtin.clear_, run_underlying ht, hv, hz, hst]
theorem zeros_kn (n : Nat) : ∃ zs, (Builtin.zeroCells (Value.agg #[.int .i64 0, .string ByteArray.empty]).cells n).toList = zs ∧ zs.length = n * 2 ∧ ∀ v ∈ zs, v.oneCell' = true := by
 refine ⟨_, rfl, ?_, ?_⟩
 ·simp [Builtin.zeroCells, Value.cells]
 ·intro v hv
  simp only [Builtin.zeroCells, Value.cells, Array.toList_map, List.mem_map] at hv
  obtain ⟨i, _, rfl⟩ := hv
  have h4 : i % 2 < 2 := Nat.mod_lt _ (by decide)
  show Value.oneCell' ((#[Value.int .i64 0, .string ByteArray.empty])[i % 2]!) = true
  generalize i % 2 = q at h4
  match q, h4 with
  | 0, _ => rfl
  | 1, _ => rfl
def Sml (I : List (Int × List UInt8)) : Prop := ∀ x ∈ I, x.2.length ≤ 524288
theorem gindexKn (v : Value) (B q : Nat) (I : List (Int × List UInt8)) (g : Int) (w : World) (hr : RAt w B 151 2 v I.length (knV I)) (hl : I.length ≤ 1000000) (hq : w.cell? ⟨q, 0, none⟩ = some (.int .i64 g)) (hql : q < w.heap.size) :
  Calls Tryz.prog 124 #[v, .func (.func 110) #[] #[.pointer (some ⟨q, 0, none⟩)]] w fun e w' => ∃ r : Int, e = .returned (.int .i64 r) ∧ (r = -1 ∨ 0 ≤ r ∧ r < I.length) ∧ Below w.heap.size w w' := by
 obtain ⟨ia, ic, rfl⟩ := RAt.shape hr
 have HG := hid (fun (x : Int) (t : ByteArray) (w' : World) (hb : Below w.heap.size w w') => zHb x g t q w' ((hb.cell (p := ⟨q, 0, none⟩) hql).trans hq) (Nat.lt_of_lt_of_le hql hb.size))
 obtain ⟨m, hm⟩ : ∃ m, m = I.length := ⟨_, rfl⟩
 rw [← hm] at hr hl ⊢
 have HR := hid hr
 have Hm := hid hm
 clear hr hm hq hql
 go_enter Tryz.func124, Tryz.ntmps124
 go_wp2_with fail
 go_loopw [8] (fun i wr => ∃ k : Nat, k ≤ m ∧ i = .int .i64 k ∧ Hid (Below w.heap.size w wr)) (fun i _ => m - (intOf i).toNat)
 case atStart => exact ⟨0, Nat.zero_le _, rfl, hid (Below.refl _ _)⟩
 case round =>
  obtain ⟨k, hk, rfl, HB⟩ := hrel
  by_cases hlt : k < m
  ·have HRr := hid (HR.out.below HB.out)
   obtain ⟨gg, off, cap, hv0, hg2, hg3, hg4, hg6, hg5⟩ := RAt.some HRr.out (by omega)
   simp only [Value.slice.injEq] at hv0
   obtain ⟨rfl, _, rfl⟩ := hv0
   obtain ⟨x, hx⟩ : ∃ x, I[k]? = some x := ⟨_, List.getElem?_eq_getElem (by have := Hm.out; omega)⟩
   obtain ⟨v1, v2⟩ := zHJ hx
   have e1 : wr.cell? ⟨gg, off + k * 2, none⟩ = _ := (hg5 (k * 2) (by omega)).trans v1
   have e2 : wr.cell? ⟨gg, off + k * 2 + 1, none⟩ = _ := (hg5 (k * 2 + 1) (by omega)).trans v2
   have HG1 := hid (HG.out x.1 (ba x.2) wr HB.out)
   clear hg5 v1 v2 hx
   go_wp2_with fail
   refine HG1.out.mono ?_
   rintro e w1 ⟨rfl, hb1⟩
   have HB1 := hid (HB.out.trans (hb1.mono HB.out.size))
   clear hb1 e1 e2 HG1
   cases hxb : (x.1 == g) with
   | true =>
    go_wp2_with fail
    go_ret
    exact ⟨(k : Int), rfl, Or.inr ⟨by omega, by omega⟩, HB1.out⟩
   | false =>
    go_wp2_with fail
    go_roundw
    case rel => exact ⟨k + 1, hlt, by go_num, HB1⟩
    case measure => simp [intOf]; omega
  ·go_wp2_with fail
   go_ret
   exact ⟨-1, rfl, Or.inl rfl, HB.out⟩
theorem zHz {b : Nat} {T : TypeId} : ∀ (vs : List Value) {w : World} {cs : List Value} (h : Blk w b cs T) (o : Nat) (hl : o + vs.length ≤ cs.length), Blk (w.setCells b o vs) b (cs.take o ++ vs ++ cs.drop (o + vs.length)) T
 | [], w, cs, h, o, hl => by
  have e : cs.take o ++ [] ++ cs.drop (o + ([] : List Value).length) = cs := by simp
  rw [e]; exact h
 | v :: r, w, cs, h, o, hl => by
  rw [List.length_cons] at hl
  have h1 := zHz r (h.set o v) (o + 1) (by rw [List.length_set]; omega)
  have e : (cs.set o v).take (o + 1) ++ r ++ (cs.set o v).drop (o + 1 + r.length) = cs.take o ++ (v :: r) ++ cs.drop (o + (v :: r).length) := by
   obtain ⟨A, x, R, rfl, rfl⟩ : ∃ A x R, cs = A ++ x :: R ∧ o = A.length := by
    refine ⟨cs.take o, cs[o]'(by omega), cs.drop (o + 1), ?_, by rw [List.length_take]; omega⟩
    rw [List.getElem_cons_drop, List.take_append_drop]
   have e1 : (A ++ x :: R).set A.length v = A ++ v :: R := by simp
   have e2 : A.length + 1 + r.length - A.length = r.length + 1 := by omega
   have e3 : A.length + (r.length + 1) - A.length = r.length + 1 := by omega
   have e4 : ∀ k, A.drop (A.length + k) = [] := fun k => List.drop_eq_nil_of_le (by omega)
   rw [e1, List.length_cons]
   simp only [List.take_append, List.drop_append, e2, e3, Nat.sub_self, Nat.add_sub_cancel_left, List.take_zero, List.append_nil, List.take_length]
   rw [Nat.add_assoc, e4, e4, List.take_of_length_le (show A.length ≤ A.length + 1 by omega)]
   simp
  rw [e] at h1
  exact h1
theorem zFq {S : Nat → Prop} {a : World} {b : Nat} : ∀ (vs : List Value) (o : Nat) {w : World} (h : Touch S a w) (hb : S b ∨ a.heap.size ≤ b), Touch S a (w.setCells b o vs)
 | [], _, _, h, _ => h
 | v :: r, o, w, h, hb => zFq r (o + 1) (h.set (p := ⟨b, o, none⟩) hb v) hb
theorem kn_pre {pre rest : List Value} {x : Int × List UInt8} (ho : pre.length = off) (h : mid[j]? = some x) : (pre ++ (knV mid ++ rest))[off + j * 2]? = some (.int .i64 x.1) ∧ (pre ++ (knV mid ++ rest))[off + j * 2 + 1]? = some (.string (ba x.2)) := by
 obtain ⟨v1, v2⟩ := zHJ h
 have hj : j < mid.length := (List.getElem?_eq_some_iff.1 h).1
 have hl := zBh mid
 constructor
 ·rw [List.getElem?_append_right (by omega), List.getElem?_append_left (by omega), ho, show off + j * 2 - off = j * 2 by omega]; exact v1
 ·rw [List.getElem?_append_right (by omega), List.getElem?_append_left (by omega), ho, show off + j * 2 + 1 - off = j * 2 + 1 by omega]; exact v2
theorem knV_set (mid : List (Int × List UInt8)) (i : Nat) (p : Int × List UInt8) (hi : i < mid.length) : ((knV mid).set (i * 2) (.int .i64 p.1)).set (i * 2 + 1) (.string (ba p.2)) = knV (mid.set i p) := by
 induction mid generalizing i with
 | nil => simp at hi
 | cons f r ih =>
  have e : ∀ (y : Int × List UInt8) (l : List (Int × List UInt8)), knV (y :: l) = [.int .i64 y.1, .string (ba y.2)] ++ knV l := fun _ _ => rfl
  cases i with
  | zero => rfl
  | succ i =>
   have h := ih i (by simpa using hi)
   rw [List.set_cons_succ, e, e, ← h, List.set_append_right _ _ (by simp; omega), List.set_append_right _ _ (by simp; omega)]
   simp only [List.length_cons, List.length_nil]
   rw [show (i + 1) * 2 - (0 + 1 + 1) = i * 2 by omega, show (i + 1) * 2 + 1 - (0 + 1 + 1) = i * 2 + 1 by omega]
theorem kn_pre_set {pre rest : List Value} (ho : pre.length = off) (p : Int × List UInt8) (hi : i < mid.length) : ((pre ++ (knV mid ++ rest)).set (off + i * 2) (.int .i64 p.1)).set (off + i * 2 + 1) (.string (ba p.2)) = pre ++ (knV (mid.set i p) ++ rest) := by
 have hl := zBh mid
 rw [← knV_set mid i p hi, List.set_append_right _ _ (by omega), List.set_append_right _ _ (by omega), ho, show off + i * 2 - off = i * 2 by omega, show off + i * 2 + 1 - off = i * 2 + 1 by omega, List.set_append_left _ _ (by omega), List.set_append_left _ _ (by rw [List.length_set]; omega)]
theorem knV_take (l : List (Int × List UInt8)) (i : Nat) : (knV l).take (i * 2) = knV (l.take i) := by
 induction l generalizing i with
 | nil => simp [knV]
 | cons f r ih =>
  have e : ∀ (y : Int × List UInt8) (l : List (Int × List UInt8)), knV (y :: l) = [.int .i64 y.1, .string (ba y.2)] ++ knV l := fun _ _ => rfl
  cases i with
  | zero => simp [knV]
  | succ i =>
   rw [List.take_succ_cons, e, e, ← ih, show (i + 1) * 2 = i * 2 + 2 by omega]
   rfl
theorem kn_cleared {pre rest zs Y : List Value} (ho : pre.length = off) (hi : i ≤ mid.length) : (((pre ++ (knV mid ++ rest)).take (off + i * 2) ++ zs ++ Y).drop off).take (i * 2) = knV (mid.take i) := by
 have hl := zBh mid
 have hl2 : (knV (mid.take i)).length = i * 2 := by rw [zBh, List.length_take, Nat.min_eq_left hi]
 have e1 : (pre ++ (knV mid ++ rest)).take (off + i * 2) = pre ++ knV (mid.take i) := by
  rw [← ho, List.take_length_add_append, List.take_append_of_le_length (by omega), knV_take]
 rw [e1, List.append_assoc, List.append_assoc, ← ho, List.drop_left, List.take_append_of_le_length (by omega), List.take_of_length_le (by omega)]
def DelSays (v : Value) (B : Nat) (m : Nat) (w : World) (e : Ending) (w' : World) : Prop :=
 ∃ ad cap I', e = .returned (.slice ad I'.length cap) ∧ RAt w' B 151 2 (.slice ad I'.length cap) I'.length (knV I') ∧ I'.length ≤ m ∧ Sml I' ∧ (∀ g, (Value.slice ad I'.length cap).ownBlock = some g → v.ownBlock = some g) ∧ Touch (fun k => v.ownBlock = some k) w w'
theorem gdelKn (v : Value) (B q : Nat) (I : List (Int × List UInt8)) (g : Int) (w : World) (hr : RAt w B 151 2 v I.length (knV I)) (hl : I.length ≤ 1000000) (hs : Sml I) (hq : w.cell? ⟨q, 0, none⟩ = some (.int .i64 g)) (hql : q < w.heap.size) (hqv : v.ownBlock ≠ some q) :
  Calls Tryz.prog 109 #[v, .func (.func 110) #[] #[.pointer (some ⟨q, 0, none⟩)]] w (DelSays v B I.length w) := by
 have HI := hid (gindexKn v B q I g w hr hl hq hql)
 obtain ⟨ia, ic, rfl⟩ := RAt.shape hr
 have HR := hid hr
 have HS := hid hs
 by_cases hn : 0 < I.length
 ·obtain ⟨hlen, ad0, cap0, e0, hnc, hcm, hX⟩ := hr
  simp only [Value.slice.injEq, true_and] at e0
  obtain ⟨rfl, rfl⟩ := e0
  rcases hX with ⟨_, hc0⟩ | ⟨gg, off, cs, rfl, hbase, hB, hfit, hcs⟩
  ·omega
  have hgq : gg ≠ q := fun e => hqv (by rw [e]; rfl)
  have HG := hid (fun (x : Int) (t : ByteArray) (w' : World) (ht : Touch (fun k => k = gg) w w') => zHb x g t q w' ((ht.cell (p := ⟨q, 0, none⟩) hql (fun e => hgq e.symm)).trans hq) (Nat.lt_of_lt_of_le hql ht.size))
  obtain ⟨pre, rest, hpl, hsplit⟩ : ∃ pre rest, pre.length = off ∧ cs = pre ++ (knV I ++ rest) := by
   refine ⟨cs.take off, (cs.drop off).drop (I.length * 2), by rw [List.length_take]; have := Nat.mul_le_mul_right 2 hnc; omega, ?_⟩
   rw [← hcs, List.take_append_drop, List.take_append_drop]
  have hcap2 : off + ic * 2 ≤ pre.length + (I.length * 2 + rest.length) := by
   rw [hsplit, List.length_append, List.length_append, zBh] at hfit
   exact hfit
  rw [hsplit] at hB
  have HBk := hid hB
  have HX := hid (And.intro hnc (And.intro hcm (And.intro hbase hcap2)))
  obtain ⟨m, hm⟩ : ∃ m, m = I.length := ⟨_, rfl⟩
  rw [← hm] at HI HR HX hn hnc hlen ⊢
  have Hm := hid hm
  have Hpl := hid hpl
  have hm6 : m ≤ 1000000 := by omega
  have hgl := hB.lt
  unfold maxLen at hcm
  clear hs hq hqv hB hfit hcs hsplit hcap2 hm hl hpl hlen
  go_enter Tryz.func109, Tryz.ntmps109
  go_wp2_with fail
  refine HI.out.mono ?_
  rintro e w1 ⟨r, rfl, hr0, hb1⟩
  have Hb := hid hb1
  clear HI hb1
  rcases hr0 with rfl | ⟨hr1, hr2⟩
  ·go_wp2_with fail
   go_ret
   refine ⟨some ⟨gg, off, none⟩, ic, I, by rw [← Hm.out]; rfl, by rw [← Hm.out]; exact HR.out.below Hb.out, by rw [← Hm.out]; exact Nat.le_refl _, HS.out, fun g hg => hg, Touch.of_below Hb.out⟩
  ·obtain ⟨i0, rfl⟩ : ∃ i0 : Nat, r = i0 := ⟨r.toNat, by omega⟩
   have hi0 : i0 < m := by omega
   have hbe : (((i0 : Nat) : Int) == -1) = false := beq_eq_false_iff_ne.2 (by omega)
   clear hr1 hr2
   go_wp2_with fail
   go_loopw [5, 6] (fun u v wr => ∃ (i j : Nat) (mid : List (Int × List UInt8)), u = .int .i64 i ∧ v = .int .i64 j ∧ i < j ∧ j ≤ m ∧ Hid (mid.length = m) ∧ Hid (Sml mid) ∧ Hid (Blk wr gg (pre ++ (knV mid ++ rest)) 151) ∧ Hid (Touch (fun k => k = gg) w wr)) (fun _ v _ => m - (intOf v).toNat)
   case atStart => exact ⟨i0, i0 + 1, I, rfl, by go_num, by omega, by omega, hid Hm.out.symm, HS, hid (HBk.out.below Hb.out), hid (Touch.of_below Hb.out)⟩
   case round =>
    obtain ⟨i, j, mid, rfl, rfl, hij, hj, Hml, Hms, HBr, HT⟩ := hrel
    by_cases hlt : j < m
    ·obtain ⟨p, hp⟩ : ∃ p, mid[j]? = some p := ⟨_, List.getElem?_eq_getElem (by have := Hml.out; omega)⟩
     obtain ⟨o, ho⟩ : ∃ o, mid[i]? = some o := ⟨_, List.getElem?_eq_getElem (by have := Hml.out; omega)⟩
     obtain ⟨v1, v2⟩ := kn_pre (rest := rest) Hpl.out hp
     obtain ⟨u1, u2⟩ := kn_pre (rest := rest) Hpl.out ho
     have hc0 : wr.cell? ⟨gg, off + j * 2, none⟩ = some (.int .i64 p.1) := (HBr.out.cell _).trans v1
     have hc1 : wr.cell? ⟨gg, off + j * 2 + 1, none⟩ = some (.string (ba p.2)) := (HBr.out.cell _).trans v2
     have hd0 : wr.cell? ⟨gg, off + i * 2, none⟩ = some (.int .i64 o.1) := (HBr.out.cell _).trans u1
     have hd1 : wr.cell? ⟨gg, off + i * 2 + 1, none⟩ = some (.string (ba o.2)) := (HBr.out.cell _).trans u2
     have Hp := hid hp
     have hglr := HBr.out.lt
     have HD := hid (And.intro hd0 hd1)
     clear v1 v2 u1 u2 hp ho hd0 hd1
     go_wp2_with fail
     refine (HG.out p.1 _ _ (HT.out.alloc _)).mono ?_
     rintro e w2 ⟨rfl, hb2⟩
     have Hbr : Hid (Below wr.heap.size wr w2) := hid (((Below.refl _ _).alloc (Nat.le_refl _) _).trans (hb2.mono (by simp)))
     obtain ⟨q2, hq2, hqc0, hqc1, hqlt⟩ : ∃ q2 : Nat, q2 = wr.heap.size ∧ w2.cell? ⟨q2, 0, none⟩ = some (.int .i64 p.1) ∧ w2.cell? ⟨q2, 1, none⟩ = some (.string (ba p.2)) ∧ q2 < w2.heap.size := by
      have hX : Blk w2 wr.heap.size [.int .i64 p.1, .string (ba p.2)] 151 := Blk.below (Blk.new wr [.int .i64 p.1, .string (ba p.2)] 151) hb2
      exact ⟨_, rfl, hX.cell 0, hX.cell 1, hX.lt⟩
     have HBw := hid (HBr.out.below Hbr.out)
     have HTw : Hid (Touch (fun k => k = gg) w w2) := hid (HT.out.trans (Touch.of_below Hbr.out))
     cases hq3 : (p.1 == g) with
     | true =>
      clear hc0 hc1 hb2 hqc0 hqc1 hq3
      go_wp2_with fail
      go_roundw
      case rel => exact ⟨i, j + 1, mid, rfl, by go_num, by omega, by omega, Hml, Hms, HBw, HTw⟩
      case measure => simp [intOf]; omega
     | false =>
      obtain ⟨hd0, hd1⟩ := HD.out
      have he0 := (Hbr.out.cell (p := ⟨gg, off + i * 2, none⟩) hglr).trans hd0
      have he1 := (Hbr.out.cell (p := ⟨gg, off + i * 2 + 1, none⟩) hglr).trans hd1
      have hf0 := HBw.out.free (off + i * 2)
      have hf1 := HBw.out.free (off + i * 2 + 1)
      have hgw := HBw.out.lt
      subst hq2
      clear hc0 hc1 hd0 hd1 hb2 hq3 HD
      have HN := hid (kn_pre_set (rest := rest) Hpl.out p (by rw [Hml.out]; omega : i < mid.length) ▸ ((HBw.out.set (off + i * 2) (.int .i64 p.1)).set (off + i * 2 + 1) (.string (ba p.2))))
      have HTN := hid (zAa (o := off + i * 2 + 1) (zAa (o := off + i * 2) HTw.out (.int .i64 p.1)) (.string (ba p.2)))
      have HMS : Hid (Sml (mid.set i p)) := hid (fun x hx => by
       rcases List.mem_or_eq_of_mem_set hx with h | h
       ·exact Hms.out x h
       ·subst h
        exact Hms.out _ (List.mem_of_getElem? Hp.out))
      go_wp2_with fail
      go_roundw
      case rel => exact ⟨i + 1, j + 1, mid.set i p, by go_num, by go_num, by omega, by omega, hid (by rw [List.length_set]; exact Hml.out), HMS, HN, HTN⟩
      case measure => simp [intOf]; omega
    ·obtain rfl : j = m := by omega
     obtain ⟨zs, hz1, hz2, hz3⟩ := zeros_kn (j - i)
     have hv : ∀ w, (zeroValue 151).run Tryz.prog w = .ok (Value.agg #[.int .i64 0, .string ByteArray.empty]) w := fun w => by kernel_rfl
     have hbl : (pre ++ (knV mid ++ rest)).length = off + (j * 2 + rest.length) := by rw [List.length_append, List.length_append, zBh, Hml.out, Hpl.out]
     have hcl1 : ∀ ty, (Builtin.clear_ #[66] ty #[.slice (some ⟨gg, off + i * 2, none⟩) (j - i) (ic - i)]).run Tryz.prog wr = .ok (.tuple #[]) (wr.setCells gg (off + i * 2) zs) :=
      fun ty => zGV (P := Tryz.prog) wr _ _ ty _ zs Tryz.underlying66 hv gg (off + i * 2) _ _ hz1 hz3 (by omega) (fun t ht => by
       rw [HBr.out.cell, List.getElem?_eq_getElem (by rw [hbl]; omega)]; rfl) (fun t ht => HBr.out.free _)
     have HW := hid (zHz zs HBr.out (off + i * 2) (by rw [hbl]; omega))
     have HT2 : Hid (Touch (fun k => k = gg) w (wr.setCells gg (off + i * 2) zs)) := hid (zFq (S := fun k => k = gg) zs (off + i * 2) HT.out (Or.inl rfl))
     have hgf := HBr.out.lt
     have Hz2 := hid hz2
     have Hbl := hid hbl
     clear hz1 hz2 hz3 hv hbl
     go_wp2_with fail
     go_ret
     have hti : (mid.take i).length = i := by rw [List.length_take, Hml.out]; omega
     refine ⟨some ⟨gg, off, none⟩, ic, mid.take i, by rw [hti]; rfl, ?_, by rw [hti]; omega, fun x hx => Hms.out x (List.mem_of_mem_take hx), fun g hg => hg, HT2.out.mono (fun k _ hk => by rw [hk]; rfl)⟩
     rw [hti]
     refine ⟨by rw [zBh, hti], some ⟨gg, off, none⟩, ic, rfl, by omega, HX.out.2.1, Or.inr ⟨gg, off, _, rfl, HX.out.2.2.1, HW.out, ?_, kn_cleared Hpl.out (by rw [Hml.out]; omega)⟩⟩
     have := HX.out.2.2.2
     have h1 := Hpl.out
     simp only [List.length_append, List.length_take, List.length_drop, zBh, Hml.out, Hz2.out]
     omega
 ·have hn0 : I.length = 0 := by omega
  obtain ⟨m, hm⟩ : ∃ m, m = I.length := ⟨_, rfl⟩
  rw [← hm] at HI HR hn0 ⊢
  have Hm := hid hm
  have Hn0 := hid hn0
  clear hm hr hn hs hq hqv hl hn0
  go_enter Tryz.func109, Tryz.ntmps109
  go_wp2_with fail
  refine HI.out.mono ?_
  rintro e w1 ⟨r, rfl, hr0, hb1⟩
  have hr1 : r = -1 := by have := Hn0.out; omega
  subst hr1
  have Hb := hid hb1
  clear HI hb1 hr0
  go_wp2_with fail
  go_ret
  exact ⟨ia, ic, I, by rw [← Hm.out]; rfl, by rw [← Hm.out]; exact HR.out.below Hb.out, by rw [← Hm.out]; exact Nat.le_refl _, HS.out, fun g hg => by rw [← Hm.out] at hg; exact hg, Touch.of_below Hb.out⟩
theorem Gf.tallyX {G : Gh} {D : Dt} {S : CSt} (h : Gf w0 c kb mb n id bal G Z D S w) (t0 : Nat) (m0 : List Bool) (h0 : zAi w t0 n m0) (hb : w0.heap.size ≤ t0) (hT : Touch (fun k => k = t0) w w') (hn : ¬ t0 ∈ D.tals) :
  Gf w0 c kb mb n id bal G Z D S w' ∧ Fr w0 w w' ∧ KeepT [115] w w' := by
 have hty : ∀ q, q < w.heap.size → q = t0 → Tyd [115] w q := fun q _ hq => by subst hq; exact Tyd.blk h0.1 (by simp)
 have hk : Keep [115] w w' := Keep.of_touch hT hty (by decide)
 have hab : Abw w0 w w' := hT.mono (fun q _ hq => by omega)
 exact ⟨h.keepX hk.1 (hab.below h.below) (hk.2 _ _ _ h.bok) (tally := fun _ t ht m hm => ⟨hm.1.touch hT (fun e => hn (e ▸ ht)), hm.2⟩), ⟨hk.1.mono (by decide), hab⟩, hk.1⟩
theorem tals_job {D : Dt} {J : JobD} (h : D.tals.Nodup) (hJ : D.job = some J) : ¬ J.ta ∈ ({ D with job := none } : Dt).tals ∧ ¬ J.tf ∈ ({ D with job := none } : Dt).tals ∧ J.ta ≠ J.tf := by
 unfold Dt.tals at h ⊢
 rw [hJ] at h
 simp only [JobD.tals, List.cons_append, List.nil_append, List.nodup_cons, List.mem_cons, List.mem_append, not_or] at h ⊢
 exact ⟨⟨fun e => h.1.1 e.symm, h.2.1.2⟩, ⟨fun e => h.1.2.1 e.symm, h.2.2.1⟩, h.2.1.1⟩
theorem Gf.setAcc {G : Gh} {D : Dt} {S : CSt} (h : Gf w0 c kb mb n id bal G Z D S w) (J : JobD) (hJ : D.job = some J) (m' : List Bool) (hT : Touch (fun k => k = J.ta) w w') (hm : zAi w' J.ta n m') (hv : Votes n m' (G.VA J.gen J.mrk)) :
  Gf w0 c kb mb n id bal G Z { D with job := some { J with aM := m' } } S w' ∧ Fr w0 w w' := by
 obtain ⟨b1, b2, b3, b4, b5, b6⟩ := h.jobB J hJ
 obtain ⟨t1, t2, t3⟩ := tals_job h.tals hJ
 have hb : w0.heap.size ≤ J.ta := h.talB _ (by unfold Dt.tals; rw [hJ]; simp [JobD.tals])
 obtain ⟨g1, g2, g3⟩ := h.noJob.tallyX J.ta J.aM b2 hb hT t1
 exact ⟨{ g1 with
  job := by rw [h.job, hJ]; rfl
  jobB := fun J' e => by
   injection e with e
   subst e
   exact ⟨g3.1 _ _ _ (by decide) b1, hm, ⟨b3.1.touch hT (fun e => t3 e.symm), b3.2⟩, b4, b5, hv⟩
  cli := fun J' e hcl => by
   injection e with e
   subst e
   exact h.cli J hJ hcl
  tals := by have := h.tals; unfold Dt.tals at this ⊢; rw [hJ] at this; exact this
  talB := fun t ht => h.talB t (by unfold Dt.tals at ht ⊢; rw [hJ]; exact ht) }, g2⟩
theorem Gf.setFul {G : Gh} {D : Dt} {S : CSt} (h : Gf w0 c kb mb n id bal G Z D S w) (J : JobD) (hJ : D.job = some J) (m' : List Bool) (hT : Touch (fun k => k = J.tf) w w') (hm : zAi w' J.tf n m') :
  Gf w0 c kb mb n id bal G Z { D with job := some { J with fM := m' } } S w' ∧ Fr w0 w w' := by
 obtain ⟨b1, b2, b3, b4, b5, b6⟩ := h.jobB J hJ
 obtain ⟨t1, t2, t3⟩ := tals_job h.tals hJ
 have hb : w0.heap.size ≤ J.tf := h.talB _ (by unfold Dt.tals; rw [hJ]; simp [JobD.tals])
 obtain ⟨g1, g2, g3⟩ := h.noJob.tallyX J.tf J.fM b3 hb hT t2
 exact ⟨{ g1 with
  job := by rw [h.job, hJ]; rfl
  jobB := fun J' e => by
   injection e with e
   subst e
   exact ⟨g3.1 _ _ _ (by decide) b1, ⟨b2.1.touch hT (fun e => t3 e), b2.2⟩, hm, b4, b5, b6⟩
  cli := fun J' e hcl => by
   injection e with e
   subst e
   exact h.cli J hJ hcl
  tals := by have := h.tals; unfold Dt.tals at this ⊢; rw [hJ] at this; exact this
  talB := fun t ht => h.talB t (by unfold Dt.tals at ht ⊢; rw [hJ]; exact ht) }, g2⟩
theorem zEB {m : List Bool} {v : Nat} {P : Nat → Prop} (h : Votes n m P) (hv : P v) : Votes n (addTo m (v : Int) n) P := by
 intro i hi hm
 by_cases e : i = v
 ·subst e; exact hv
 ·refine h i hi ?_
  unfold addTo at hm
  split at hm
  ·rw [Int.toNat_natCast, List.getD_eq_getElem?_getD, List.getElem?_set_ne (fun x => e x.symm), ← List.getD_eq_getElem?_getD] at hm
   exact hm
  ·exact hm
theorem zJt {G : Gh} {D : Dt} {S : CSt} (h : Gc w0 c kb mb n id bal G Z D S w) (hZ : Z ≤ 100000) (v : Nat) (kind to' bal2 mg basis fl tp rd pa po : Int) (mm pt : ByteArray) (ls : Value) (hvote : G.VA mg mm v) :
  Calls Tryz.prog 86 #[.pointer (some ⟨c, 0, none⟩), .agg #[.int .i64 kind, .int .i64 (v : Int), .int .i64 to', .int .i64 bal2, .int .i64 mg, .int .i64 basis, .int .i64 fl, .int .i64 tp, .int .i64 rd, .string mm, .int .i64 pa, .int .i64 po, .string pt, ls]] w fun x w' => x = .returned (.tuple #[]) ∧ Gs w0 c kb mb n id bal G (Z + 1) w' ∧ Fr w0 w w' := by
 have hbl := h.at_.1.lt
 have H0 := hid h
 have hb1 : Below w.heap.size w (w.alloc (.cells #[.int .i64 kind, .int .i64 (v : Int), .int .i64 to', .int .i64 bal2, .int .i64 mg, .int .i64 basis, .int .i64 fl, .int .i64 tp, .int .i64 rd, .string mm, .int .i64 pa, .int .i64 po, .string pt, ls] 30)) := (Below.refl w.heap.size w).alloc (Nat.le_refl _) _
 cases hj : D.job with
 | none =>
  refine (zGb c S kind v to' bal2 mg basis fl tp rd pa po mm pt ls w h.at_ (by rw [h.gf.job, hj]; rfl)).mono ?_
  rintro x w' ⟨rfl, hb⟩
  exact ⟨rfl, ⟨D, S, (h.quiet hb).at_, (h.quiet hb).gf.mono (Nat.le_succ _)⟩, Fr.of_below hb⟩
 | some J =>
  obtain ⟨a1, a2, a3, a4, a5, a6⟩ := h.gf.jobB J hj
  have hsj : S.job = .pointer (some ⟨J.j, 0, none⟩) := by rw [h.gf.job, hj]; rfl
  have Hjj := hid hj
  have Hsj := hid hsj
  have HA1 := hid a1
  have HA2 := hid a2
  have HA6 := hid a6
  have HV := hid hvote
  obtain ⟨j, hjn⟩ : ∃ j, j = J.j := ⟨_, rfl⟩
  obtain ⟨ta, hta⟩ : ∃ ta, ta = J.ta := ⟨_, rfl⟩
  obtain ⟨m', hm'⟩ : ∃ m', m' = addTo J.aM (v : Int) n := ⟨_, rfl⟩
  rw [← hjn, ← hta] at a1 HA1
  rw [← hta] at a2 HA2
  rw [← hjn] at hsj Hsj
  have c84 : w.cell? ⟨c, 84, none⟩ = some (.pointer (some ⟨j, 0, none⟩)) := by have := h.at_.ft 0; rw [← hsj]; exact this
  have j0 : w.cell? ⟨j, 0, none⟩ = some (.int .i64 J.gen) := a1.cell 0
  have j2 : w.cell? ⟨j, 2, none⟩ = some (.string J.mrk) := a1.cell 2
  have hjl := a1.lt
  have hjc : j ≠ c := a1.ne h.at_.1 (by decide)
  have hjt : j ≠ ta := a1.ne a2.1 (by decide)
  have hct : c ≠ ta := h.at_.1.ne a2.1 (by decide)
  have htl := a2.1.lt
  have Hta := hid hta
  have Hm' := hid hm'
  have HB := hid hb1
  have Q1 := hid (Blk.new w [.int .i64 kind, .int .i64 (v : Int), .int .i64 to', .int .i64 bal2, .int .i64 mg, .int .i64 basis, .int .i64 fl, .int .i64 tp, .int .i64 rd, .string mm, .int .i64 pa, .int .i64 po, .string pt, ls] 30)
  obtain ⟨gen, hgen⟩ : ∃ gen, gen = J.gen := ⟨_, rfl⟩
  obtain ⟨mk, hmk⟩ : ∃ mk, mk = J.mrk := ⟨_, rfl⟩
  rw [← hgen] at j0
  rw [← hmk] at j2
  have Hgen := hid hgen
  have Hmk := hid hmk
  clear h hj hsj a1 a2 a3 a4 a5 a6 hjn hta hm' hb1 hvote hgen hmk
  by_cases hg : gen = mg
  ·by_cases hm : mk = mm
   ·subst hg
    subst hm
    have eg : (gen != gen) = false := by simp
    have em : (mk.toList != mk.toList) = false := by simp
    go_enter Tryz.func86, Tryz.ntmps86
    go_wp2
    go_quiet (fail)
    go_wp2_with fail
    have b1 := below_drewN HB.out nq
    have q1 := Q1.out.drewN nq
    generalize (w.alloc (.cells #[.int .i64 kind, .int .i64 (v : Int), .int .i64 to', .int .i64 bal2, .int .i64 gen, .int .i64 basis, .int .i64 fl, .int .i64 tp, .int .i64 rd, .string mk, .int .i64 pa, .int .i64 po, .string pt, ls] 30)).drewN nq = w1 at b1 q1 ⊢
    obtain ⟨q, hq⟩ : ∃ q, q = w.heap.size := ⟨_, rfl⟩
    rw [← hq] at q1 ⊢
    have hqt : q ≠ ta := by omega
    have G1 := hid (H0.out.quiet b1)
    have HF1 := hid (Fr.of_below (w0 := w0) b1)
    have HJ1 := hid (HA1.out.below b1)
    have HT1 := hid (zBk HA2.out b1)
    have HQ1 := hid q1
    clear b1 q1 HB Q1 H0 HA1 HA2 c84 j0 j2 hq
    have HK := hid (fun w' (hb : Below w1.heap.size w1 w') => (And.intro (show w'.cell? ⟨c, 84, none⟩ = some (.pointer (some ⟨j, 0, none⟩)) by rw [← Hsj.out]; exact (G1.out.at_.below hb).ft 0) (And.intro (show w'.cell? ⟨j, 4, none⟩ = some (.pointer (some ⟨ta, 0, none⟩)) from (HJ1.out.below hb).cell 4) (show w'.cell? ⟨q, 1, none⟩ = some (.int .i64 (v : Int)) from (HQ1.out.below hb).cell 1))))
    have hk0 := HK.out w1.drew (Below.refl _ _).drew
    have HAd := hid (zDS ta n J.aM (v : Int) w1.drew HT1.out)
    rw [← Hm'.out] at HAd
    go_region_held3 (fun w' => w'.cell? ⟨c, 84, none⟩ = some (.pointer (some ⟨j, 0, none⟩)) ∧ w'.cell? ⟨j, 4, none⟩ = some (.pointer (some ⟨ta, 0, none⟩)) ∧ w'.cell? ⟨q, 1, none⟩ = some (.int .i64 (v : Int)))
     (first | with_reducible exact hk0 | with_reducible exact hk2 | go_keep)
     ((go_at_call 83; refine HAd.out.mono ?_; rintro e w2 ⟨rfl, hT2, ht2⟩; have hk2 : w2.cell? ⟨c, 84, none⟩ = some (.pointer (some ⟨j, 0, none⟩)) ∧ w2.cell? ⟨j, 4, none⟩ = some (.pointer (some ⟨ta, 0, none⟩)) ∧ w2.cell? ⟨q, 1, none⟩ = some (.int .i64 (v : Int)) := ⟨by rw [← Hsj.out]; exact zAb.ft ⟨G1.out.at_.drew.1.touch ht2 hct, G1.out.at_.2⟩ 0, (HJ1.out.drew.touch ht2 hjt).cell 4, (HQ1.out.drew.touch ht2 hqt).cell 1⟩))
    have hvs : Votes n m' (G.VA J.gen J.mrk) := by rw [Hm'.out]; exact zEB HA6.out (by rw [← Hgen.out, ← Hmk.out]; exact HV.out)
    obtain ⟨g2, f2⟩ := (G1.out.quiet (Below.refl _ _).drew).gf.setAcc J Hjj.out m' (by rw [← Hta.out]; exact ht2) (by rw [← Hta.out]; exact hT2) hvs
    have G2 := hid (show Gc w0 c kb mb n id bal G Z { D with job := some { J with aM := m' } } S w2 from ⟨⟨G1.out.at_.drew.1.touch ht2 hct, G1.out.at_.2⟩, g2⟩)
    have HF2 := hid ((HF1.out.trans (Fr.of_below (Below.refl _ _).drew)).trans f2)
    have HT2 := hid hT2
    have HVS := hid hvs
    have c84 := hk2.1
    have j4 := hk2.2.1
    clear hT2 ht2 hk2 hk0 HK HAd G1 HF1 HJ1 HT1 HQ1 hvs g2 f2
    have HW := hid (zFi ta n m' w2 HT2.out)
    obtain ⟨wb, hwb⟩ : ∃ wb, wb = wonT m' n := ⟨_, rfl⟩
    rw [← hwb] at HW
    have Hwb := hid hwb
    clear hwb
    go_wp2_with fail
    refine HW.out.mono ?_
    clear HW
    rintro e w3 ⟨rfl, k, rfl⟩
    have HbD := hid (below_drewN (Below.refl w2.heap.size w2) k)
    cases hwbv : wb with
    | false =>
     go_wp2_with fail
     go_end0
     exact ⟨rfl, ⟨_, _, (G2.out.quiet HbD.out).at_, (G2.out.quiet HbD.out).gf.mono (Nat.le_succ _)⟩, HF2.out.trans (Fr.of_below HbD.out)⟩
    | true =>
     have hMaj : Maj n (G.VA J.gen J.mrk) := ⟨m', by rw [← Hwb.out, hwbv], HVS.out⟩
     have HWn := hid (gc_won (G2.out.quiet HbD.out) hZ _ rfl hMaj)
     clear c84 j4 HT2 hwbv hMaj
     go_wp2_with fail
     refine HWn.out.mono ?_
     rintro e w4 ⟨rfl, hG, hF⟩
     have HG4 := hid hG
     have HF4 := hid ((HF2.out.trans (Fr.of_below HbD.out)).trans hF)
     clear hG hF HWn
     go_wp2_with fail
     go_end0
     exact ⟨rfl, HG4.out, HF4.out⟩
   ·have eg : (gen != mg) = false := by rw [hg]; simp
    have em : (mk.toList == mm.toList) = false := by rw [zAY]; exact decide_eq_false hm
    clear hg hm
    go_enter Tryz.func86, Tryz.ntmps86
    go_wp2
    go_quiet (fail)
    go_wp2
    refine bodyPost_ret (results_none rfl _ _ _) rfl ?_
    have hq := below_drewN HB.out nq
    exact ⟨rfl, ⟨D, S, (H0.out.quiet hq).at_, (H0.out.quiet hq).gf.mono (Nat.le_succ _)⟩, Fr.of_below hq⟩
  ·have eg : (gen != mg) = true := by rw [bne_iff_ne]; exact hg
   clear hg
   go_enter Tryz.func86, Tryz.ntmps86
   go_wp2
   go_quiet (fail)
   go_wp2
   refine bodyPost_ret (results_none rfl _ _ _) rfl ?_
   have hq := below_drewN HB.out nq
   exact ⟨rfl, ⟨D, S, (H0.out.quiet hq).at_, (H0.out.quiet hq).gf.mono (Nat.le_succ _)⟩, Fr.of_below hq⟩
end Go.Proofs.YtaemlplcjjbamaaGreatDoor
