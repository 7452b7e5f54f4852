/- The walks of code's reader: Read, Err, Left, Byte, Num, Raw, Count, End. No condition but the sizes. -/
import Derived.Test.YtaeklleogniimaaGreatDoorReadPlain
import Derived.Test.YtaeklleogniimaaGreatDoorHeap2
namespace Go.Proofs.YtaeklleogniimaaGreatDoor
open Go Go.RowKit
set_option linter.unusedVariables false

def ba (l : List UInt8) : ByteArray := ⟨l.toArray⟩
theorem ba_size (l : List UInt8) : (ba l).size = l.length := by show l.toArray.size = _; simp
theorem ba_get {S r : List UInt8} {a : Nat} {c : UInt8} (h : S.drop a = c :: r) (ha : a < (ba S).size) : (ba S)[a]'ha = c := by
  have ha' : a < S.length := by rw [ba_size] at ha; exact ha
  have h1 : S[a]? = some c := by
    have := congrArg (fun l => l[0]?) h
    simpa [List.getElem?_drop] using this
  have h2 : (ba S)[a]'ha = S[a]'ha' := rfl
  rw [h2]
  rw [List.getElem?_eq_getElem ha'] at h1
  exact Option.some.inj h1
theorem wrap64_u8 (c : UInt8) : RowKit.wrap64 ((c.toNat : Nat) : Int) = ((c.toNat : Nat) : Int) := by
  have := c.toNat_lt
  unfold RowKit.wrap64
  omega
/-- a reader of S in block b: R is what is left -/
structure RdAt (w : World) (b : Nat) (S : List UInt8) (R : Rr) : Prop where
  blk : Blk w b [.string (ba S), .int .i64 ((S.length - R.l.length : Nat) : Int), .int .i64 R.e] 220
  le : R.l.length ≤ S.length
  rest : S.drop (S.length - R.l.length) = R.l
theorem RdAt.below {w w' : World} {b : Nat} {S : List UInt8} {R : Rr} (h : RdAt w b S R) (hb : Below w.heap.size w w') : RdAt w' b S R := ⟨h.blk.below hb, h.le, h.rest⟩
theorem RdAt.touch {w w' : World} {b : Nat} {S : List UInt8} {R : Rr} {T : Nat → Prop} (h : RdAt w b S R) (ht : Touch T w w') (hT : ¬ T b) : RdAt w' b S R := ⟨h.blk.touch ht hT, h.le, h.rest⟩
theorem RdAt.cells {w : World} {b : Nat} {S : List UInt8} {R : Rr} (h : RdAt w b S R) : w.cell? ⟨b, 0, none⟩ = some (.string (ba S)) ∧ w.cell? ⟨b, 1, none⟩ = some (.int .i64 ((S.length - R.l.length : Nat) : Int)) ∧ w.cell? ⟨b, 2, none⟩ = some (.int .i64 R.e) := ⟨h.blk.cell 0, h.blk.cell 1, h.blk.cell 2⟩
theorem touchB {a w : World} {b o : Nat} (h : Touch (fun k => k = b) a w) (v : Value) : Touch (fun k => k = b) a (w.setCell ⟨b, o, none⟩ v) := h.set (p := ⟨b, o, none⟩) (Or.inl rfl) v
/-- the next byte -/
def Rr.byte (R : Rr) : Nat × Rr := if R.e = 0 then (match R.l with | [] => (0, ⟨[], 3⟩) | c :: r => (c.toNat, ⟨r, 0⟩)) else (0, R)

set_option maxRecDepth 100000 in
theorem codeRead_any (S : List UInt8) (w : World) :
    Calls Tryz.prog 84 #[.string (ba S)] w fun e w' => ∃ b, e = .returned (.pointer (some ⟨b, 0, none⟩)) ∧ w.heap.size ≤ b ∧ RdAt w' b S ⟨S, 0⟩ ∧ Below w.heap.size w w' := by
  go_enter Tryz.func84, Tryz.ntmps84
  go_wp2
  go_ret
  refine ⟨_, rfl, Nat.le_refl _, ⟨?_, Nat.le_refl _, by show S.drop (S.length - S.length) = S; rw [Nat.sub_self]; rfl⟩, (Below.refl _ _).alloc (Nat.le_refl _) _⟩
  show Blk _ _ [.string (ba S), .int .i64 ((S.length - S.length : Nat) : Int), .int .i64 0] _
  rw [Nat.sub_self]
  exact Blk.new w [.string (ba S), .int .i64 0, .int .i64 0] _
theorem rdOff_any (b : Nat) (S : List UInt8) (R : Rr) (w : World) (h : RdAt w b S R) :
    Calls Tryz.prog 155 #[.pointer (some ⟨b, 0, none⟩)] w fun e w' => e = .returned (.bool (R.e != 0)) ∧ w = w' := by
  obtain ⟨c0, c1, c2⟩ := h.cells
  clear h
  generalize R.e = x at c2 ⊢
  go_enter Tryz.func155, Tryz.ntmps155
  go_wp2
  go_ret
  exact ⟨rfl, rfl⟩
theorem rdErr_any (b : Nat) (S : List UInt8) (R : Rr) (w : World) (h : RdAt w b S R) :
    Calls Tryz.prog 88 #[.pointer (some ⟨b, 0, none⟩)] w fun e w' => e = .returned (.int .i64 R.e) ∧ w = w' := by
  obtain ⟨c0, c1, c2⟩ := h.cells
  clear h
  generalize R.e = x at c2 ⊢
  go_enter Tryz.func88, Tryz.ntmps88
  go_wp2
  go_ret
  exact ⟨rfl, rfl⟩
theorem rdFail_any (b : Nat) (S : List UInt8) (R : Rr) (x : Int) (w : World) (h : RdAt w b S R) (h0 : R.e = 0) :
    Calls Tryz.prog 156 #[.pointer (some ⟨b, 0, none⟩), .int .i64 x] w fun e w' => e = .returned (.tuple #[]) ∧ RdAt w' b S ⟨R.l, x⟩ ∧ Touch (fun k => k = b) w w' := by
  have hf := h.blk.free 2
  have hlt := h.blk.lt
  have H := Lib.hid h
  have H0 := Lib.hid (show (R.e != 0) = false by rw [h0]; rfl)
  clear h h0
  go_enter Tryz.func156, Tryz.ntmps156
  go_wp2_with fail
  refine (rdOff_any b S R w H.out).mono ?_
  rintro e w' ⟨rfl, rfl⟩
  rw [H0.out]
  have c2 := H.out.cells.2.2
  go_wp2_with fail
  go_end0
  exact ⟨rfl, ⟨H.out.blk.set 2 _, H.out.le, H.out.rest⟩, touchB (Touch.refl _ _) _⟩
theorem rdLeft_any (b : Nat) (S : List UInt8) (R : Rr) (w : World) (h : RdAt w b S R) (hS : S.length ≤ 1099511627776) :
    Calls Tryz.prog 157 #[.pointer (some ⟨b, 0, none⟩)] w fun e w' => e = .returned (.int .i64 (R.l.length : Nat)) ∧ ∃ n, w' = w.drewN n := by
  obtain ⟨c0, c1, c2⟩ := h.cells
  have hle := h.le
  have hsz := ba_size S
  clear h
  go_enter Tryz.func157, Tryz.ntmps157
  go_wp2
  go_quiet (fail)
  go_wp2
  go_ret
  exact ⟨ret_int (by show (S.length : Int) - ((S.length - R.l.length : Nat) : Int) = _; omega), _, rfl⟩
/-- where a reader stands -/
theorem RdAt.at {w : World} {b : Nat} {S : List UInt8} {R : Rr} (h : RdAt w b S R) : ∃ a : Nat, a + R.l.length = S.length ∧ S.drop a = R.l ∧ w.cell? ⟨b, 0, none⟩ = some (.string (ba S)) ∧ w.cell? ⟨b, 1, none⟩ = some (.int .i64 (a : Int)) ∧ w.cell? ⟨b, 2, none⟩ = some (.int .i64 R.e) ∧
    (∀ (w' : World) (l : List UInt8) (a' : Nat), Blk w' b [.string (ba S), .int .i64 (a' : Int), .int .i64 R.e] 220 → a' + l.length = S.length → S.drop a' = l → RdAt w' b S ⟨l, R.e⟩) ∧ Blk w b [.string (ba S), .int .i64 (a : Int), .int .i64 R.e] 220 := by
  have hle := h.le
  refine ⟨S.length - R.l.length, by omega, h.rest, h.cells.1, h.cells.2.1, h.cells.2.2, fun w' l a' hB hl hd => ⟨?_, by show l.length ≤ S.length; omega, ?_⟩, h.blk⟩
  · show Blk w' b [.string (ba S), .int .i64 ((S.length - l.length : Nat) : Int), .int .i64 R.e] _
    rw [show S.length - l.length = a' by omega]; exact hB
  · show S.drop (S.length - l.length) = l
    rw [show S.length - l.length = a' by omega]; exact hd
set_option maxRecDepth 100000 in
theorem rdByte_more (b : Nat) (S r : List UInt8) (c : UInt8) (w : World) (h : RdAt w b S ⟨c :: r, 0⟩) (hS : S.length ≤ 1099511627776) :
    Calls Tryz.prog 154 #[.pointer (some ⟨b, 0, none⟩)] w fun e w' => e = .returned (.int .i64 (c.toNat : Nat)) ∧ RdAt w' b S ⟨r, 0⟩ ∧ Touch (fun k => k = b) w w' := by
  obtain ⟨a, hl, hd, c0, c1, c2, hmk, hB⟩ := h.at
  have hl1 : a + r.length + 1 = S.length := by simp at hl; omega
  have hf := hB.free 1
  have hlt := hB.lt
  have hsz := ba_size S
  have hne : (((a : Nat) : Int) == ((S.length : Nat) : Int)) = false := by rw [beq_eq_false_iff_ne]; omega
  have H := Lib.hid h
  have HB := Lib.hid hB
  have Hmk := Lib.hid hmk
  have Hd := Lib.hid hd
  clear h hB hmk hd hl
  go_enter Tryz.func154, Tryz.ntmps154
  go_wp2_with fail
  refine (rdOff_any b S _ w H.out).mono ?_
  rintro e w' ⟨rfl, rfl⟩
  go_upto_region 3 with fail
  go_quiet (fail)
  have c1' : (w.drewN nq).cell? ⟨b, 1, none⟩ = some (.int .i64 (a : Int)) := c1
  have c0' : (w.drewN nq).cell? ⟨b, 0, none⟩ = some (.string (ba S)) := c0
  have hf' : (w.drewN nq).frozen? ⟨b, 1, none⟩ = false := hf
  have hlt' : b < (w.drewN nq).heap.size := hlt
  have HB' := Lib.hid (HB.out.drewN nq)
  have HT1 := Lib.hid ((Touch.refl (fun k => k = b) w).drewN nq)
  generalize w.drewN nq = w1 at c1' c0' hf' hlt' HB' HT1 ⊢
  go_upto_region 7 with fail
  have HB2 := Lib.hid (HB'.out.set 1 (.int .i64 ((a : Int) + 1)))
  have HT2 := Lib.hid (touchB (o := 1) HT1.out (.int .i64 ((a : Int) + 1)))
  generalize w1.setCell ⟨b, 1, none⟩ (.int .i64 ((a : Int) + 1)) = w2 at HB2 HT2 ⊢
  have d0 : w2.cell? ⟨b, 0, none⟩ = some (.string (ba S)) := HB2.out.cell 0
  have d1 : w2.cell? ⟨b, 1, none⟩ = some (.int .i64 ((a : Int) + 1)) := HB2.out.cell 1
  clear c0 c1 c2 c0' c1' hf hf' hlt hlt' HB HB' HT1 H
  have hwa : IntKind.i64.wrap (a : Int) = (a : Int) := by rw [IntKind.wrap_i64]; omega
  have ha : a < S.length := by omega
  go_quiet (fail)
  have hc : (ba S)[a]'(by rw [hsz]; exact ha) = c := ba_get Hd.out _
  rw [hc]
  have HB3 := Lib.hid (HB2.out.drewN nq)
  have HT3 := Lib.hid (HT2.out.drewN nq)
  generalize w2.drewN nq = w3 at HB3 HT3 ⊢
  go_wp2
  go_ret
  refine ⟨ret_int (wrap64_u8 c), ?_, HT3.out⟩
  exact Hmk.out w3 r (a + 1) HB3.out (by omega) (by rw [← List.drop_drop, Hd.out]; rfl)
set_option maxRecDepth 100000 in
theorem rdByte_end (b : Nat) (S : List UInt8) (w : World) (h : RdAt w b S ⟨[], 0⟩) (hS : S.length ≤ 1099511627776) :
    Calls Tryz.prog 154 #[.pointer (some ⟨b, 0, none⟩)] w fun e w' => e = .returned (.int .i64 0) ∧ RdAt w' b S ⟨[], 3⟩ ∧ Touch (fun k => k = b) w w' := by
  obtain ⟨a, hl, hd, c0, c1, c2, hmk, hB⟩ := h.at
  have hl1 : a = S.length := by simpa using hl
  subst hl1
  have hsz := ba_size S
  have hne : (((S.length : Nat) : Int) == ((S.length : Nat) : Int)) = true := by simp
  have H := Lib.hid h
  clear h hB hmk hd hl
  go_enter Tryz.func154, Tryz.ntmps154
  go_wp2_with fail
  refine (rdOff_any b S _ w H.out).mono ?_
  rintro e w' ⟨rfl, rfl⟩
  go_upto_region 3 with fail
  go_quiet (fail)
  have H1 := Lib.hid (show RdAt (w.drewN nq) b S ⟨[], 0⟩ from H.out.below (below_drewN (Below.refl _ _) nq))
  have HT1 := Lib.hid ((Touch.refl (fun k => k = b) w).drewN nq)
  generalize w.drewN nq = w1 at H1 HT1 ⊢
  clear c0 c1 c2 H
  go_wp2_with fail
  refine (rdFail_any b S _ 3 w1 H1.out rfl).mono ?_
  rintro e w2 ⟨rfl, hR, hT⟩
  have HR := Lib.hid hR
  have HT := Lib.hid (HT1.out.trans hT)
  clear hR hT
  go_wp2_with fail
  go_ret
  exact ⟨rfl, HR.out, HT.out⟩
set_option maxRecDepth 100000 in
theorem rdByte_err (b : Nat) (S : List UInt8) (R : Rr) (w : World) (h : RdAt w b S R) (h0 : R.e ≠ 0) :
    Calls Tryz.prog 154 #[.pointer (some ⟨b, 0, none⟩)] w fun e w' => e = .returned (.int .i64 0) ∧ w = w' := by
  have H0 := Lib.hid (show (R.e != 0) = true by rw [bne_iff_ne]; exact h0)
  clear h0
  go_enter Tryz.func154, Tryz.ntmps154
  go_wp2_with fail
  refine (rdOff_any b S _ w h).mono ?_
  rintro e w' ⟨rfl, rfl⟩
  rw [H0.out]
  go_wp2_with fail
  go_ret
  exact ⟨rfl, rfl⟩
theorem rdByte_any (b : Nat) (S : List UInt8) (R : Rr) (w : World) (h : RdAt w b S R) (hS : S.length ≤ 1099511627776) :
    Calls Tryz.prog 154 #[.pointer (some ⟨b, 0, none⟩)] w fun e w' => e = .returned (.int .i64 (R.byte.1 : Nat)) ∧ RdAt w' b S R.byte.2 ∧ Touch (fun k => k = b) w w' := by
  obtain ⟨l, e⟩ := R
  by_cases he : e = 0
  · subst he
    match l, h with
    | [], h => exact rdByte_end b S w h hS
    | c :: r, h => exact rdByte_more b S r c w h hS
  · refine (rdByte_err b S ⟨l, e⟩ w h he).mono ?_
    rintro x w' ⟨rfl, rfl⟩
    have hb : (Rr.mk l e).byte = (0, ⟨l, e⟩) := by unfold Rr.byte; rw [if_neg he]
    rw [hb]
    exact ⟨rfl, h, Touch.refl _ _⟩
end Go.Proofs.YtaeklleogniimaaGreatDoor
