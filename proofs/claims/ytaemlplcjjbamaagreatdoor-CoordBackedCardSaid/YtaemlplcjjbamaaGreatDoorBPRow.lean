/- The walks of code's reader: Read, Err, Left, Byte, Num, Raw, -/
import Derived.Test.YtaemlplcjjbamaaGreatDoorBReadPlain
namespace Go.Proofs.YtaemlplcjjbamaaGreatDoor
open Go.Lib (hid)
set_option maxRecDepth 100000
set_option maxHeartbeats 8000000
open Go Go.RowKit
set_option linter.unusedVariables false
variable {I : List (Int × List UInt8)} {S : List UInt8} {a w w' : World} {ad la : Option Addr} {b base j k lc : Nat} {cs : List Value} {e : TypeId} {v : Value}
def ba (l : List UInt8) : ByteArray := ⟨l.toArray⟩
theorem zAl (l : List UInt8) : (ba l).size = l.length := by show l.toArray.size = _; simp
theorem ba_get {S r : List UInt8} {a : Nat} {c : UInt8} (h : S.drop a = c :: r) (ha : a < (ba S).size) : (ba S)[a]'ha = c := by
 have ha' : a < S.length := by rw [zAl] at ha; exact ha
 have h1 : S[a]? = some c := by
  have := congrArg (fun l => l[0]?) h
  simpa [List.getElem?_drop] using this
 have h2 : (ba S)[a]'ha = S[a]'ha' := rfl
 rw [h2]
 rw [List.getElem?_eq_getElem ha'] at h1
 exact Option.some.inj h1
theorem zFe (c : UInt8) : RowKit.wrap64 ((c.toNat : Nat) : Int) = ((c.toNat : Nat) : Int) := by
 have := c.toNat_lt
 unfold RowKit.wrap64
 omega
structure RdAt (w : World) (b : Nat) (S : List UInt8) (R : Rr) : Prop where
 blk : Blk w b [.string (ba S), .int .i64 ((S.length - R.l.length : Nat) : Int), .int .i64 R.e] 229
 le : R.l.length ≤ S.length
 rest : S.drop (S.length - R.l.length) = R.l
theorem RdAt.below {R : Rr} (h : RdAt w b S R) (hb : Below w.heap.size w w') : RdAt w' b S R := ⟨h.blk.below hb, h.le, h.rest⟩
theorem RdAt.cells {R : Rr} (h : RdAt w b S R) : w.cell? ⟨b, 0, none⟩ = some (.string (ba S)) ∧ w.cell? ⟨b, 1, none⟩ = some (.int .i64 ((S.length - R.l.length : Nat) : Int)) ∧ w.cell? ⟨b, 2, none⟩ = some (.int .i64 R.e) := ⟨h.blk.cell 0, h.blk.cell 1, h.blk.cell 2⟩
theorem zAA {b o : Nat} (h : Touch (fun k => k = b) a w) (v : Value) : Touch (fun k => k = b) a (w.setCell ⟨b, o, none⟩ v) := h.set (p := ⟨b, o, none⟩) (Or.inl rfl) v
def Rr.byte (R : Rr) : Nat × Rr := if R.e = 0 then (match R.l with | [] => (0, ⟨[], 3⟩) | c :: r => (c.toNat, ⟨r, 0⟩)) else (0, R)
theorem zIa (S : List UInt8) (w : World) :
  Calls Tryz.prog 131 #[.string (ba S)] w fun e w' => ∃ b, e = .returned (.pointer (some ⟨b, 0, none⟩)) ∧ w.heap.size ≤ b ∧ RdAt w' b S ⟨S, 0⟩ ∧ Below w.heap.size w w' := by
 go_enter Tryz.func131, Tryz.ntmps131
 go_wp2
 go_ret
 refine ⟨_, rfl, Nat.le_refl _, ⟨?_, Nat.le_refl _, by show S.drop (S.length - S.length) = S; rw [Nat.sub_self]; rfl⟩, (Below.refl _ _).alloc (Nat.le_refl _) _⟩
 show Blk _ _ [.string (ba S), .int .i64 ((S.length - S.length : Nat) : Int), .int .i64 0] _
 rw [Nat.sub_self]
 exact Blk.new w [.string (ba S), .int .i64 0, .int .i64 0] _
theorem zAJ (b : Nat) (S : List UInt8) (R : Rr) (w : World) (h : RdAt w b S R) :
  Calls Tryz.prog 158 #[.pointer (some ⟨b, 0, none⟩)] w fun e w' => e = .returned (.bool (R.e != 0)) ∧ w = w' := by
 obtain ⟨c0, c1, c2⟩ := h.cells
 clear h
 generalize R.e = x at c2 ⊢
 go_enter Tryz.func158, Tryz.ntmps158
 go_wp2
 go_ret
 exact ⟨rfl, rfl⟩
theorem zHl (b : Nat) (S : List UInt8) (R : Rr) (w : World) (h : RdAt w b S R) :
  Calls Tryz.prog 135 #[.pointer (some ⟨b, 0, none⟩)] w fun e w' => e = .returned (.int .i64 R.e) ∧ w = w' := by
 obtain ⟨c0, c1, c2⟩ := h.cells
 clear h
 generalize R.e = x at c2 ⊢
 go_enter Tryz.func135, Tryz.ntmps135
 go_wp2
 go_ret
 exact ⟨rfl, rfl⟩
theorem zCa (b : Nat) (S : List UInt8) (R : Rr) (x : Int) (w : World) (h : RdAt w b S R) (h0 : R.e = 0) :
  Calls Tryz.prog 159 #[.pointer (some ⟨b, 0, none⟩), .int .i64 x] w fun e w' => e = .returned (.tuple #[]) ∧ RdAt w' b S ⟨R.l, x⟩ ∧ Touch (fun k => k = b) w w' := by
 have hf := h.blk.free 2
 have hlt := h.blk.lt
 have H := hid h
 have H0 := hid (show (R.e != 0) = false by rw [h0]; rfl)
 clear h h0
 go_enter Tryz.func159, Tryz.ntmps159
 go_wp2_with fail
 refine (zAJ b S R w H.out).mono ?_
 rintro e w' ⟨rfl, rfl⟩
 rw [H0.out]
 have c2 := H.out.cells.2.2
 go_wp2_with fail
 go_end0
 exact ⟨rfl, ⟨H.out.blk.set 2 _, H.out.le, H.out.rest⟩, zAA (Touch.refl _ _) _⟩
theorem zEa (b : Nat) (S : List UInt8) (R : Rr) (w : World) (h : RdAt w b S R) (hS : S.length ≤ 1099511627776) :
  Calls Tryz.prog 136 #[.pointer (some ⟨b, 0, none⟩)] w fun e w' => e = .returned (.int .i64 (R.l.length : Nat)) ∧ ∃ n, w' = w.drewN n := by
 obtain ⟨c0, c1, c2⟩ := h.cells
 have hle := h.le
 have hsz := zAl S
 clear h
 go_enter Tryz.func136, Tryz.ntmps136
 go_wp2
 go_quiet (fail)
 go_wp2
 go_ret
 exact ⟨zAk (by show (S.length : Int) - ((S.length - R.l.length : Nat) : Int) = _; omega), _, rfl⟩
theorem RdAt.at {R : Rr} (h : RdAt w b S R) : ∃ a : Nat, a + R.l.length = S.length ∧ S.drop a = R.l ∧ w.cell? ⟨b, 0, none⟩ = some (.string (ba S)) ∧ w.cell? ⟨b, 1, none⟩ = some (.int .i64 (a : Int)) ∧ w.cell? ⟨b, 2, none⟩ = some (.int .i64 R.e) ∧
  (∀ (w' : World) (l : List UInt8) (a' : Nat), Blk w' b [.string (ba S), .int .i64 (a' : Int), .int .i64 R.e] 229 → a' + l.length = S.length → S.drop a' = l → RdAt w' b S ⟨l, R.e⟩) ∧ Blk w b [.string (ba S), .int .i64 (a : Int), .int .i64 R.e] 229 := by
 have hle := h.le
 refine ⟨S.length - R.l.length, by omega, h.rest, h.cells.1, h.cells.2.1, h.cells.2.2, fun w' l a' hB hl hd => ⟨?_, by show l.length ≤ S.length; omega, ?_⟩, h.blk⟩
 ·show Blk w' b [.string (ba S), .int .i64 ((S.length - l.length : Nat) : Int), .int .i64 R.e] _
  rw [show S.length - l.length = a' by omega]; exact hB
 ·show S.drop (S.length - l.length) = l
  rw [show S.length - l.length = a' by omega]; exact hd
theorem zJg (b : Nat) (S r : List UInt8) (c : UInt8) (w : World) (h : RdAt w b S ⟨c :: r, 0⟩) (hS : S.length ≤ 1099511627776) :
  Calls Tryz.prog 161 #[.pointer (some ⟨b, 0, none⟩)] w fun e w' => e = .returned (.int .i64 (c.toNat : Nat)) ∧ RdAt w' b S ⟨r, 0⟩ ∧ Touch (fun k => k = b) w w' := by
 obtain ⟨a, hl, hd, c0, c1, c2, hmk, hB⟩ := h.at
 have hl1 : a + r.length + 1 = S.length := by simp at hl; omega
 have hf := hB.free 1
 have hlt := hB.lt
 have hsz := zAl S
 have hne : (((a : Nat) : Int) == ((S.length : Nat) : Int)) = false := by rw [beq_eq_false_iff_ne]; omega
 have H := hid h
 have HB := hid hB
 have Hmk := hid hmk
 have Hd := hid hd
 clear h hB hmk hd hl
 go_enter Tryz.func161, Tryz.ntmps161
 go_wp2_with fail
 refine (zAJ b S _ w H.out).mono ?_
 rintro e w' ⟨rfl, rfl⟩
 go_upto_region 3 with fail
 go_quiet (fail)
 have c1' : (w.drewN nq).cell? ⟨b, 1, none⟩ = some (.int .i64 (a : Int)) := c1
 have c0' : (w.drewN nq).cell? ⟨b, 0, none⟩ = some (.string (ba S)) := c0
 have hf' : (w.drewN nq).frozen? ⟨b, 1, none⟩ = false := hf
 have hlt' : b < (w.drewN nq).heap.size := hlt
 have HB' := hid (HB.out.drewN nq)
 have HT1 := hid ((Touch.refl (fun k => k = b) w).drewN nq)
 generalize w.drewN nq = w1 at c1' c0' hf' hlt' HB' HT1 ⊢
 go_upto_region 7 with fail
 have HB2 := hid (HB'.out.set 1 (.int .i64 ((a : Int) + 1)))
 have HT2 := hid (zAA (o := 1) HT1.out (.int .i64 ((a : Int) + 1)))
 generalize w1.setCell ⟨b, 1, none⟩ (.int .i64 ((a : Int) + 1)) = w2 at HB2 HT2 ⊢
 have d0 : w2.cell? ⟨b, 0, none⟩ = some (.string (ba S)) := HB2.out.cell 0
 have d1 : w2.cell? ⟨b, 1, none⟩ = some (.int .i64 ((a : Int) + 1)) := HB2.out.cell 1
 clear c0 c1 c2 c0' c1' hf hf' hlt hlt' HB HB' HT1 H
 have hwa : IntKind.i64.wrap (a : Int) = (a : Int) := by rw [IntKind.wrap_i64]; omega
 have ha : a < S.length := by omega
 go_quiet (fail)
 have hc : (ba S)[a]'(by rw [hsz]; exact ha) = c := ba_get Hd.out _
 rw [hc]
 have HB3 := hid (HB2.out.drewN nq)
 have HT3 := hid (HT2.out.drewN nq)
 generalize w2.drewN nq = w3 at HB3 HT3 ⊢
 go_wp2
 go_ret
 refine ⟨zAk (zFe c), ?_, HT3.out⟩
 exact Hmk.out w3 r (a + 1) HB3.out (by omega) (by rw [← List.drop_drop, Hd.out]; rfl)
theorem rdByte_end (b : Nat) (S : List UInt8) (w : World) (h : RdAt w b S ⟨[], 0⟩) (hS : S.length ≤ 1099511627776) :
  Calls Tryz.prog 161 #[.pointer (some ⟨b, 0, none⟩)] w fun e w' => e = .returned (.int .i64 0) ∧ RdAt w' b S ⟨[], 3⟩ ∧ Touch (fun k => k = b) w w' := by
 obtain ⟨a, hl, hd, c0, c1, c2, hmk, hB⟩ := h.at
 have hl1 : a = S.length := by simpa using hl
 subst hl1
 have hsz := zAl S
 have hne : (((S.length : Nat) : Int) == ((S.length : Nat) : Int)) = true := by simp
 have H := hid h
 clear h hB hmk hd hl
 go_enter Tryz.func161, Tryz.ntmps161
 go_wp2_with fail
 refine (zAJ b S _ w H.out).mono ?_
 rintro e w' ⟨rfl, rfl⟩
 go_upto_region 3 with fail
 go_quiet (fail)
 have H1 := hid (show RdAt (w.drewN nq) b S ⟨[], 0⟩ from H.out.below (below_drewN (Below.refl _ _) nq))
 have HT1 := hid ((Touch.refl (fun k => k = b) w).drewN nq)
 generalize w.drewN nq = w1 at H1 HT1 ⊢
 clear c0 c1 c2 H
 go_wp2_with fail
 refine (zCa b S _ 3 w1 H1.out rfl).mono ?_
 rintro e w2 ⟨rfl, hR, hT⟩
 have HR := hid hR
 have HT := hid (HT1.out.trans hT)
 clear hR hT
 go_wp2_with fail
 go_ret
 exact ⟨rfl, HR.out, HT.out⟩
theorem rdByte_err (b : Nat) (S : List UInt8) (R : Rr) (w : World) (h : RdAt w b S R) (h0 : R.e ≠ 0) :
  Calls Tryz.prog 161 #[.pointer (some ⟨b, 0, none⟩)] w fun e w' => e = .returned (.int .i64 0) ∧ w = w' := by
 have H0 := hid (show (R.e != 0) = true by rw [bne_iff_ne]; exact h0)
 clear h0
 go_enter Tryz.func161, Tryz.ntmps161
 go_wp2_with fail
 refine (zAJ b S _ w h).mono ?_
 rintro e w' ⟨rfl, rfl⟩
 rw [H0.out]
 go_wp2_with fail
 go_ret
 exact ⟨rfl, rfl⟩
theorem rdByte_any (b : Nat) (S : List UInt8) (R : Rr) (w : World) (h : RdAt w b S R) (hS : S.length ≤ 1099511627776) :
  Calls Tryz.prog 161 #[.pointer (some ⟨b, 0, none⟩)] w fun e w' => e = .returned (.int .i64 (R.byte.1 : Nat)) ∧ RdAt w' b S R.byte.2 ∧ Touch (fun k => k = b) w w' := by
 obtain ⟨l, e⟩ := R
 by_cases he : e = 0
 ·subst he
  match l, h with
  | [], h => exact rdByte_end b S w h hS
  | c :: r, h => exact zJg b S r c w h hS
 ·refine (rdByte_err b S ⟨l, e⟩ w h he).mono ?_
  rintro x w' ⟨rfl, rfl⟩
  have hb : (Rr.mk l e).byte = (0, ⟨l, e⟩) := by unfold Rr.byte; rw [if_neg he]
  rw [hb]
  exact ⟨rfl, h, Touch.refl _ _⟩
def knV (l : List (Int × List UInt8)) : List Value := l.flatMap fun x => [.int .i64 x.1, .string (ba x.2)]
theorem zBh (l : List (Int × List UInt8)) : (knV l).length = l.length * 2 := by
 unfold knV
 induction l with
 | nil => rfl
 | cons x l ih =>
  simp only [List.flatMap_cons, List.length_append, ih, List.length_cons, List.length_nil]
  omega
theorem knV_snoc (l : List (Int × List UInt8)) (x : Int × List UInt8) : knV (l ++ [x]) = knV l ++ [.int .i64 x.1, .string (ba x.2)] := by unfold knV; rw [List.flatMap_append]; simp
theorem zHJ {l : List (Int × List UInt8)} {x : Int × List UInt8} (h : l[j]? = some x) : (knV l)[j * 2]? = some (.int .i64 x.1) ∧ (knV l)[j * 2 + 1]? = some (.string (ba x.2)) := by
 induction l generalizing j with
 | nil => simp at h
 | cons y l ih =>
  have e : knV (y :: l) = [.int .i64 y.1, .string (ba y.2)] ++ knV l := rfl
  cases j with
  | zero =>
   simp at h
   subst h
   rw [e]
   exact ⟨rfl, rfl⟩
  | succ j =>
   have h' : l[j]? = some x := by simpa using h
   rw [e, List.getElem?_append_right (by simp; omega), List.getElem?_append_right (by simp; omega)]
   simp only [List.length_cons, List.length_nil]
   rw [show (j + 1) * 2 - (0 + 1 + 1) = j * 2 by omega, show (j + 1) * 2 + 1 - (0 + 1 + 1) = j * 2 + 1 by omega]
   exact ih h'
open Go.RowKit
structure Ent where
 gen : Int
 bal : Int
 mark : ByteArray
structure Prom where
 floor : Int
 top : Int
 list : List Ent
def zCB (x : Ent) : List Value := [.int .i64 x.gen, .int .i64 x.bal, .string x.mark]
def entAgg (x : Ent) : Value := .agg #[.int .i64 x.gen, .int .i64 x.bal, .string x.mark]
def zAs (l : List Ent) : List Value := l.flatMap zCB
def zBf (w : World) (ad : Option Addr) (l : List Ent) : Prop :=
 l = [] ∨ ∃ b off, ad = some ⟨b, off, none⟩ ∧ b < w.heap.size ∧ ∀ k (hk : k < l.length), w.cell? ⟨b, off + k * 3, none⟩ = some (.int .i64 l[k].gen) ∧ w.cell? ⟨b, off + k * 3 + 1, none⟩ = some (.int .i64 l[k].bal) ∧ w.cell? ⟨b, off + k * 3 + 2, none⟩ = some (.string l[k].mark)
def zDg (w : World) (ad : Option Addr) (l : List Prom) : Prop :=
 l = [] ∨ ∃ b off, ad = some ⟨b, off, none⟩ ∧ b < w.heap.size ∧ ∀ k (hk : k < l.length), ∃ la lc, w.cell? ⟨b, off + k * 3, none⟩ = some (.int .i64 l[k].floor) ∧ w.cell? ⟨b, off + k * 3 + 1, none⟩ = some (.int .i64 l[k].top) ∧ w.cell? ⟨b, off + k * 3 + 2, none⟩ = some (.slice la l[k].list.length lc) ∧ zBf w la l[k].list
theorem zBO {l : List Ent} (h : zBf w ad l) (hb : Below w.heap.size w w') : zBf w' ad l := by
 rcases h with h | ⟨b, off, h1, h2, h3⟩
 ·exact Or.inl h
 ·refine Or.inr ⟨b, off, h1, Nat.lt_of_lt_of_le h2 hb.size, fun k hk => ?_⟩
  rw [hb.cell (p := ⟨b, off + k * 3, none⟩) h2, hb.cell (p := ⟨b, off + k * 3 + 1, none⟩) h2, hb.cell (p := ⟨b, off + k * 3 + 2, none⟩) h2]
  exact h3 k hk
theorem zAV {l : List Prom} (h : zDg w ad l) (hb : Below w.heap.size w w') : zDg w' ad l := by
 rcases h with h | ⟨b, off, h1, h2, h3⟩
 ·exact Or.inl h
 ·refine Or.inr ⟨b, off, h1, Nat.lt_of_lt_of_le h2 hb.size, fun k hk => ?_⟩
  obtain ⟨la, lc, c0, c1, c2, c3⟩ := h3 k hk
  refine ⟨la, lc, ?_, ?_, ?_, zBO c3 hb⟩
  ·rw [hb.cell (p := ⟨b, off + k * 3, none⟩) h2]; exact c0
  ·rw [hb.cell (p := ⟨b, off + k * 3 + 1, none⟩) h2]; exact c1
  ·rw [hb.cell (p := ⟨b, off + k * 3 + 2, none⟩) h2]; exact c2
theorem zDe {l : List Prom} (h : zDg w ad l) (k : Nat) (hk : k < l.length) :
  ∃ b off la lc, ad = some ⟨b, off, none⟩ ∧ b < w.heap.size ∧ w.cell? ⟨b, off + k * 3, none⟩ = some (.int .i64 l[k].floor) ∧ w.cell? ⟨b, off + k * 3 + 1, none⟩ = some (.int .i64 l[k].top) ∧ w.cell? ⟨b, off + k * 3 + 2, none⟩ = some (.slice la l[k].list.length lc) ∧ zBf w la l[k].list := by
 obtain ⟨b, off, e, hb, hc⟩ := h.resolve_left (by intro h; rw [h] at hk; simp at hk)
 obtain ⟨la, lc, c0, c1, c2, c3⟩ := hc k hk
 exact ⟨b, off, la, lc, e, hb, c0, c1, c2, c3⟩
theorem zFR {l : List Ent} (h : zBf w ad l) (k : Nat) (hk : k < l.length) :
  ∃ b off, ad = some ⟨b, off, none⟩ ∧ b < w.heap.size ∧ w.cell? ⟨b, off + k * 3, none⟩ = some (.int .i64 l[k].gen) ∧ w.cell? ⟨b, off + k * 3 + 1, none⟩ = some (.int .i64 l[k].bal) ∧ w.cell? ⟨b, off + k * 3 + 2, none⟩ = some (.string l[k].mark) := by
 obtain ⟨b, off, e, hb, hc⟩ := h.resolve_left (by intro h; rw [h] at hk; simp at hk)
 exact ⟨b, off, e, hb, hc k hk⟩
def flat (ps : List Prom) : List (Int × Ent) := ps.flatMap fun p => p.list.map fun x => (p.top, x)
def zDc (l : List (Int × Ent)) (g : Int) : Option ByteArray := (l.find? fun t => decide (t.2.gen = g ∧ g < t.1)).map (·.2.mark)
def zFl (ps : List Prom) (g : Int) : Option ByteArray := zDc (flat ps) g
theorem flat_step (ps : List Prom) (i : Nat) (hi : i < ps.length) : flat (ps.drop i) = (ps[i].list.map fun x => (ps[i].top, x)) ++ flat (ps.drop (i + 1)) := by
 rw [List.drop_eq_getElem_cons hi]; rfl
theorem zIr (t : Int) (x : Ent) (l : List (Int × Ent)) (g : Int) : zDc ((t, x) :: l) g = if x.gen = g ∧ g < t then some x.mark else zDc l g := by
 unfold zDc
 rw [List.find?_cons]
 by_cases h : x.gen = g ∧ g < t
 ·rw [if_pos h]; simp [h]
 ·rw [if_neg h]; simp only [h, decide_false]
def zCv (p : Prom) (k : Nat) (R : List (Int × Ent)) : List (Int × Ent) := ((p.list.drop k).map fun x => (p.top, x)) ++ R
theorem zHk (ps : List Prom) (i : Nat) (hi : i < ps.length) : flat (ps.drop i) = zCv ps[i] 0 (flat (ps.drop (i + 1))) := flat_step ps i hi
theorem rest_step (p : Prom) (k : Nat) (R : List (Int × Ent)) (hk : k < p.list.length) : zCv p k R = (p.top, p.list[k]) :: zCv p (k + 1) R := by
 unfold zCv; rw [List.drop_eq_getElem_cons hk]; rfl
theorem rest_end (p : Prom) (k : Nat) (R : List (Int × Ent)) (hk : p.list.length ≤ k) : zCv p k R = R := by
 unfold zCv; rw [List.drop_eq_nil_of_le hk]; rfl
def zGs (o : Option ByteArray) (g : Int) : Value := match o with
 | some m => .tuple #[.agg #[.int .i64 g, .int .i64 0, .string m], .bool true]
 | none => .tuple #[.agg #[.int .i64 0, .int .i64 0, .string ByteArray.empty], .bool false]
theorem known_any (ad : Option Addr) (cap : Nat) (ps : List Prom) (g : Int) (w : World) (hl : ps.length ≤ 1000000) (hll : ∀ p ∈ ps, p.list.length ≤ 1000000) (h : zDg w ad ps) :
  Calls Tryz.prog 121 #[.slice ad ps.length cap, .int .i64 g] w fun e w' => e = .returned (zGs (zFl ps g) g) ∧ Below w.heap.size w w' := by
 have H := hid h
 have Hll := hid hll
 clear h hll
 go_enter Tryz.func121, Tryz.ntmps121
 go_wp2
 have hz : Blk (w.alloc (.cells #[.int .i64 0, .int .i64 0, .string ⟨#[]⟩] 102)) w.heap.size [.int .i64 0, .int .i64 0, .string ⟨#[]⟩] 102 := Blk.new w _ _
 have hb0 : Below w.heap.size w (w.alloc (.cells #[.int .i64 0, .int .i64 0, .string ⟨#[]⟩] 102)) := (Below.refl _ _).alloc (Nat.le_refl _) _
 have h0 := zAV H.out hb0
 have hsz : w.heap.size < (w.alloc (.cells #[.int .i64 0, .int .i64 0, .string ⟨#[]⟩] 102)).heap.size := by simp
 generalize (w.alloc (.cells #[.int .i64 0, .int .i64 0, .string ⟨#[]⟩] 102)) = w1 at hz hb0 h0 hsz ⊢
 have Hz := hid hz
 have H0 := hid h0
 clear hz h0 H
 go_loopw [12] (fun i wr => ∃ k : Nat, i = .int .i64 k ∧ k ≤ ps.length ∧ Hid (zFl ps g = zDc (flat (ps.drop k)) g) ∧ Below w1.heap.size w1 wr) (fun i _ => ps.length - (intOf i).toNat)
 case atStart => exact ⟨0, rfl, Nat.zero_le _, hid rfl, Below.refl _ _⟩
 case round =>
  obtain ⟨i, rfl, hi, hk, hbr⟩ := hrel
  by_cases hlt : i < ps.length
  ·obtain ⟨b, off, la, lc, rfl, hbs, c0, c1, c2, hes⟩ := zDe (zAV H0.out hbr) i hlt
   have hin : ps[i].list.length ≤ 1000000 := Hll.out _ (List.getElem_mem hlt)
   have hk2 := hid (hk.out.trans (congrArg (fun l => zDc l g) (zHk ps i hlt)))
   obtain ⟨p, hp⟩ : ∃ p, p = ps[i] := ⟨_, rfl⟩
   rw [← hp] at c0 c1 c2 hes hin hk2
   have Hes := hid hes
   clear hp hes hk
   obtain ⟨wo, rfl⟩ : ∃ wo : World, wo = wr := ⟨_, rfl⟩
   go_wp2
   have hbr2 := hbr.alloc hbr.size (.cells #[.int .i64 p.floor, .int .i64 p.top, .slice la p.list.length lc] 171)
   have hes2 := zBO Hes.out ((Below.refl _ _).alloc (Nat.le_refl _) (.cells #[.int .i64 p.floor, .int .i64 p.top, .slice la p.list.length lc] 171))
   have ht2 : (wo.alloc (.cells #[.int .i64 p.floor, .int .i64 p.top, .slice la p.list.length lc] 171)).cell? ⟨wo.heap.size, 1, none⟩ = some (.int .i64 p.top) := (Blk.new wo [.int .i64 p.floor, .int .i64 p.top, .slice la p.list.length lc] 171).cell 1
   have hs2 : wo.heap.size < (wo.alloc (.cells #[.int .i64 p.floor, .int .i64 p.top, .slice la p.list.length lc] 171)).heap.size := by simp
   generalize wo.alloc (.cells #[.int .i64 p.floor, .int .i64 p.top, .slice la p.list.length lc] 171) = w2 at hbr2 hes2 ht2 hs2 ⊢
   have Hes2 := hid hes2
   obtain ⟨q, hq⟩ : ∃ q, q = wo.heap.size := ⟨_, rfl⟩
   rw [← hq] at ht2 hs2 ⊢
   clear hes2 Hes c0 c1 c2 hq
   go_loopw [19] (fun j wr => ∃ k : Nat, j = .int .i64 k ∧ k ≤ p.list.length ∧ Hid (zFl ps g = zDc (zCv p k (flat (ps.drop (i + 1)))) g) ∧ Below w2.heap.size w2 wr) (fun j _ => p.list.length - (intOf j).toNat)
   case atStart => exact ⟨0, rfl, Nat.zero_le _, hk2, Below.refl _ _⟩
   case round =>
    obtain ⟨k, rfl, hk, hko, hbw⟩ := hrel
    by_cases hlt2 : k < p.list.length
    ·obtain ⟨b2, off2, rfl, hbs2, d0, d1, d2⟩ := zFR (zBO Hes2.out hbw) k hlt2
     have ht3 := (hbw.cell (p := ⟨q, 1, none⟩) hs2).trans ht2
     have hstep := hko.out
     rw [rest_step p k _ hlt2, zIr] at hstep
     obtain ⟨x, hx⟩ : ∃ x, x = p.list[k] := ⟨_, rfl⟩
     rw [← hx] at d0 d1 d2 hstep
     clear hx
     have hbx := hbw.trans (((Below.refl wr.heap.size wr).alloc (Nat.le_refl _) (.cells #[.int .i64 x.gen, .int .i64 x.bal, .string x.mark] 102)).mono hbw.size)
     have hqr : q < wr.heap.size := Nat.lt_of_lt_of_le hs2 hbw.size
     have hwr : w.heap.size < wr.heap.size := Nat.lt_of_lt_of_le hsz (hbr2.trans (hbw.mono hbr2.size)).size
     have hmt : x.gen = g ∧ g < p.top ∨ ¬ x.gen = g ∨ x.gen = g ∧ ¬ g < p.top := by omega
     rcases hmt with ⟨hg, hm⟩ | hm
     ·rw [if_pos ⟨hg, hm⟩] at hstep
      have Hstep := hid hstep
      have hw1r := hbr2.trans (hbw.mono hbr2.size)
      have hz3 := Hz.out.below hw1r
      have z0 := hz3.cell 0
      have z1 := hz3.cell 1
      have z2 := hz3.cell 2
      have f0 := hz3.free 0
      have f1 := hz3.free 1
      have f2 := hz3.free 2
      simp only [List.getElem?_cons_succ, List.getElem?_cons_zero] at z0 z1 z2
      have Hz3 := hid hz3
      clear hz3
      go_wp2
      have hz4 := ((((Hz3.out.set 0 (.int .i64 g)).set 1 (.int .i64 0)).set 2 (.string x.mark)).alloc (.cells #[.int .i64 g, .int .i64 x.bal, .string x.mark] 102))
      have y0 := hz4.cell 0
      have y1 := hz4.cell 1
      have y2 := hz4.cell 2
      simp only [List.getElem?_cons_succ, List.getElem?_cons_zero, List.set_cons_zero, List.set_cons_succ] at y0 y1 y2
      refine bodyPost_ret (v := .tuple #[.agg #[.int .i64 g, .int .i64 0, .string x.mark], .bool true]) ?_ rfl ⟨by rw [Hstep.out]; rfl, ?_⟩
      ·clear hbx Hz3 hz4
       simp [results, Tryz.results121, go_sem, y0, y1, y2]
      ·exact (((((hb0.trans (hw1r.mono hb0.size)).setCell (Nat.le_refl _) _).setCell (Nat.le_refl _) _).setCell (Nat.le_refl _) _).alloc (by simp; omega) _)
     ·have hn : ¬ (x.gen = g ∧ g < p.top) := by omega
      rw [if_neg hn] at hstep
      have Hstep := hid hstep
      clear hstep hn
      rcases hm with hm | ⟨hg, hm⟩
      ·go_wp2
       go_roundw
       case rel => exact ⟨k + 1, by go_num, by omega, Hstep, hbx⟩
       case measure => simp [intOf]; omega
      ·go_wp2
       go_roundw
       case rel => exact ⟨k + 1, by go_num, by omega, Hstep, by rw [hg] at hbx; exact hbx⟩
       case measure => simp [intOf]; omega
    ·go_wp2
     go_roundw
     case rel => exact ⟨i + 1, by go_num, by omega, hid (by have h := hko.out; rw [rest_end p k _ (by omega)] at h; exact h), hbr2.trans (hbw.mono hbr2.size)⟩
     case measure => simp [intOf]; omega
  ·have he := hk.out
   rw [List.drop_eq_nil_of_le (by omega)] at he
   have He := hid (show zFl ps g = none from he)
   have hz3 := Hz.out.below hbr
   have z0 := hz3.cell 0
   have z1 := hz3.cell 1
   have z2 := hz3.cell 2
   have f0 := hz3.free 0
   have f1 := hz3.free 1
   have f2 := hz3.free 2
   simp only [List.getElem?_cons_succ, List.getElem?_cons_zero] at z0 z1 z2
   have Hz3 := hid hz3
   clear hz3 he
   go_wp2
   have hz4 := (((Hz3.out.set 0 (.int .i64 0)).set 1 (.int .i64 0)).set 2 (.string ⟨#[]⟩))
   have y0 := hz4.cell 0
   have y1 := hz4.cell 1
   have y2 := hz4.cell 2
   simp only [List.getElem?_cons_succ, List.getElem?_cons_zero, List.set_cons_zero, List.set_cons_succ] at y0 y1 y2
   refine bodyPost_ret (v := .tuple #[.agg #[.int .i64 0, .int .i64 0, .string ⟨#[]⟩], .bool false]) ?_ rfl ⟨by rw [He.out]; rfl, ?_⟩
   ·clear Hz3 hz4
    simp [results, Tryz.results121, go_sem, y0, y1, y2]
   ·exact ((((hb0.trans (hbr.mono hb0.size)).setCell (Nat.le_refl _) _).setCell (Nat.le_refl _) _).setCell (Nat.le_refl _) _)
def better (st : Option Ent) (x : Ent) : Bool := match st with
 | none => true
 | some b => decide (b.bal < x.bal)
def pick (g : Int) (st : Option Ent) (x : Ent) : Option Ent := if x.gen = g ∧ better st x = true then some x else st
def zAX (g : Int) (st : Option Ent) (l : List (Int × Ent)) : Option Ent := l.foldl (fun s t => pick g s t.2) st
def zED (ps : List Prom) (g : Int) : Option Ent := zAX g none (flat ps)
theorem zFr (g : Int) (st : Option Ent) (t : Int) (x : Ent) (l : List (Int × Ent)) : zAX g st ((t, x) :: l) = zAX g (pick g st x) l := rfl
def zEnt : Ent := ⟨0, 0, ⟨#[]⟩⟩
def zBR (st : Option Ent) : List Value := zCB (st.getD zEnt)
def zEv (st : Option Ent) : Value := .tuple #[entAgg (st.getD zEnt), .bool st.isSome]
theorem zIt (ad : Option Addr) (cap : Nat) (ps : List Prom) (g : Int) (w : World) (hl : ps.length ≤ 1000000) (hll : ∀ p ∈ ps, p.list.length ≤ 1000000) (h : zDg w ad ps) :
  Calls Tryz.prog 122 #[.slice ad ps.length cap, .int .i64 g] w fun e w' => e = .returned (zEv (zED ps g)) ∧ Below w.heap.size w w' := by
 have H := hid h
 have Hll := hid hll
 clear h hll
 go_enter Tryz.func122, Tryz.ntmps122
 go_wp2
 have hz : Blk (w.alloc (.cells #[.int .i64 0, .int .i64 0, .string ⟨#[]⟩] 102)) w.heap.size [.int .i64 0, .int .i64 0, .string ⟨#[]⟩] 102 := Blk.new w _ _
 have hb0 : Below w.heap.size w (w.alloc (.cells #[.int .i64 0, .int .i64 0, .string ⟨#[]⟩] 102)) := (Below.refl _ _).alloc (Nat.le_refl _) _
 have h0 := zAV H.out hb0
 have hsz : w.heap.size + 1 = (w.alloc (.cells #[.int .i64 0, .int .i64 0, .string ⟨#[]⟩] 102)).heap.size := by simp
 generalize (w.alloc (.cells #[.int .i64 0, .int .i64 0, .string ⟨#[]⟩] 102)) = w1 at hz hb0 h0 hsz ⊢
 obtain ⟨bb, hbb⟩ : ∃ bb, bb = w.heap.size + 1 := ⟨_, rfl⟩
 rw [← hbb] at hsz ⊢
 have hbest : Blk (w1.alloc (.cells #[.int .i64 0, .int .i64 0, .string ⟨#[]⟩] 102)) bb (zBR none) 102 := by rw [hsz]; exact Blk.new w1 _ _
 have hb1 : Below w1.heap.size w1 (w1.alloc (.cells #[.int .i64 0, .int .i64 0, .string ⟨#[]⟩] 102)) := (Below.refl _ _).alloc (Nat.le_refl _) _
 generalize (w1.alloc (.cells #[.int .i64 0, .int .i64 0, .string ⟨#[]⟩] 102)) = w2 at hbest hb1 ⊢
 have Hz := hid hz
 have H0 := hid h0
 have Hbest := hid hbest
 have hble : w1.heap.size ≤ bb := Nat.le_of_eq hsz.symm
 have hbw1 : w.heap.size < w1.heap.size := by omega
 clear hz h0 H hbest hbb hsz
 go_loopw [7, 15] (fun h i wr => ∃ (k : Nat) (st : Option Ent), i = .int .i64 k ∧ k ≤ ps.length ∧ h = .bool st.isSome ∧ Hid (zED ps g = zAX g st (flat (ps.drop k))) ∧ Hid (Blk wr bb (zBR st) 102) ∧ Below w1.heap.size w1 wr) (fun _ i _ => ps.length - (intOf i).toNat)
 case atStart => exact ⟨0, none, rfl, Nat.zero_le _, rfl, hid rfl, Hbest, hb1⟩
 case round =>
  obtain ⟨i, st, rfl, hi, rfl, hk, HB, hbr⟩ := hrel
  by_cases hlt : i < ps.length
  ·obtain ⟨b, off, la, lc, rfl, hbs, c0, c1, c2, hes⟩ := zDe H0.out i hlt
   replace c0 := (hbr.cell (p := ⟨b, off + i * 3, none⟩) hbs).trans c0
   replace c1 := (hbr.cell (p := ⟨b, off + i * 3 + 1, none⟩) hbs).trans c1
   replace c2 := (hbr.cell (p := ⟨b, off + i * 3 + 2, none⟩) hbs).trans c2
   have hin : ps[i].list.length ≤ 1000000 := Hll.out _ (List.getElem_mem hlt)
   have hk2 := hid (hk.out.trans (congrArg (fun l => zAX g st l) (zHk ps i hlt)))
   obtain ⟨p, hp⟩ : ∃ p, p = ps[i] := ⟨_, rfl⟩
   rw [← hp] at c0 c1 c2 hes hin hk2
   have Hes := hid hes
   clear hp hes hk
   obtain ⟨wo, rfl⟩ : ∃ wo : World, wo = wr := ⟨_, rfl⟩
   obtain ⟨s0, hs0⟩ : ∃ s0 : Bool, s0 = st.isSome := ⟨_, rfl⟩
   rw [← hs0]
   have Hs0 := hid hs0
   clear hs0
   go_wp2
   have hbr2 := hbr.alloc hbr.size (.cells #[.int .i64 p.floor, .int .i64 p.top, .slice la p.list.length lc] 171)
   have hbe2 := HB.out.alloc (.cells #[.int .i64 p.floor, .int .i64 p.top, .slice la p.list.length lc] 171)
   generalize wo.alloc (.cells #[.int .i64 p.floor, .int .i64 p.top, .slice la p.list.length lc] 171) = w3 at hbr2 hbe2 ⊢
   have HB2 := hid hbe2
   clear c0 c1 c2 hbe2
   go_loopw [7, 22] (fun h j wr => ∃ (k : Nat) (st : Option Ent), j = .int .i64 k ∧ k ≤ p.list.length ∧ h = .bool st.isSome ∧ Hid (zED ps g = zAX g st (zCv p k (flat (ps.drop (i + 1))))) ∧ Hid (Blk wr bb (zBR st) 102) ∧ Below w1.heap.size w1 wr) (fun _ j _ => p.list.length - (intOf j).toNat)
   case atStart => exact ⟨0, st, rfl, Nat.zero_le _, by rw [Hs0.out], hk2, HB2, hbr2⟩
   case round =>
    obtain ⟨k, st, rfl, hk, rfl, hko, HB3, hbw⟩ := hrel
    by_cases hlt2 : k < p.list.length
    ·obtain ⟨b2, off2, rfl, hbs2, d0, d1, d2⟩ := zFR Hes.out k hlt2
     replace d0 := (hbw.cell (p := ⟨b2, off2 + k * 3, none⟩) hbs2).trans d0
     replace d1 := (hbw.cell (p := ⟨b2, off2 + k * 3 + 1, none⟩) hbs2).trans d1
     replace d2 := (hbw.cell (p := ⟨b2, off2 + k * 3 + 2, none⟩) hbs2).trans d2
     have hstep := hko.out
     rw [rest_step p k _ hlt2, zFr] at hstep
     obtain ⟨x, hx⟩ : ∃ x, x = p.list[k] := ⟨_, rfl⟩
     rw [← hx] at d0 d1 d2 hstep
     clear hx
     have hbbl := HB3.out.lt
     have e0 := HB3.out.cell 0
     have e1 := HB3.out.cell 1
     have e2 := HB3.out.cell 2
     have f0 := HB3.out.free 0
     have f1 := HB3.out.free 1
     have f2 := HB3.out.free 2
     simp only [zBR, zCB, List.getElem?_cons_succ, List.getElem?_cons_zero] at e0 e1 e2
     have hbx := hbw.alloc hbw.size (.cells #[.int .i64 x.gen, .int .i64 x.bal, .string x.mark] 102)
     have hBx := hid (HB3.out.alloc (.cells #[.int .i64 x.gen, .int .i64 x.bal, .string x.mark] 102))
     have hne : bb ≠ wr.heap.size := Nat.ne_of_lt hbbl
     have hset := (((HB3.out.set 0 (.int .i64 x.gen)).set 1 (.int .i64 x.bal)).set 2 (.string x.mark)).alloc (.cells #[.int .i64 x.gen, .int .i64 x.bal, .string x.mark] 102)
     simp only [zBR, zCB, List.set_cons_zero, List.set_cons_succ] at hset
     have hbt := (((hbw.setCell (p := ⟨bb, 0, none⟩) hble (.int .i64 x.gen)).setCell (p := ⟨bb, 1, none⟩) hble (.int .i64 x.bal)).setCell (p := ⟨bb, 2, none⟩) hble (.string x.mark)).alloc (by simp [World.setCell]; exact hbw.size) (.cells #[.int .i64 x.gen, .int .i64 x.bal, .string x.mark] 102)
     have Hset := hid hset
     have Hbt := hid hbt
     have Hbx := hid hbx
     clear hset hbt hbx
     by_cases hg : x.gen = g
     ·cases hst : st with
      | none =>
       subst hst
       have hstep2 := hid (hstep.trans (congrArg (fun s => zAX g s (zCv p (k + 1) (flat (ps.drop (i + 1))))) (show pick g none x = some x by unfold pick; rw [if_pos ⟨hg, rfl⟩])))
       clear hstep
       go_wp2
       go_roundw
       case rel => exact ⟨k + 1, some x, by go_num, by omega, rfl, hstep2, by rw [hg] at Hset; exact hid (by simp only [zBR, zCB, Option.getD_some, hg]; exact Hset.out), by rw [hg] at Hbt; exact Hbt.out⟩
       case measure => simp [intOf]; omega
      | some y =>
       subst hst
       simp only [Option.getD_some] at e0 e1 e2
       by_cases hlb : y.bal < x.bal
       ·have hstep2 := hid (hstep.trans (congrArg (fun s => zAX g s (zCv p (k + 1) (flat (ps.drop (i + 1))))) (show pick g (some y) x = some x by unfold pick; rw [if_pos ⟨hg, by simp [better, hlb]⟩])))
        clear hstep
        go_wp2
        go_roundw
        case rel => exact ⟨k + 1, some x, by go_num, by omega, rfl, hstep2, by rw [hg] at Hset; exact hid (by simp only [zBR, zCB, Option.getD_some, hg]; exact Hset.out), by rw [hg] at Hbt; exact Hbt.out⟩
        case measure => simp [intOf]; omega
       ·have hstep2 := hid (hstep.trans (congrArg (fun s => zAX g s (zCv p (k + 1) (flat (ps.drop (i + 1))))) (show pick g (some y) x = some y by unfold pick; rw [if_neg (fun h => hlb (by simpa [better] using h.2))])))
        clear hstep
        go_wp2
        go_roundw
        case rel => exact ⟨k + 1, some y, by go_num, by omega, rfl, hstep2, by rw [hg] at hBx; exact hBx, by rw [hg] at Hbx; exact Hbx.out⟩
        case measure => simp [intOf]; omega
     ·have hstep2 := hid (hstep.trans (congrArg (fun s => zAX g s (zCv p (k + 1) (flat (ps.drop (i + 1))))) (show pick g st x = st by unfold pick; rw [if_neg (fun h => hg h.1)])))
      obtain ⟨s0, hs0⟩ : ∃ s0 : Bool, s0 = st.isSome := ⟨_, rfl⟩
      rw [← hs0]
      have Hs0 := hid hs0
      clear hs0 hstep e0 e1 e2
      go_wp2
      go_roundw
      case rel => exact ⟨k + 1, st, by go_num, by omega, by rw [Hs0.out], hstep2, hBx, Hbx.out⟩
      case measure => simp [intOf]; omega
    ·have hend := hko.out
     rw [rest_end p k _ (by omega)] at hend
     have Hend := hid hend
     obtain ⟨s0, hs0⟩ : ∃ s0 : Bool, s0 = st.isSome := ⟨_, rfl⟩
     rw [← hs0]
     have Hs0 := hid hs0
     clear hs0 hend
     go_wp2
     go_roundw
     case rel => exact ⟨i + 1, st, by go_num, by omega, by rw [Hs0.out], Hend, HB3, hbw⟩
     case measure => simp [intOf]; omega
  ·have he := hk.out
   rw [List.drop_eq_nil_of_le (by omega)] at he
   have He := hid (show zED ps g = st from he)
   have hz3 := Hz.out.below hbr
   have hne : bb ≠ w.heap.size := by omega
   have z0 := hz3.cell 0
   have z1 := hz3.cell 1
   have z2 := hz3.cell 2
   have f0 := hz3.free 0
   have f1 := hz3.free 1
   have f2 := hz3.free 2
   have e0 := HB.out.cell 0
   have e1 := HB.out.cell 1
   have e2 := HB.out.cell 2
   simp only [List.getElem?_cons_succ, List.getElem?_cons_zero] at z0 z1 z2
   simp only [zBR, zCB, List.getElem?_cons_succ, List.getElem?_cons_zero] at e0 e1 e2
   have Hz3 := hid hz3
   obtain ⟨x, hx⟩ : ∃ x, x = st.getD zEnt := ⟨_, rfl⟩
   obtain ⟨s0, hs0⟩ : ∃ s0 : Bool, s0 = st.isSome := ⟨_, rfl⟩
   rw [← hx] at e0 e1 e2
   rw [← hs0]
   have Hx := hid hx
   have Hs0 := hid hs0
   clear hz3 he hx hs0 hk
   go_wp2
   have hz4 := (((Hz3.out.set 0 (.int .i64 x.gen)).set 1 (.int .i64 x.bal)).set 2 (.string x.mark))
   have y0 := hz4.cell 0
   have y1 := hz4.cell 1
   have y2 := hz4.cell 2
   simp only [List.getElem?_cons_succ, List.getElem?_cons_zero, List.set_cons_zero, List.set_cons_succ] at y0 y1 y2
   refine bodyPost_ret (v := .tuple #[.agg #[.int .i64 x.gen, .int .i64 x.bal, .string x.mark], .bool s0]) ?_ rfl ⟨by rw [He.out, zEv, ← Hx.out, ← Hs0.out]; rfl, ?_⟩
   ·clear Hz3 hz4
    simp [results, Tryz.results122, go_sem, y0, y1, y2]
   ·exact ((((hb0.trans (hbr.mono hb0.size)).setCell (Nat.le_refl _) _).setCell (Nat.le_refl _) _).setCell (Nat.le_refl _) _)
def knF (I : List (Int × List UInt8)) (g : Int) : Option (List UInt8) := (I.find? fun x => x.1 == g).map (·.2)
theorem knF_some {g : Int} {x : Int × List UInt8} (hx : I[k]? = some x) (hg : x.1 = g) (h : ∀ i, i < k → ∀ y, I[i]? = some y → y.1 ≠ g) : knF I g = some x.2 := by
 induction I generalizing k with
 | nil => cases hx
 | cons y I ih =>
  unfold knF
  cases k with
  | zero =>
   simp at hx
   subst hx
   rw [List.find?_cons_of_pos (by simpa using hg)]
   rfl
  | succ k =>
   have h0 := h 0 (by omega) y rfl
   rw [List.find?_cons_of_neg (by simpa using h0)]
   exact ih (by simpa using hx) (fun i hi z hz => h (i + 1) (by omega) z (by simpa using hz))
theorem knF_none {g : Int} (h : ∀ i, i < I.length → ∀ y, I[i]? = some y → y.1 ≠ g) : knF I g = none := by
 unfold knF
 rw [List.find?_eq_none.2]
 ·rfl
 ·intro x hx
  obtain ⟨i, hi, rfl⟩ := List.mem_iff_getElem.1 hx
  simpa using h i hi _ (List.getElem?_eq_getElem hi)
def mkF (l : List Ent) (g : Int) : Option ByteArray := (l.find? fun x => x.gen == g).map (·.mark)
theorem mkF_some {l : List Ent} {g : Int} {x : Ent} (hx : l[k]? = some x) (hg : x.gen = g) (h : ∀ i, i < k → ∀ y, l[i]? = some y → y.gen ≠ g) : mkF l g = some x.mark := by
 induction l generalizing k with
 | nil => cases hx
 | cons y l ih =>
  unfold mkF
  cases k with
  | zero =>
   simp at hx
   subst hx
   rw [List.find?_cons_of_pos (by simpa using hg)]
   rfl
  | succ k =>
   have h0 := h 0 (by omega) y rfl
   rw [List.find?_cons_of_neg (by simpa using h0)]
   exact ih (by simpa using hx) (fun i hi z hz => h (i + 1) (by omega) z (by simpa using hz))
theorem mkF_none {l : List Ent} {g : Int} (h : ∀ i, i < l.length → ∀ y, l[i]? = some y → y.gen ≠ g) : mkF l g = none := by
 unfold mkF
 rw [List.find?_eq_none.2]
 ·rfl
 ·intro x hx
  obtain ⟨i, hi, rfl⟩ := List.mem_iff_getElem.1 hx
  simpa using h i hi _ (List.getElem?_eq_getElem hi)
theorem zBQ {l : List Ent} {x : Ent} (h : l[j]? = some x) : (zAs l)[j * 3]? = some (.int .i64 x.gen) ∧ (zAs l)[j * 3 + 1]? = some (.int .i64 x.bal) ∧ (zAs l)[j * 3 + 2]? = some (.string x.mark) := by
 induction l generalizing j with
 | nil => simp at h
 | cons y l ih =>
  have e : zAs (y :: l) = [.int .i64 y.gen, .int .i64 y.bal, .string y.mark] ++ zAs l := rfl
  cases j with
  | zero =>
   simp at h
   subst h
   rw [e]
   exact ⟨rfl, rfl, rfl⟩
  | succ j =>
   have h' : l[j]? = some x := by simpa using h
   have hh := ih h'
   rw [e, List.getElem?_append_right (by simp; omega), List.getElem?_append_right (by simp; omega), List.getElem?_append_right (by simp; omega)]
   simp only [List.length_cons, List.length_nil]
   rw [show (j + 1) * 3 - (0 + 1 + 1 + 1) = j * 3 by omega, show (j + 1) * 3 + 1 - (0 + 1 + 1 + 1) = j * 3 + 1 by omega, show (j + 1) * 3 + 2 - (0 + 1 + 1 + 1) = j * 3 + 2 by omega]
   exact hh
def zBY (gen bal : Int) (mk img : ByteArray) (ta tf : Nat) (cl old : Bool) : List Value := [.int .i64 gen, .int .i64 bal, .string mk, .string img, .pointer (some ⟨ta, 0, none⟩), .pointer (some ⟨tf, 0, none⟩), .bool cl, .bool old]
def zFj (c bk : Nat) (id n : Int) : List Value := [.pointer (some ⟨c, 0, none⟩), .pointer (some ⟨bk, 0, none⟩), .int .i64 id, .int .i64 n, .slice none 0 0, .slice none 0 0, .int .i64 0]
theorem fresh_no (id n stamp : Int) (w : World) (h : ¬ NewOk id n stamp) : Calls Tryz.prog 6 #[.int .i64 id, .int .i64 n, .int .i64 stamp] w fun e w' => e = .returned (.pointer none) ∧ Below w.heap.size w w' := by
 have H := hid h
 clear h
 go_enter Tryz.func6, Tryz.ntmps6
 go_wp2_with fail
 refine (zEF w).mono ?_
 rintro e w1 ⟨bk, mp, rfl, hb0, hm0, hbk, hmp, hb1⟩
 have Hbk := hid hbk
 clear hbk hmp
 go_wp2_with fail
 refine (zJd id n stamp bk mp _ H.out Hbk.out).mono ?_
 rintro e wx ⟨rfl, rfl⟩
 go_wp2_with fail
 go_ret
 exact ⟨rfl, hb1⟩
theorem zAb.setFt {c : CSt} (h : zAb w b c) (j : Nat) (v : Value) (c' : CSt) (hh : c'.head = c.head) (hp : c'.peers = c.peers) (hf : c'.foot = c.foot.set j v) : zAb (w.setCell ⟨b, 84 + j, none⟩ v) b c' := by
 have e : c'.cells = c.cells.set (84 + j) v := by
  have h12 : c.head.length = 12 := rfl
  have h72 := h.2
  unfold CSt.cells
  rw [hh, hp, hf, List.set_append_right _ _ (by omega), List.set_append_right _ _ (by omega)]
  congr 3
  omega
 refine ⟨?_, by rw [hp]; exact h.2⟩
 rw [e]
 exact h.1.set _ _
def CSt.ended (c : CSt) (v : Value) : CSt := { c with call := .pointer none, yes := .pointer none, pruned := .pointer none, answer := v }
def zBv (e g f : Int) (fs ms : Value) : List Value := [.int .i64 e, .int .i64 g, .int .i64 f, fs, ms]
theorem end_call (b k : Nat) (c : CSt) (e g f : Int) (fa ma : Option Addr) (fl fc ml mc : Nat) (w : World) (h : zAb w b c) (hc : c.call = .pointer (some ⟨k, 0, none⟩)) (hj : c.job = .pointer none) :
  Calls Tryz.prog 21 #[.pointer (some ⟨b, 0, none⟩), .agg #[.int .i64 e, .int .i64 g, .int .i64 f, .slice fa fl fc, .slice ma ml mc]] w fun x w' => x = .returned (.tuple #[]) ∧ ∃ a, w.heap.size ≤ a ∧ Blk w' a (zBv e g f (.slice fa fl fc) (.slice ma ml mc)) 51 ∧ zAb w' b (c.ended (.pointer (some ⟨a, 0, none⟩))) ∧ Touch (fun k => k = b) w w' := by
 have hbl := h.1.lt
 have h84 : w.cell? ⟨b, 84, none⟩ = some (.pointer none) := by have := h.ft 0; rw [← hj]; exact this
 have h86 : w.cell? ⟨b, 86, none⟩ = some (.pointer (some ⟨k, 0, none⟩)) := by have := h.ft 2; rw [← hc]; exact this
 have h89 : w.cell? ⟨b, 89, none⟩ = some c.yes := h.ft 5
 have h90 : w.cell? ⟨b, 90, none⟩ = some c.pruned := h.ft 6
 have h91 : w.cell? ⟨b, 91, none⟩ = some c.answer := h.ft 7
 have hfz : ∀ o, w.frozen? ⟨b, o, none⟩ = false := fun o => h.1.free o
 have hba : b ≠ w.heap.size := by omega
 have H := hid h
 have f86 := hfz 86
 have f89 := hfz 89
 have f90 := hfz 90
 have f91 := hfz 91
 clear h hc hj hfz
 go_enter Tryz.func21, Tryz.ntmps21
 go_wp2
 have h1 := H.out.setFt 2 (.pointer none) { c with call := .pointer none } rfl rfl rfl
 have h2 := h1.setFt 5 (.pointer none) { c with call := .pointer none, yes := .pointer none } rfl rfl rfl
 have h3 := h2.setFt 6 (.pointer none) { c with call := .pointer none, yes := .pointer none, pruned := .pointer none } rfl rfl rfl
 have h4 := h3.setFt 7 (.pointer (some ⟨w.heap.size, 0, none⟩)) (c.ended (.pointer (some ⟨w.heap.size, 0, none⟩))) rfl rfl rfl
 have t3 := zAa (o := 84 + 6) (zAa (o := 84 + 5) (zAa (o := 84 + 2) (Touch.refl (fun k => k = b) w) (.pointer none)) (.pointer none)) (.pointer none)
 have t4 := zAa (o := 84 + 7) t3 (.pointer (some ⟨w.heap.size, 0, none⟩))
 have hs : ((((w.setCell ⟨b, 84 + 2, none⟩ (.pointer none)).setCell ⟨b, 84 + 5, none⟩ (.pointer none)).setCell ⟨b, 84 + 6, none⟩ (.pointer none)).setCell ⟨b, 84 + 7, none⟩ (.pointer (some ⟨w.heap.size, 0, none⟩))).heap.size = w.heap.size := by simp [World.setCell]
 have hA := (Blk.new ((((w.setCell ⟨b, 84 + 2, none⟩ (.pointer none)).setCell ⟨b, 84 + 5, none⟩ (.pointer none)).setCell ⟨b, 84 + 6, none⟩ (.pointer none)).setCell ⟨b, 84 + 7, none⟩ (.pointer (some ⟨w.heap.size, 0, none⟩))) (zBv e g f (.slice fa fl fc) (.slice ma ml mc)) 51)
 rw [hs] at hA
 have h5 := h4.alloc (.cells (zBv e g f (.slice fa fl fc) (.slice ma ml mc)).toArray 51)
 have t5 := t4.alloc (.cells (zBv e g f (.slice fa fl fc) (.slice ma ml mc)).toArray 51)
 go_end0
 exact ⟨rfl, w.heap.size, Nat.le_refl _, hA, h5, t5⟩
theorem take_some (b a : Nat) (c : CSt) (e g f : Int) (fa ma : Option Addr) (fl fc ml mc : Nat) (w : World) (h : zAb w b c) (hn : 1 ≤ c.n) (ha : c.answer = .pointer (some ⟨a, 0, none⟩)) (hA : Blk w a (zBv e g f (.slice fa fl fc) (.slice ma ml mc)) 51) :
  Calls Tryz.prog 13 #[.pointer (some ⟨b, 0, none⟩)] w fun x w' => x = .returned (.tuple #[.agg #[.int .i64 e, .int .i64 g, .int .i64 f, .slice fa fl fc, .slice ma ml mc], .bool true]) ∧ zAb w' b { c with answer := .pointer none } ∧ Touch (fun k => k = b) w w' := by
 have hb := h.1.lt
 have hal := hA.lt
 have h1 : w.cell? ⟨b, 91, none⟩ = some (.pointer (some ⟨a, 0, none⟩)) := by have := h.ft 7; rw [← ha]; exact this
 have f91 : w.frozen? ⟨b, 91, none⟩ = false := h.1.free 91
 have a0 : w.cell? ⟨a, 0, none⟩ = some (.int .i64 e) := hA.cell 0
 have a1 : w.cell? ⟨a, 1, none⟩ = some (.int .i64 g) := hA.cell 1
 have a2 : w.cell? ⟨a, 2, none⟩ = some (.int .i64 f) := hA.cell 2
 have a3 : w.cell? ⟨a, 3, none⟩ = some (.slice fa fl fc) := hA.cell 3
 have a4 : w.cell? ⟨a, 4, none⟩ = some (.slice ma ml mc) := hA.cell 4
 have H := hid h
 clear h ha
 go_enter Tryz.func13, Tryz.ntmps13
 go_wp2_with fail
 refine (zAh b c _ ⟨H.out.1.alloc _, H.out.2⟩ hn).mono ?_
 rintro e w' ⟨rfl, rfl⟩
 go_wp2_with fail
 have h4 := H.out.setFt 7 (.pointer none) { c with answer := .pointer none } rfl rfl rfl
 have t4 := zAa (o := 84 + 7) (Touch.refl (fun k => k = b) w) (.pointer none)
 refine bodyPost_ret (v := .tuple #[.agg #[.int .i64 e, .int .i64 g, .int .i64 f, .slice fa fl fc, .slice ma ml mc], .bool true]) (by simp [results, Tryz.results13, go_sem]) rfl ⟨rfl, ?_, ?_⟩
 ·exact (h4.alloc _).alloc _
 ·exact (t4.alloc _).alloc _
theorem zFQ : (Tryz.prog.info? 102).map (fun i => (i.zero, i.size, i.bytes)) = some (some (entAgg zEnt), 3, 32) := by kernel_rfl
theorem zCp (l : List Ent) (x : Ent) : zAs (l ++ [x]) = zAs l ++ zCB x := by simp [zAs]
theorem zHG : (Tryz.prog.info? 171).map (fun i => (i.zero, i.size, i.bytes)) = some (some (.agg #[.int .i64 0, .int .i64 0, .slice none 0 0]), 3, 40) := by kernel_rfl
def PRow (w : World) : List Prom → List Value → Prop
 | [], cs => cs = []
 | q :: qs, cs => ∃ la lc rest, cs = .int .i64 q.floor :: .int .i64 q.top :: .slice la q.list.length lc :: rest ∧ zBf w la q.list ∧ PRow w qs rest
theorem PRow_snoc {qs : List Prom} (h : PRow w qs cs) {q : Prom} (he : zBf w la q.list) : PRow w (qs ++ [q]) (cs ++ [.int .i64 q.floor, .int .i64 q.top, .slice la q.list.length lc]) := by
 induction qs generalizing cs with
 | nil => simp [PRow] at h; subst h; exact ⟨la, lc, [], rfl, he, rfl⟩
 | cons p qs ih => obtain ⟨la', lc', rest, rfl, h1, hr⟩ := h; exact ⟨la', lc', _, rfl, h1, ih hr⟩
theorem PRow_at {qs : List Prom} (h : PRow w qs cs) (k : Nat) (hk : k < qs.length) :
  ∃ la lc, cs[k * 3]? = some (.int .i64 qs[k].floor) ∧ cs[k * 3 + 1]? = some (.int .i64 qs[k].top) ∧ cs[k * 3 + 2]? = some (.slice la qs[k].list.length lc) ∧ zBf w la qs[k].list := by
 induction qs generalizing cs k with
 | nil => simp at hk
 | cons q qs ih =>
  obtain ⟨la, lc, rest, rfl, h1, hr⟩ := h
  cases k with
  | zero => exact ⟨la, lc, rfl, rfl, rfl, h1⟩
  | succ k =>
   obtain ⟨la', lc', a, b, c, d⟩ := ih hr k (by simpa using hk)
   refine ⟨la', lc', ?_, ?_, ?_, d⟩
   ·rw [show (k + 1) * 3 = k * 3 + 3 by omega]; exact a
   ·rw [show (k + 1) * 3 + 1 = k * 3 + 1 + 3 by omega]; exact b
   ·rw [show (k + 1) * 3 + 2 = k * 3 + 2 + 3 by omega]; exact c
theorem zJp {qs : List Prom} (h : w'.ownsRow base e 3 v qs.length cs) (hr : PRow w qs cs) (hb : Below w.heap.size w w') :
  ∃ ad cap, v = .slice ad qs.length cap ∧ zDg w' ad qs := by
 have h0 := h
 obtain ⟨h1, h2⟩ := h
 rcases h2 with ⟨rfl, h2⟩ | ⟨g, cap, cur, rfl, hg, hbb, hn, hc, hs, ht⟩
 ·have hl : qs = [] := List.length_eq_zero_iff.1 h2
  subst hl
  exact ⟨none, 0, rfl, Or.inl rfl⟩
 ·refine ⟨_, cap, rfl, Or.inr ⟨g, 0, rfl, (h0.lt g rfl).2, fun k hk => ?_⟩⟩
  obtain ⟨la, lc, a, b, c, d⟩ := PRow_at hr k hk
  refine ⟨la, lc, ?_, ?_, ?_, zBO d hb⟩
  ·rw [Nat.zero_add, h0.cellAt (k * 3) (by omega)]; exact a
  ·rw [Nat.zero_add, h0.cellAt (k * 3 + 1) (by omega)]; exact b
  ·rw [Nat.zero_add, h0.cellAt (k * 3 + 2) (by omega)]; exact c
end Go.Proofs.YtaemlplcjjbamaaGreatDoor
