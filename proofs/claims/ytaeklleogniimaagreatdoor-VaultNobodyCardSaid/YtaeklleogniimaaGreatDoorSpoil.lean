/- A byte of a file changed. Conditions: order, sizes. -/
import Derived.Test.YtaeklleogniimaaGreatDoorList
import Derived.Test.YtaeklleogniimaaGreatDoorSetRow
namespace Go.Proofs.YtaeklleogniimaaGreatDoor
open Go.RowKit
set_option linter.unusedVariables false

theorem spoil_none (b : Nat) (S : DSt) (s : ByteArray) (a y : Int) (w : World) (h : DiskAt w b S) (hor : Ordered S.files) (hl : S.files.length ≤ 1000000000) (hf : findF S.files s = none) :
    Calls Tryz.prog 30 #[.pointer (some ⟨b, 0, none⟩), .string s, .int .i64 a, .int .i64 y] w fun e w' => e = .returned (.int .i64 8) ∧ w = w' := by
  have hfi := find_any b S s w h hor hl
  rw [hf] at hfi
  have HF := Lib.hid hfi
  clear h hor hfi hf
  go_enter Tryz.func30, Tryz.ntmps30
  go_wp2_with fail
  refine HF.out.mono ?_
  rintro e w' ⟨rfl, rfl⟩
  go_wp2_with fail
  go_ret
  exact ⟨rfl, rfl⟩
set_option maxHeartbeats 800000 in
theorem spoil_range (b : Nat) (S : DSt) (s : ByteArray) (a y : Int) (f : DFile) (w : World) (h : DiskAt w b S) (hor : Ordered S.files) (hl : S.files.length ≤ 1000000000) (hf : findF S.files s = some f) (ha : a < 0 ∨ (f.last.length : Int) ≤ a) :
    Calls Tryz.prog 30 #[.pointer (some ⟨b, 0, none⟩), .string s, .int .i64 a, .int .i64 y] w fun e w' => e = .returned (.int .i64 2) ∧ w = w' := by
  have hfi := find_any b S s w h hor hl
  rw [hf] at hfi
  have HF := Lib.hid hfi
  have hA := h.fat f (findF_mem hf).1
  obtain ⟨la, lc, hlv⟩ := row_shape hA.last
  have d2 : w.cell? ⟨f.g, 2, none⟩ = some (.slice la f.last.length lc) := by rw [← hlv]; exact hA.blk.cell 2
  clear h hor hfi hf hA hlv
  by_cases h0 : a < 0
  · clear ha
    go_enter Tryz.func30, Tryz.ntmps30
    go_wp2_with fail
    refine HF.out.mono ?_
    rintro e w' ⟨rfl, rfl⟩
    go_wp2_with fail
    go_ret
    exact ⟨rfl, rfl⟩
  · have h1 : (f.last.length : Int) ≤ a := by omega
    clear ha
    go_enter Tryz.func30, Tryz.ntmps30
    go_wp2_with fail
    refine HF.out.mono ?_
    rintro e w' ⟨rfl, rfl⟩
    go_wp2_with fail
    go_ret
    exact ⟨rfl, rfl⟩
def byteOf (y : Int) : UInt8 := UInt8.ofNat (y % 256).toNat
theorem bits_byte (x : UInt8) (y : Int) : bits .xor .u8 (x.toNat : Int) (y % 256) = (((x ^^^ byteOf y).toNat : Nat) : Int) := by
  obtain ⟨c, hc⟩ := Int.eq_ofNat_of_zero_le (Int.emod_nonneg y (show (256 : Int) ≠ 0 by decide))
  have hc2 : c < 256 := by have := Int.emod_lt_of_pos y (show (0 : Int) < 256 by decide); omega
  have hx := x.toNat_lt
  have hcu : (UInt8.ofNat c).toNat = c := by rw [UInt8.toNat_ofNat']; omega
  unfold byteOf
  rw [hc, Int.toNat_natCast, UInt8.toNat_xor, hcu]
  have h0 : x.toNat ^^^ c < 2 ^ 8 := Nat.xor_lt_two_pow (by omega) (by omega)
  have h1 : (BitVec.ofInt 8 (x.toNat : Int)).toNat = x.toNat := by
    rw [BitVec.ofInt_natCast, BitVec.toNat_ofNat]; exact Nat.mod_eq_of_lt (by omega)
  have h2 : (BitVec.ofInt 8 (c : Int)).toNat = c := by
    rw [BitVec.ofInt_natCast, BitVec.toNat_ofNat]; exact Nat.mod_eq_of_lt (by omega)
  show IntKind.u8.wrap ((BitVec.ofInt 8 (x.toNat : Int) ^^^ BitVec.ofInt 8 (c : Int)).toNat : Int) = _
  rw [BitVec.toNat_xor, h1, h2]
  simp only [IntKind.wrap, IntKind.bits, IntKind.signed]
  simp
  omega
theorem FileAt.setLast {w : World} {f : DFile} {g lc a : Nat} (h : FileAt w f) (hlv : f.lv = .slice (some ⟨g, 0, none⟩) f.last.length lc) (ha : a < f.last.length) (x : UInt8) :
    FileAt (w.setCell ⟨g, a, none⟩ (.int .u8 (x.toNat : Int))) { f with last := f.last.set a x } := by
  have hob : f.lv.ownBlock = some g := by rw [hlv]; rfl
  have hl := h.last
  have hne := row_ne h.last h.blk (by decide)
  refine ⟨h.blk.set_other (a := ⟨g, a, none⟩) (fun e => hne (by rw [hob, e])) _, ?_, ownsRow_setCell_other h.seen (a := ⟨g, a, none⟩) (h.own g hob) _, h.own⟩
  show (w.setCell _ _).ownsRow 0 _ 1 f.lv (f.last.set a x).length (bytesVals (f.last.set a x))
  rw [List.length_set, ← bytes_set, hlv]
  rw [hlv] at hl
  exact row_setCell hl ha _
theorem FileAt.setSeen {w : World} {f : DFile} {g sc a : Nat} (h : FileAt w f) (hsv : f.sv = .slice (some ⟨g, 0, none⟩) f.seen.length sc) (ha : a < f.seen.length) (x : UInt8) :
    FileAt (w.setCell ⟨g, a, none⟩ (.int .u8 (x.toNat : Int))) { f with seen := f.seen.set a x } := by
  have hob : f.sv.ownBlock = some g := by rw [hsv]; rfl
  have hl := h.seen
  have hne := row_ne h.seen h.blk (by decide)
  refine ⟨h.blk.set_other (a := ⟨g, a, none⟩) (fun e => hne (by rw [hob, e])) _, ownsRow_setCell_other h.last (a := ⟨g, a, none⟩) (fun e => h.own g e hob) _, ?_, h.own⟩
  show (w.setCell _ _).ownsRow 0 _ 1 f.sv (f.seen.set a x).length (bytesVals (f.seen.set a x))
  rw [List.length_set, ← bytes_set, hsv]
  rw [hsv] at hl
  exact row_setCell hl ha _
theorem FileAt.lastCell {w : World} {f : DFile} {a : Nat} (h : FileAt w f) (ha : a < f.last.length) : ∃ g lc, f.lv = .slice (some ⟨g, 0, none⟩) f.last.length lc ∧ w.cell? ⟨g, a, none⟩ = some (.int .u8 ((f.last[a].toNat : Nat) : Int)) ∧ w.frozen? ⟨g, a, none⟩ = false ∧ f.g ≠ g := by
  obtain ⟨la, lc, hlv, _, _, _, hnil, hsome⟩ := row_open h.last
  cases la with
  | none => have := hnil rfl; omega
  | some x =>
    obtain ⟨g, rfl, hg1, hg2, hcell⟩ := hsome x rfl
    have hl := h.last
    rw [hlv] at hl
    refine ⟨g, lc, hlv, by rw [hcell a ha, bytesVals, List.getElem?_map, List.getElem?_eq_getElem ha]; rfl, row_free hl a, fun e => row_ne h.last h.blk (by decide) (by rw [hlv, e]; rfl)⟩
theorem FileAt.seenCell {w : World} {f : DFile} {a : Nat} (h : FileAt w f) (ha : a < f.seen.length) : ∃ g lc, f.sv = .slice (some ⟨g, 0, none⟩) f.seen.length lc ∧ w.cell? ⟨g, a, none⟩ = some (.int .u8 ((f.seen[a].toNat : Nat) : Int)) ∧ w.frozen? ⟨g, a, none⟩ = false ∧ f.g ≠ g := by
  obtain ⟨la, lc, hlv, _, _, _, hnil, hsome⟩ := row_open h.seen
  cases la with
  | none => have := hnil rfl; omega
  | some x =>
    obtain ⟨g, rfl, hg1, hg2, hcell⟩ := hsome x rfl
    have hl := h.seen
    rw [hlv] at hl
    refine ⟨g, lc, hlv, by rw [hcell a ha, bytesVals, List.getElem?_map, List.getElem?_eq_getElem ha]; rfl, row_free hl a, fun e => row_ne h.seen h.blk (by decide) (by rw [hlv, e]; rfl)⟩
/-- a byte changed -/
def bentAt (l : List UInt8) (a : Nat) (y : Int) : List UInt8 := l.set a (l.getD a 0 ^^^ byteOf y)
theorem bentAt_in {l : List UInt8} {a : Nat} (h : a < l.length) (y : Int) : bentAt l a y = l.set a (l[a] ^^^ byteOf y) := by
  unfold bentAt; rw [List.getD, List.getElem?_eq_getElem h]; rfl
theorem bentAt_out {l : List UInt8} {a : Nat} (h : l.length ≤ a) (y : Int) : bentAt l a y = l := by
  unfold bentAt; exact List.set_eq_of_length_le h
def bentF (a : Nat) (y : Int) (f : DFile) : DFile := { f with last := bentAt f.last a y, seen := bentAt f.seen a y }
set_option maxHeartbeats 800000 in
theorem spoil_last (b : Nat) (S : DSt) (s : ByteArray) (a : Nat) (y : Int) (i : Nat) (hi : i < S.files.length) (w : World) (h : DiskAt w b S) (hor : Ordered S.files) (hl : S.files.length ≤ 1000000000) (hf : findF S.files s = some S.files[i]) (ha : a < S.files[i].last.length) (hs : S.files[i].seen.length ≤ a) :
    Calls Tryz.prog 30 #[.pointer (some ⟨b, 0, none⟩), .string s, .int .i64 (a : Int), .int .i64 y] w fun e w' => e = .returned (.int .i64 0) ∧ Dev b S w { S with files := S.files.set i (bentF a y S.files[i]) } w' := by
  have hfi := find_any b S s w h hor hl
  rw [hf] at hfi
  have HF := Lib.hid hfi
  have hA := h.fat _ (findF_mem hf).1
  obtain ⟨g, lc, hlv, dc, fr, hne⟩ := hA.lastCell ha
  obtain ⟨sa, sc, hsv⟩ := row_shape hA.seen
  have d2 : w.cell? ⟨S.files[i].g, 2, none⟩ = some (.slice (some ⟨g, 0, none⟩) S.files[i].last.length lc) := by rw [← hlv]; exact hA.blk.cell 2
  have d3 : w.cell? ⟨S.files[i].g, 3, none⟩ = some (.slice sa S.files[i].seen.length sc) := by rw [← hsv]; exact hA.blk.cell 3
  have hb := bits_byte S.files[i].last[a] y
  have hfin : Dev b S w { S with files := S.files.set i (bentF a y S.files[i]) } (w.setCell ⟨g, a, none⟩ (.int .u8 (((S.files[i].last[a] ^^^ byteOf y).toNat : Nat) : Int))) := by
    have hF := hA.setLast hlv ha (S.files[i].last[a] ^^^ byteOf y)
    have e : bentF a y S.files[i] = { S.files[i] with last := S.files[i].last.set a (S.files[i].last[a] ^^^ byteOf y) } := by
      unfold bentF
      rw [bentAt_in ha, bentAt_out hs]
    rw [e]
    refine Dev.setFile h i hi _ rfl hF ((touch1_set (Touch.refl (fun k => k = g) w) _).mono ?_) (fun k hk => Or.inl hk)
    rintro k _ rfl
    exact Or.inr (Or.inl (by rw [hlv]; rfl))
  have HFIN := Lib.hid hfin
  generalize S.files[i].last[a] = x at *
  generalize hv : (((x ^^^ byteOf y).toNat : Nat) : Int) = v at *
  clear h hor hfi hf hA hlv hsv hfin hv
  generalize S.files[i] = f at *
  go_enter Tryz.func30, Tryz.ntmps30
  go_wp2_with fail
  refine HF.out.mono ?_
  rintro e w' ⟨rfl, rfl⟩
  go_wp2_with fail
  go_ret
  exact ⟨rfl, HFIN.out⟩
set_option maxHeartbeats 800000 in
theorem spoil_both (b : Nat) (S : DSt) (s : ByteArray) (a : Nat) (y : Int) (i : Nat) (hi : i < S.files.length) (w : World) (h : DiskAt w b S) (hor : Ordered S.files) (hl : S.files.length ≤ 1000000000) (hf : findF S.files s = some S.files[i]) (ha : a < S.files[i].last.length) (hs : a < S.files[i].seen.length) :
    Calls Tryz.prog 30 #[.pointer (some ⟨b, 0, none⟩), .string s, .int .i64 (a : Int), .int .i64 y] w fun e w' => e = .returned (.int .i64 0) ∧ Dev b S w { S with files := S.files.set i (bentF a y S.files[i]) } w' := by
  have hfi := find_any b S s w h hor hl
  rw [hf] at hfi
  have HF := Lib.hid hfi
  have hA := h.fat _ (findF_mem hf).1
  obtain ⟨g, lc, hlv, dc, fr, hne⟩ := hA.lastCell ha
  obtain ⟨g2, sc, hsv, ds, fr2, hne2⟩ := hA.seenCell hs
  have hgg : g ≠ g2 := fun e => hA.own g (by rw [hlv]; rfl) (by rw [hsv, e]; rfl)
  have d2 : w.cell? ⟨S.files[i].g, 2, none⟩ = some (.slice (some ⟨g, 0, none⟩) S.files[i].last.length lc) := by rw [← hlv]; exact hA.blk.cell 2
  have d3 : w.cell? ⟨S.files[i].g, 3, none⟩ = some (.slice (some ⟨g2, 0, none⟩) S.files[i].seen.length sc) := by rw [← hsv]; exact hA.blk.cell 3
  have hb := bits_byte S.files[i].last[a] y
  have hb2 := bits_byte S.files[i].seen[a] y
  have hfin : Dev b S w { S with files := S.files.set i (bentF a y S.files[i]) } ((w.setCell ⟨g, a, none⟩ (.int .u8 (((S.files[i].last[a] ^^^ byteOf y).toNat : Nat) : Int))).setCell ⟨g2, a, none⟩ (.int .u8 (((S.files[i].seen[a] ^^^ byteOf y).toNat : Nat) : Int))) := by
    have hF := hA.setLast hlv ha (S.files[i].last[a] ^^^ byteOf y)
    have hF2 := hF.setSeen hsv hs (S.files[i].seen[a] ^^^ byteOf y)
    have e : bentF a y S.files[i] = { S.files[i] with last := S.files[i].last.set a (S.files[i].last[a] ^^^ byteOf y), seen := S.files[i].seen.set a (S.files[i].seen[a] ^^^ byteOf y) } := by
      unfold bentF
      rw [bentAt_in ha, bentAt_in hs]
    rw [e]
    have T : Touch (fun k => k = g ∨ k = g2) w ((w.setCell ⟨g, a, none⟩ (.int .u8 (((S.files[i].last[a] ^^^ byteOf y).toNat : Nat) : Int))).setCell ⟨g2, a, none⟩ (.int .u8 (((S.files[i].seen[a] ^^^ byteOf y).toNat : Nat) : Int))) :=
      ((Touch.refl (fun k => k = g ∨ k = g2) w).set (p := ⟨g, a, none⟩) (Or.inl (Or.inl rfl)) _).set (p := ⟨g2, a, none⟩) (Or.inl (Or.inr rfl)) _
    refine Dev.setFile h i hi _ rfl hF2 (T.mono ?_) (fun k hk => Or.inl hk)
    rintro k _ (rfl | rfl)
    · exact Or.inr (Or.inl (by rw [hlv]; rfl))
    · exact Or.inr (Or.inr (by rw [hsv]; rfl))
  have HFIN := Lib.hid hfin
  generalize S.files[i].last[a] = x at *
  generalize S.files[i].seen[a] = z at *
  generalize hv : (((x ^^^ byteOf y).toNat : Nat) : Int) = v at *
  generalize hu : (((z ^^^ byteOf y).toNat : Nat) : Int) = u at *
  clear h hor hfi hf hA hlv hsv hfin hv hu
  generalize S.files[i] = f at *
  go_enter Tryz.func30, Tryz.ntmps30
  go_wp2_with fail
  refine HF.out.mono ?_
  rintro e w' ⟨rfl, rfl⟩
  go_wp2_with fail
  go_ret
  exact ⟨rfl, HFIN.out⟩
end Go.Proofs.YtaeklleogniimaaGreatDoor
