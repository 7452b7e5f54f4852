/- The walks of a coordinator's Handle in whatever state, the o -/
import Derived.Test.YtaemlplcjjbamaaGreatDoorBGHandle
namespace Go.Proofs.YtaemlplcjjbamaaGreatDoor
open Go.Lib (hid)
set_option maxRecDepth 100000
set_option maxHeartbeats 8000000
open Go Go.RowKit
set_option linter.unusedVariables false
variable {Z c kb mb n : Nat} {bal id : Int} {w w' w0 : World} {x y z : List Nat}
theorem zHI {G : Gh} {D : Dt} {S : CSt} (h : Gc w0 c kb mb n id bal G Z D S w) (v : Nat) (gen basis fl tp rd pa po : Int) (mk pt : ByteArray) (la : Option Addr) (ll lc : Nat) (hv : v < n) (hph : S.phase = 2)  :
  Calls Tryz.prog 47 #[.pointer (some ⟨c, 0, none⟩), .agg #[.int .i64 5, .int .i64 (v : Int), .int .i64 S.id, .int .i64 S.ballot, .int .i64 gen, .int .i64 basis, .int .i64 fl, .int .i64 tp, .int .i64 rd, .string mk, .int .i64 pa, .int .i64 po, .string pt, .slice la ll lc]] w (GDone w0 c kb mb n id bal G Z w) := by
 have hbl := h.at_.1.lt
 have hn1 := h.gf.n1
 have hn9 := h.gf.n9
 have c0 : w.cell? ⟨c, 0, none⟩ = some (.int .i64 S.id) := h.at_.hd 0 (by omega)
 have c1 : w.cell? ⟨c, 1, none⟩ = some (.int .i64 (n : Int)) := by rw [← h.gf.n_]; exact h.at_.hd 1 (by omega)
 have c3 : w.cell? ⟨c, 3, none⟩ = some (.int .i64 S.ballot) := h.at_.hd 3 (by omega)
 have c4 : w.cell? ⟨c, 4, none⟩ = some (.int .i64 2) := by rw [← hph]; exact h.at_.hd 4 (by omega)
 have Hn := hid (show 1 ≤ S.n by rw [h.gf.n_]; omega)
 have H0 := hid h
 have Hat1 := hid (h.at_.alloc (.cells #[.int .i64 5, .int .i64 (v : Int), .int .i64 S.id, .int .i64 S.ballot, .int .i64 gen, .int .i64 basis, .int .i64 fl, .int .i64 tp, .int .i64 rd, .string mk, .int .i64 pa, .int .i64 po, .string pt, .slice la ll lc] 30))
 have HB := hid ((Below.refl w.heap.size w).alloc (Nat.le_refl _) (.cells #[.int .i64 5, .int .i64 (v : Int), .int .i64 S.id, .int .i64 S.ballot, .int .i64 gen, .int .i64 basis, .int .i64 fl, .int .i64 tp, .int .i64 rd, .string mk, .int .i64 pa, .int .i64 po, .string pt, .slice la ll lc] 30))
 have HQ := hid (Blk.new w [.int .i64 5, .int .i64 (v : Int), .int .i64 S.id, .int .i64 S.ballot, .int .i64 gen, .int .i64 basis, .int .i64 fl, .int .i64 tp, .int .i64 rd, .string mk, .int .i64 pa, .int .i64 po, .string pt, .slice la ll lc] 30)
 have e1 : (S.id != S.id) = false := by simp
 have e2 : (S.ballot != S.ballot) = false := by simp
 have e3 : (S.ballot == S.ballot) = true := by simp
 have hv0 : ¬ (v : Int) < 0 := by omega
 have hv3 : ¬ (n : Int) ≤ (v : Int) := by omega
 have hv4 : (v : Int) < (n : Int) := by omega
 have HD := hid (fun w1 (hb : Below w.heap.size w w1) => gc_got (h.quiet hb) v 5 S.id S.ballot gen basis fl tp rd pa po mk pt (.slice la ll lc) (by omega))
 clear h hph
 go_enter Tryz.func47, Tryz.ntmps47
 go_wp2
 go_quiet ((go_at_call 18; first | exact zAf (zAh c S _ (Hat1.out.drewN _) Hn.out) | exact quiet_add_left (zAh c S _ (Hat1.out.drewN _) Hn.out)))
 go_wp2_with fail
 go_quiet (fail)
 go_wp2_with fail
 refine (HD.out _ (below_drewN HB.out _)).mono ?_
 rintro e w2 ⟨rfl, hG, hF⟩
 have HO := hid (And.intro hG hF)
 clear hG hF
 go_wp2_with fail
 go_end0
 exact GDone.step (below_drewN HB.out _) HO.out.1 HO.out.2
theorem zGC {G : Gh} {D : Dt} {S : CSt} (h : Gc w0 c kb mb n id bal G Z D S w) (v : Nat) (gen basis fl tp rd pa po : Int) (mk pt : ByteArray) (la : Option Addr) (ll lc : Nat) (hv : v < n) (hph : S.phase = 2)  :
  Calls Tryz.prog 47 #[.pointer (some ⟨c, 0, none⟩), .agg #[.int .i64 6, .int .i64 (v : Int), .int .i64 S.id, .int .i64 S.ballot, .int .i64 gen, .int .i64 basis, .int .i64 fl, .int .i64 tp, .int .i64 rd, .string mk, .int .i64 pa, .int .i64 po, .string pt, .slice la ll lc]] w (GDone w0 c kb mb n id bal G Z w) := by
 have hbl := h.at_.1.lt
 have hn1 := h.gf.n1
 have hn9 := h.gf.n9
 have c0 : w.cell? ⟨c, 0, none⟩ = some (.int .i64 S.id) := h.at_.hd 0 (by omega)
 have c1 : w.cell? ⟨c, 1, none⟩ = some (.int .i64 (n : Int)) := by rw [← h.gf.n_]; exact h.at_.hd 1 (by omega)
 have c3 : w.cell? ⟨c, 3, none⟩ = some (.int .i64 S.ballot) := h.at_.hd 3 (by omega)
 have c4 : w.cell? ⟨c, 4, none⟩ = some (.int .i64 2) := by rw [← hph]; exact h.at_.hd 4 (by omega)
 have Hn := hid (show 1 ≤ S.n by rw [h.gf.n_]; omega)
 have H0 := hid h
 have Hat1 := hid (h.at_.alloc (.cells #[.int .i64 6, .int .i64 (v : Int), .int .i64 S.id, .int .i64 S.ballot, .int .i64 gen, .int .i64 basis, .int .i64 fl, .int .i64 tp, .int .i64 rd, .string mk, .int .i64 pa, .int .i64 po, .string pt, .slice la ll lc] 30))
 have HB := hid ((Below.refl w.heap.size w).alloc (Nat.le_refl _) (.cells #[.int .i64 6, .int .i64 (v : Int), .int .i64 S.id, .int .i64 S.ballot, .int .i64 gen, .int .i64 basis, .int .i64 fl, .int .i64 tp, .int .i64 rd, .string mk, .int .i64 pa, .int .i64 po, .string pt, .slice la ll lc] 30))
 have HQ := hid (Blk.new w [.int .i64 6, .int .i64 (v : Int), .int .i64 S.id, .int .i64 S.ballot, .int .i64 gen, .int .i64 basis, .int .i64 fl, .int .i64 tp, .int .i64 rd, .string mk, .int .i64 pa, .int .i64 po, .string pt, .slice la ll lc] 30)
 have e1 : (S.id != S.id) = false := by simp
 have e2 : (S.ballot != S.ballot) = false := by simp
 have e3 : (S.ballot == S.ballot) = true := by simp
 have hv0 : ¬ (v : Int) < 0 := by omega
 have hv3 : ¬ (n : Int) ≤ (v : Int) := by omega
 have hv4 : (v : Int) < (n : Int) := by omega
 have HD := hid (fun w1 (hb : Below w.heap.size w w1) => zHu (h.quiet hb) v 6 S.id S.ballot gen basis fl tp rd pa po mk pt (.slice la ll lc) (by omega))
 clear h hph
 go_enter Tryz.func47, Tryz.ntmps47
 go_wp2
 go_quiet ((go_at_call 18; first | exact zAf (zAh c S _ (Hat1.out.drewN _) Hn.out) | exact quiet_add_left (zAh c S _ (Hat1.out.drewN _) Hn.out)))
 go_wp2_with fail
 go_quiet (fail)
 go_wp2_with fail
 refine (HD.out _ (below_drewN HB.out _)).mono ?_
 rintro e w2 ⟨rfl, hG, hF⟩
 have HO := hid (And.intro hG hF)
 clear hG hF
 go_wp2_with fail
 go_end0
 exact GDone.step (below_drewN HB.out _) HO.out.1 HO.out.2
theorem zGQ {G : Gh} {D : Dt} {S : CSt} (h : Gc w0 c kb mb n id bal G Z D S w) (v : Nat) (gen basis fl tp rd pa po : Int) (mk pt : ByteArray) (la : Option Addr) (ll lc : Nat) (hv : v < n) (hph : S.phase = 2) (hb0 : S.ballot ≠ 0) :
  Calls Tryz.prog 47 #[.pointer (some ⟨c, 0, none⟩), .agg #[.int .i64 6, .int .i64 (v : Int), .int .i64 S.id, .int .i64 0, .int .i64 gen, .int .i64 basis, .int .i64 fl, .int .i64 tp, .int .i64 rd, .string mk, .int .i64 pa, .int .i64 po, .string pt, .slice la ll lc]] w (GDone w0 c kb mb n id bal G Z w) := by
 have hbl := h.at_.1.lt
 have hn1 := h.gf.n1
 have hn9 := h.gf.n9
 have c0 : w.cell? ⟨c, 0, none⟩ = some (.int .i64 S.id) := h.at_.hd 0 (by omega)
 have c1 : w.cell? ⟨c, 1, none⟩ = some (.int .i64 (n : Int)) := by rw [← h.gf.n_]; exact h.at_.hd 1 (by omega)
 have c3 : w.cell? ⟨c, 3, none⟩ = some (.int .i64 S.ballot) := h.at_.hd 3 (by omega)
 have c4 : w.cell? ⟨c, 4, none⟩ = some (.int .i64 2) := by rw [← hph]; exact h.at_.hd 4 (by omega)
 have Hn := hid (show 1 ≤ S.n by rw [h.gf.n_]; omega)
 have H0 := hid h
 have Hat1 := hid (h.at_.alloc (.cells #[.int .i64 6, .int .i64 (v : Int), .int .i64 S.id, .int .i64 0, .int .i64 gen, .int .i64 basis, .int .i64 fl, .int .i64 tp, .int .i64 rd, .string mk, .int .i64 pa, .int .i64 po, .string pt, .slice la ll lc] 30))
 have HB := hid ((Below.refl w.heap.size w).alloc (Nat.le_refl _) (.cells #[.int .i64 6, .int .i64 (v : Int), .int .i64 S.id, .int .i64 0, .int .i64 gen, .int .i64 basis, .int .i64 fl, .int .i64 tp, .int .i64 rd, .string mk, .int .i64 pa, .int .i64 po, .string pt, .slice la ll lc] 30))
 have HQ := hid (Blk.new w [.int .i64 6, .int .i64 (v : Int), .int .i64 S.id, .int .i64 0, .int .i64 gen, .int .i64 basis, .int .i64 fl, .int .i64 tp, .int .i64 rd, .string mk, .int .i64 pa, .int .i64 po, .string pt, .slice la ll lc] 30)
 have e1 : (S.id != S.id) = false := by simp
 have e2 : (S.ballot != S.ballot) = false := by simp
 have e3 : (S.ballot == S.ballot) = true := by simp
 have hv0 : ¬ (v : Int) < 0 := by omega
 have hv3 : ¬ (n : Int) ≤ (v : Int) := by omega
 have hv4 : (v : Int) < (n : Int) := by omega
 have HD := hid (fun w1 (hb : Below w.heap.size w w1) => zHu (h.quiet hb) v 6 S.id 0 gen basis fl tp rd pa po mk pt (.slice la ll lc) (by omega))
 have e4 : ((0 : Int) != S.ballot) = true := by rw [bne_iff_ne]; exact fun e => hb0 e.symm
 clear h hph hb0
 go_enter Tryz.func47, Tryz.ntmps47
 go_wp2
 go_quiet ((go_at_call 18; first | exact zAf (zAh c S _ (Hat1.out.drewN _) Hn.out) | exact quiet_add_left (zAh c S _ (Hat1.out.drewN _) Hn.out)))
 go_wp2_with fail
 go_quiet (fail)
 go_wp2_with fail
 refine (HD.out _ (below_drewN HB.out _)).mono ?_
 rintro e w2 ⟨rfl, hG, hF⟩
 have HO := hid (And.intro hG hF)
 clear hG hF
 go_wp2_with fail
 go_end0
 exact GDone.step (below_drewN HB.out _) HO.out.1 HO.out.2
theorem zIf {G : Gh} {D : Dt} {S : CSt} (h : Gc w0 c kb mb n id bal G Z D S w) (v : Nat) (gen basis fl tp rd pa po : Int) (mk pt : ByteArray) (la : Option Addr) (ll lc : Nat) (hv : v < n) (hph : S.phase = 2) (hZ : Z ≤ 100000) (hvote : G.VA gen mk v) :
  Calls Tryz.prog 47 #[.pointer (some ⟨c, 0, none⟩), .agg #[.int .i64 8, .int .i64 (v : Int), .int .i64 S.id, .int .i64 S.ballot, .int .i64 gen, .int .i64 basis, .int .i64 fl, .int .i64 tp, .int .i64 rd, .string mk, .int .i64 pa, .int .i64 po, .string pt, .slice la ll lc]] w (GDone w0 c kb mb n id bal G (Z + 1) w) := by
 have hbl := h.at_.1.lt
 have hn1 := h.gf.n1
 have hn9 := h.gf.n9
 have c0 : w.cell? ⟨c, 0, none⟩ = some (.int .i64 S.id) := h.at_.hd 0 (by omega)
 have c1 : w.cell? ⟨c, 1, none⟩ = some (.int .i64 (n : Int)) := by rw [← h.gf.n_]; exact h.at_.hd 1 (by omega)
 have c3 : w.cell? ⟨c, 3, none⟩ = some (.int .i64 S.ballot) := h.at_.hd 3 (by omega)
 have c4 : w.cell? ⟨c, 4, none⟩ = some (.int .i64 2) := by rw [← hph]; exact h.at_.hd 4 (by omega)
 have Hn := hid (show 1 ≤ S.n by rw [h.gf.n_]; omega)
 have H0 := hid h
 have Hat1 := hid (h.at_.alloc (.cells #[.int .i64 8, .int .i64 (v : Int), .int .i64 S.id, .int .i64 S.ballot, .int .i64 gen, .int .i64 basis, .int .i64 fl, .int .i64 tp, .int .i64 rd, .string mk, .int .i64 pa, .int .i64 po, .string pt, .slice la ll lc] 30))
 have HB := hid ((Below.refl w.heap.size w).alloc (Nat.le_refl _) (.cells #[.int .i64 8, .int .i64 (v : Int), .int .i64 S.id, .int .i64 S.ballot, .int .i64 gen, .int .i64 basis, .int .i64 fl, .int .i64 tp, .int .i64 rd, .string mk, .int .i64 pa, .int .i64 po, .string pt, .slice la ll lc] 30))
 have HQ := hid (Blk.new w [.int .i64 8, .int .i64 (v : Int), .int .i64 S.id, .int .i64 S.ballot, .int .i64 gen, .int .i64 basis, .int .i64 fl, .int .i64 tp, .int .i64 rd, .string mk, .int .i64 pa, .int .i64 po, .string pt, .slice la ll lc] 30)
 have e1 : (S.id != S.id) = false := by simp
 have e2 : (S.ballot != S.ballot) = false := by simp
 have e3 : (S.ballot == S.ballot) = true := by simp
 have hv0 : ¬ (v : Int) < 0 := by omega
 have hv3 : ¬ (n : Int) ≤ (v : Int) := by omega
 have hv4 : (v : Int) < (n : Int) := by omega
 have HD := hid (fun w1 (hb : Below w.heap.size w w1) => zJt (h.quiet hb) hZ v 8 S.id S.ballot gen basis fl tp rd pa po mk pt (.slice la ll lc) hvote)
 clear h hph
 go_enter Tryz.func47, Tryz.ntmps47
 go_wp2
 go_quiet ((go_at_call 18; first | exact zAf (zAh c S _ (Hat1.out.drewN _) Hn.out) | exact quiet_add_left (zAh c S _ (Hat1.out.drewN _) Hn.out)))
 go_wp2_with fail
 go_quiet (fail)
 go_wp2_with fail
 refine (HD.out _ (below_drewN HB.out _)).mono ?_
 rintro e w2 ⟨rfl, hG, hF⟩
 have HO := hid (And.intro hG hF)
 clear hG hF
 go_wp2_with fail
 go_end0
 exact GDone.step (below_drewN HB.out _) HO.out.1 HO.out.2
theorem zFD {G : Gh} {D : Dt} {S : CSt} (h : Gc w0 c kb mb n id bal G Z D S w) (v : Nat) (gen basis fl tp rd pa po : Int) (mk pt : ByteArray) (la : Option Addr) (ll lc : Nat) (hv : v < n) (hph : S.phase = 2)  :
  Calls Tryz.prog 47 #[.pointer (some ⟨c, 0, none⟩), .agg #[.int .i64 17, .int .i64 (v : Int), .int .i64 S.id, .int .i64 S.ballot, .int .i64 gen, .int .i64 basis, .int .i64 fl, .int .i64 tp, .int .i64 rd, .string mk, .int .i64 pa, .int .i64 po, .string pt, .slice la ll lc]] w (GDone w0 c kb mb n id bal G Z w) := by
 have hbl := h.at_.1.lt
 have hn1 := h.gf.n1
 have hn9 := h.gf.n9
 have c0 : w.cell? ⟨c, 0, none⟩ = some (.int .i64 S.id) := h.at_.hd 0 (by omega)
 have c1 : w.cell? ⟨c, 1, none⟩ = some (.int .i64 (n : Int)) := by rw [← h.gf.n_]; exact h.at_.hd 1 (by omega)
 have c3 : w.cell? ⟨c, 3, none⟩ = some (.int .i64 S.ballot) := h.at_.hd 3 (by omega)
 have c4 : w.cell? ⟨c, 4, none⟩ = some (.int .i64 2) := by rw [← hph]; exact h.at_.hd 4 (by omega)
 have Hn := hid (show 1 ≤ S.n by rw [h.gf.n_]; omega)
 have H0 := hid h
 have Hat1 := hid (h.at_.alloc (.cells #[.int .i64 17, .int .i64 (v : Int), .int .i64 S.id, .int .i64 S.ballot, .int .i64 gen, .int .i64 basis, .int .i64 fl, .int .i64 tp, .int .i64 rd, .string mk, .int .i64 pa, .int .i64 po, .string pt, .slice la ll lc] 30))
 have HB := hid ((Below.refl w.heap.size w).alloc (Nat.le_refl _) (.cells #[.int .i64 17, .int .i64 (v : Int), .int .i64 S.id, .int .i64 S.ballot, .int .i64 gen, .int .i64 basis, .int .i64 fl, .int .i64 tp, .int .i64 rd, .string mk, .int .i64 pa, .int .i64 po, .string pt, .slice la ll lc] 30))
 have HQ := hid (Blk.new w [.int .i64 17, .int .i64 (v : Int), .int .i64 S.id, .int .i64 S.ballot, .int .i64 gen, .int .i64 basis, .int .i64 fl, .int .i64 tp, .int .i64 rd, .string mk, .int .i64 pa, .int .i64 po, .string pt, .slice la ll lc] 30)
 have e1 : (S.id != S.id) = false := by simp
 have e2 : (S.ballot != S.ballot) = false := by simp
 have e3 : (S.ballot == S.ballot) = true := by simp
 have hv0 : ¬ (v : Int) < 0 := by omega
 have hv3 : ¬ (n : Int) ≤ (v : Int) := by omega
 have hv4 : (v : Int) < (n : Int) := by omega
 have HD := hid (fun w1 (hb : Below w.heap.size w w1) => gc_full (h.quiet hb) v 17 S.id S.ballot gen basis fl tp rd pa po mk pt (.slice la ll lc))
 clear h hph
 go_enter Tryz.func47, Tryz.ntmps47
 go_wp2
 go_quiet ((go_at_call 18; first | exact zAf (zAh c S _ (Hat1.out.drewN _) Hn.out) | exact quiet_add_left (zAh c S _ (Hat1.out.drewN _) Hn.out)))
 go_wp2_with fail
 go_quiet (fail)
 go_wp2_with fail
 refine (HD.out _ (below_drewN HB.out _)).mono ?_
 rintro e w2 ⟨rfl, hG, hF⟩
 have HO := hid (And.intro hG hF)
 clear hG hF
 go_wp2_with fail
 go_end0
 exact GDone.step (below_drewN HB.out _) HO.out.1 HO.out.2
theorem zJo {G : Gh} {D : Dt} {S : CSt} (h : Gc w0 c kb mb n id bal G Z D S w) (kind : Int) (v : Nat) (bl : Int) (gen basis fl tp rd pa po : Int) (mk pt : ByteArray) (la : Option Addr) (ll lc : Nat) (hv : v < n) (hph : S.phase = 2) (hk3 : (kind == 3) = false) (hk14 : (kind == 14) = false) (hk10 : (kind == 10) = false) (hbl2 : bl ≠ S.ballot) (hno : kind ≠ 6 ∨ bl ≠ 0) :
  Calls Tryz.prog 47 #[.pointer (some ⟨c, 0, none⟩), .agg #[.int .i64 kind, .int .i64 (v : Int), .int .i64 S.id, .int .i64 bl, .int .i64 gen, .int .i64 basis, .int .i64 fl, .int .i64 tp, .int .i64 rd, .string mk, .int .i64 pa, .int .i64 po, .string pt, .slice la ll lc]] w (GDone w0 c kb mb n id bal G Z w) := by
 have hbl := h.at_.1.lt
 have hn1 := h.gf.n1
 have hn9 := h.gf.n9
 have c0 : w.cell? ⟨c, 0, none⟩ = some (.int .i64 S.id) := h.at_.hd 0 (by omega)
 have c1 : w.cell? ⟨c, 1, none⟩ = some (.int .i64 (n : Int)) := by rw [← h.gf.n_]; exact h.at_.hd 1 (by omega)
 have c3 : w.cell? ⟨c, 3, none⟩ = some (.int .i64 S.ballot) := h.at_.hd 3 (by omega)
 have c4 : w.cell? ⟨c, 4, none⟩ = some (.int .i64 2) := by rw [← hph]; exact h.at_.hd 4 (by omega)
 have Hn := hid (show 1 ≤ S.n by rw [h.gf.n_]; omega)
 have H0 := hid h
 have Hat1 := hid (h.at_.alloc (.cells #[.int .i64 kind, .int .i64 (v : Int), .int .i64 S.id, .int .i64 bl, .int .i64 gen, .int .i64 basis, .int .i64 fl, .int .i64 tp, .int .i64 rd, .string mk, .int .i64 pa, .int .i64 po, .string pt, .slice la ll lc] 30))
 have HB := hid ((Below.refl w.heap.size w).alloc (Nat.le_refl _) (.cells #[.int .i64 kind, .int .i64 (v : Int), .int .i64 S.id, .int .i64 bl, .int .i64 gen, .int .i64 basis, .int .i64 fl, .int .i64 tp, .int .i64 rd, .string mk, .int .i64 pa, .int .i64 po, .string pt, .slice la ll lc] 30))
 have HQ := hid (Blk.new w [.int .i64 kind, .int .i64 (v : Int), .int .i64 S.id, .int .i64 bl, .int .i64 gen, .int .i64 basis, .int .i64 fl, .int .i64 tp, .int .i64 rd, .string mk, .int .i64 pa, .int .i64 po, .string pt, .slice la ll lc] 30)
 have e1 : (S.id != S.id) = false := by simp
 have e2 : (S.ballot != S.ballot) = false := by simp
 have e3 : (S.ballot == S.ballot) = true := by simp
 have hv0 : ¬ (v : Int) < 0 := by omega
 have hv3 : ¬ (n : Int) ≤ (v : Int) := by omega
 have hv4 : (v : Int) < (n : Int) := by omega
 have hbb : (bl != S.ballot) = true := by rw [bne_iff_ne]; exact hbl2
 clear h hph hbl2
 by_cases h6 : kind = 6
 ·have h6b : (kind != 6) = false := by rw [h6]; rfl
  have hb0 : (bl != 0) = true := by rw [bne_iff_ne]; exact hno.resolve_left (fun x => x h6)
  clear hno h6
  go_enter Tryz.func47, Tryz.ntmps47
  go_wp2
  go_quiet ((go_at_call 18; first | exact zAf (zAh c S _ (Hat1.out.drewN _) Hn.out) | exact quiet_add_left (zAh c S _ (Hat1.out.drewN _) Hn.out)))
  go_wp2_with fail
  go_quiet (fail)
  go_wp2_with fail
  refine bodyPost_ret (results_none rfl _ _ _) rfl ?_
  exact GDone.quiet H0.out (by first | exact below_drewN HB.out _ | exact below_drewN (below_drewN HB.out _) _)
 ·have h6b : (kind != 6) = true := by rw [bne_iff_ne]; exact h6
  clear hno h6
  go_enter Tryz.func47, Tryz.ntmps47
  go_wp2
  go_quiet ((go_at_call 18; first | exact zAf (zAh c S _ (Hat1.out.drewN _) Hn.out) | exact quiet_add_left (zAh c S _ (Hat1.out.drewN _) Hn.out)))
  go_wp2_with fail
  go_quiet (fail)
  go_wp2_with fail
  refine bodyPost_ret (results_none rfl _ _ _) rfl ?_
  exact GDone.quiet H0.out (by first | exact below_drewN HB.out _ | exact below_drewN (below_drewN HB.out _) _)
theorem zGp {G : Gh} {D : Dt} {S : CSt} (h : Gc w0 c kb mb n id bal G Z D S w) (kind : Int) (v : Nat) (gen basis fl tp rd pa po : Int) (mk pt : ByteArray) (la : Option Addr) (ll lc : Nat) (hv : v < n) (hph : S.phase = 2) (hk3 : (kind == 3) = false) (hk14 : (kind == 14) = false) (hk10 : (kind == 10) = false) (hk2 : (kind == 2) = false) (hk16 : (kind == 16) = false) (hk12 : (kind == 12) = false) (hk5 : (kind == 5) = false) (hk6 : (kind == 6) = false) (hk8 : (kind == 8) = false) (hk17 : (kind == 17) = false) :
  Calls Tryz.prog 47 #[.pointer (some ⟨c, 0, none⟩), .agg #[.int .i64 kind, .int .i64 (v : Int), .int .i64 S.id, .int .i64 S.ballot, .int .i64 gen, .int .i64 basis, .int .i64 fl, .int .i64 tp, .int .i64 rd, .string mk, .int .i64 pa, .int .i64 po, .string pt, .slice la ll lc]] w (GDone w0 c kb mb n id bal G Z w) := by
 have hbl := h.at_.1.lt
 have hn1 := h.gf.n1
 have hn9 := h.gf.n9
 have c0 : w.cell? ⟨c, 0, none⟩ = some (.int .i64 S.id) := h.at_.hd 0 (by omega)
 have c1 : w.cell? ⟨c, 1, none⟩ = some (.int .i64 (n : Int)) := by rw [← h.gf.n_]; exact h.at_.hd 1 (by omega)
 have c3 : w.cell? ⟨c, 3, none⟩ = some (.int .i64 S.ballot) := h.at_.hd 3 (by omega)
 have c4 : w.cell? ⟨c, 4, none⟩ = some (.int .i64 2) := by rw [← hph]; exact h.at_.hd 4 (by omega)
 have Hn := hid (show 1 ≤ S.n by rw [h.gf.n_]; omega)
 have H0 := hid h
 have Hat1 := hid (h.at_.alloc (.cells #[.int .i64 kind, .int .i64 (v : Int), .int .i64 S.id, .int .i64 S.ballot, .int .i64 gen, .int .i64 basis, .int .i64 fl, .int .i64 tp, .int .i64 rd, .string mk, .int .i64 pa, .int .i64 po, .string pt, .slice la ll lc] 30))
 have HB := hid ((Below.refl w.heap.size w).alloc (Nat.le_refl _) (.cells #[.int .i64 kind, .int .i64 (v : Int), .int .i64 S.id, .int .i64 S.ballot, .int .i64 gen, .int .i64 basis, .int .i64 fl, .int .i64 tp, .int .i64 rd, .string mk, .int .i64 pa, .int .i64 po, .string pt, .slice la ll lc] 30))
 have HQ := hid (Blk.new w [.int .i64 kind, .int .i64 (v : Int), .int .i64 S.id, .int .i64 S.ballot, .int .i64 gen, .int .i64 basis, .int .i64 fl, .int .i64 tp, .int .i64 rd, .string mk, .int .i64 pa, .int .i64 po, .string pt, .slice la ll lc] 30)
 have e1 : (S.id != S.id) = false := by simp
 have e2 : (S.ballot != S.ballot) = false := by simp
 have e3 : (S.ballot == S.ballot) = true := by simp
 have hv0 : ¬ (v : Int) < 0 := by omega
 have hv3 : ¬ (n : Int) ≤ (v : Int) := by omega
 have hv4 : (v : Int) < (n : Int) := by omega
 clear h hph
 go_enter Tryz.func47, Tryz.ntmps47
 go_wp2
 go_quiet ((go_at_call 18; first | exact zAf (zAh c S _ (Hat1.out.drewN _) Hn.out) | exact quiet_add_left (zAh c S _ (Hat1.out.drewN _) Hn.out)))
 go_wp2_with fail
 go_quiet (fail)
 go_wp2_with fail
 go_end0
 exact GDone.quiet H0.out (by first | exact below_drewN HB.out _ | exact below_drewN (below_drewN HB.out _) _)
theorem zEI {G : Gh} {D : Dt} {S : CSt} (h : Gc w0 c kb mb n id bal G Z D S w) (v : Nat) (gen basis fl tp rd pa po : Int) (mk pt : ByteArray) (la : Option Addr) (ll lc : Nat) (hv : v < n) (hph : S.phase = 2) :
  Calls Tryz.prog 47 #[.pointer (some ⟨c, 0, none⟩), .agg #[.int .i64 2, .int .i64 (v : Int), .int .i64 S.id, .int .i64 S.ballot, .int .i64 gen, .int .i64 basis, .int .i64 fl, .int .i64 tp, .int .i64 rd, .string mk, .int .i64 pa, .int .i64 po, .string pt, .slice la ll lc]] w (GDone w0 c kb mb n id bal G Z w) := by
 have hbl := h.at_.1.lt
 have hn1 := h.gf.n1
 have hn9 := h.gf.n9
 have c0 : w.cell? ⟨c, 0, none⟩ = some (.int .i64 S.id) := h.at_.hd 0 (by omega)
 have c1 : w.cell? ⟨c, 1, none⟩ = some (.int .i64 (n : Int)) := by rw [← h.gf.n_]; exact h.at_.hd 1 (by omega)
 have c3 : w.cell? ⟨c, 3, none⟩ = some (.int .i64 S.ballot) := h.at_.hd 3 (by omega)
 have c4 : w.cell? ⟨c, 4, none⟩ = some (.int .i64 2) := by rw [← hph]; exact h.at_.hd 4 (by omega)
 have Hn := hid (show 1 ≤ S.n by rw [h.gf.n_]; omega)
 have H0 := hid h
 have Hat1 := hid (h.at_.alloc (.cells #[.int .i64 2, .int .i64 (v : Int), .int .i64 S.id, .int .i64 S.ballot, .int .i64 gen, .int .i64 basis, .int .i64 fl, .int .i64 tp, .int .i64 rd, .string mk, .int .i64 pa, .int .i64 po, .string pt, .slice la ll lc] 30))
 have HB := hid ((Below.refl w.heap.size w).alloc (Nat.le_refl _) (.cells #[.int .i64 2, .int .i64 (v : Int), .int .i64 S.id, .int .i64 S.ballot, .int .i64 gen, .int .i64 basis, .int .i64 fl, .int .i64 tp, .int .i64 rd, .string mk, .int .i64 pa, .int .i64 po, .string pt, .slice la ll lc] 30))
 have HQ := hid (Blk.new w [.int .i64 2, .int .i64 (v : Int), .int .i64 S.id, .int .i64 S.ballot, .int .i64 gen, .int .i64 basis, .int .i64 fl, .int .i64 tp, .int .i64 rd, .string mk, .int .i64 pa, .int .i64 po, .string pt, .slice la ll lc] 30)
 have e1 : (S.id != S.id) = false := by simp
 have e2 : (S.ballot != S.ballot) = false := by simp
 have e3 : (S.ballot == S.ballot) = true := by simp
 have hv0 : ¬ (v : Int) < 0 := by omega
 have hv3 : ¬ (n : Int) ≤ (v : Int) := by omega
 have hv4 : (v : Int) < (n : Int) := by omega
 have HD := hid (fun w1 (hb : Below w.heap.size w w1) => gc_far (h.quiet hb) v 2 S.id S.ballot gen basis fl tp rd pa po mk pt (.slice la ll lc) (by omega))
 clear h hph
 go_enter Tryz.func47, Tryz.ntmps47
 go_wp2
 go_quiet ((go_at_call 18; first | exact zAf (zAh c S _ (Hat1.out.drewN _) Hn.out) | exact quiet_add_left (zAh c S _ (Hat1.out.drewN _) Hn.out)))
 go_wp2_with fail
 go_quiet (fail)
 go_wp2_with fail
 refine (HD.out _ (below_drewN HB.out _)).mono ?_
 rintro e w2 ⟨rfl, hG, hF⟩
 obtain ⟨D2, S2, hG2⟩ := hG
 have M2 := hF.1.1 _ _ _ (by decide) (HQ.out.drewN _)
 have HM2 := hid M2
 have HF2 := hid ((Fr.of_below (w0 := w0) (below_drewN HB.out _)).trans hF)
 have HP := hid (zEX hG2 v 2 S.id S.ballot gen basis fl tp rd pa po mk pt (.slice la ll lc))
 generalize w.heap.size = q at M2 HM2 ⊢
 have n0 : w2.cell? ⟨q, 0, none⟩ = some (.int .i64 2) := M2.cell 0
 have n1 : w2.cell? ⟨q, 1, none⟩ = some (.int .i64 (v : Int)) := M2.cell 1
 have n2 : w2.cell? ⟨q, 2, none⟩ = some (.int .i64 S.id) := M2.cell 2
 have n3 : w2.cell? ⟨q, 3, none⟩ = some (.int .i64 S.ballot) := M2.cell 3
 have n4 : w2.cell? ⟨q, 4, none⟩ = some (.int .i64 gen) := M2.cell 4
 have n5 : w2.cell? ⟨q, 5, none⟩ = some (.int .i64 basis) := M2.cell 5
 have n6 : w2.cell? ⟨q, 6, none⟩ = some (.int .i64 fl) := M2.cell 6
 have n7 : w2.cell? ⟨q, 7, none⟩ = some (.int .i64 tp) := M2.cell 7
 have n8 : w2.cell? ⟨q, 8, none⟩ = some (.int .i64 rd) := M2.cell 8
 have n9 : w2.cell? ⟨q, 9, none⟩ = some (.string mk) := M2.cell 9
 have n10 : w2.cell? ⟨q, 10, none⟩ = some (.int .i64 pa) := M2.cell 10
 have n11 : w2.cell? ⟨q, 11, none⟩ = some (.int .i64 po) := M2.cell 11
 have n12 : w2.cell? ⟨q, 12, none⟩ = some (.string pt) := M2.cell 12
 have n13 : w2.cell? ⟨q, 13, none⟩ = some (.slice la ll lc) := M2.cell 13
 have hql := M2.lt
 clear hF hG2 M2 HD c0 c1 c3 c4 Hat1
 go_wp2_with fail
 refine HP.out.mono ?_
 rintro e w3 ⟨rfl, hG, hF⟩
 have HO := hid (And.intro hG (HF2.out.trans hF))
 clear hG hF n0 n1 n2 n3 n4 n5 n6 n7 n8 n9 n10 n11 n12 n13
 go_wp2_with fail
 go_end0
 exact ⟨rfl, HO.out.1, HO.out.2⟩
theorem zEo {G : Gh} {D : Dt} {S : CSt} (h : Gc w0 c kb mb n id bal G Z D S w) (v : Nat) (gen basis fl tp rd pa po : Int) (mk pt : ByteArray) (la : Option Addr) (ll lc : Nat) (hv : v < n) (hph : S.phase = 2) :
  Calls Tryz.prog 47 #[.pointer (some ⟨c, 0, none⟩), .agg #[.int .i64 16, .int .i64 (v : Int), .int .i64 S.id, .int .i64 S.ballot, .int .i64 gen, .int .i64 basis, .int .i64 fl, .int .i64 tp, .int .i64 rd, .string mk, .int .i64 pa, .int .i64 po, .string pt, .slice la ll lc]] w (GDone w0 c kb mb n id bal G Z w) := by
 have hbl := h.at_.1.lt
 have hn1 := h.gf.n1
 have hn9 := h.gf.n9
 have c0 : w.cell? ⟨c, 0, none⟩ = some (.int .i64 S.id) := h.at_.hd 0 (by omega)
 have c1 : w.cell? ⟨c, 1, none⟩ = some (.int .i64 (n : Int)) := by rw [← h.gf.n_]; exact h.at_.hd 1 (by omega)
 have c3 : w.cell? ⟨c, 3, none⟩ = some (.int .i64 S.ballot) := h.at_.hd 3 (by omega)
 have c4 : w.cell? ⟨c, 4, none⟩ = some (.int .i64 2) := by rw [← hph]; exact h.at_.hd 4 (by omega)
 have Hn := hid (show 1 ≤ S.n by rw [h.gf.n_]; omega)
 have H0 := hid h
 have Hat1 := hid (h.at_.alloc (.cells #[.int .i64 16, .int .i64 (v : Int), .int .i64 S.id, .int .i64 S.ballot, .int .i64 gen, .int .i64 basis, .int .i64 fl, .int .i64 tp, .int .i64 rd, .string mk, .int .i64 pa, .int .i64 po, .string pt, .slice la ll lc] 30))
 have HB := hid ((Below.refl w.heap.size w).alloc (Nat.le_refl _) (.cells #[.int .i64 16, .int .i64 (v : Int), .int .i64 S.id, .int .i64 S.ballot, .int .i64 gen, .int .i64 basis, .int .i64 fl, .int .i64 tp, .int .i64 rd, .string mk, .int .i64 pa, .int .i64 po, .string pt, .slice la ll lc] 30))
 have HQ := hid (Blk.new w [.int .i64 16, .int .i64 (v : Int), .int .i64 S.id, .int .i64 S.ballot, .int .i64 gen, .int .i64 basis, .int .i64 fl, .int .i64 tp, .int .i64 rd, .string mk, .int .i64 pa, .int .i64 po, .string pt, .slice la ll lc] 30)
 have e1 : (S.id != S.id) = false := by simp
 have e2 : (S.ballot != S.ballot) = false := by simp
 have e3 : (S.ballot == S.ballot) = true := by simp
 have hv0 : ¬ (v : Int) < 0 := by omega
 have hv3 : ¬ (n : Int) ≤ (v : Int) := by omega
 have hv4 : (v : Int) < (n : Int) := by omega
 have HD := hid (fun w1 (hb : Below w.heap.size w w1) => gc_far (h.quiet hb) v 16 S.id S.ballot gen basis fl tp rd pa po mk pt (.slice la ll lc) (by omega))
 clear h hph
 go_enter Tryz.func47, Tryz.ntmps47
 go_wp2
 go_quiet ((go_at_call 18; first | exact zAf (zAh c S _ (Hat1.out.drewN _) Hn.out) | exact quiet_add_left (zAh c S _ (Hat1.out.drewN _) Hn.out)))
 go_wp2_with fail
 go_quiet (fail)
 go_wp2_with fail
 refine (HD.out _ (below_drewN HB.out _)).mono ?_
 rintro e w2 ⟨rfl, hG, hF⟩
 obtain ⟨D2, S2, hG2⟩ := hG
 have M2 := hF.1.1 _ _ _ (by decide) (HQ.out.drewN _)
 have HM2 := hid M2
 have HF2 := hid ((Fr.of_below (w0 := w0) (below_drewN HB.out _)).trans hF)
 have HP := hid (zEX hG2 v 16 S.id S.ballot gen basis fl tp rd pa po mk pt (.slice la ll lc))
 generalize w.heap.size = q at M2 HM2 ⊢
 have n0 : w2.cell? ⟨q, 0, none⟩ = some (.int .i64 16) := M2.cell 0
 have n1 : w2.cell? ⟨q, 1, none⟩ = some (.int .i64 (v : Int)) := M2.cell 1
 have n2 : w2.cell? ⟨q, 2, none⟩ = some (.int .i64 S.id) := M2.cell 2
 have n3 : w2.cell? ⟨q, 3, none⟩ = some (.int .i64 S.ballot) := M2.cell 3
 have n4 : w2.cell? ⟨q, 4, none⟩ = some (.int .i64 gen) := M2.cell 4
 have n5 : w2.cell? ⟨q, 5, none⟩ = some (.int .i64 basis) := M2.cell 5
 have n6 : w2.cell? ⟨q, 6, none⟩ = some (.int .i64 fl) := M2.cell 6
 have n7 : w2.cell? ⟨q, 7, none⟩ = some (.int .i64 tp) := M2.cell 7
 have n8 : w2.cell? ⟨q, 8, none⟩ = some (.int .i64 rd) := M2.cell 8
 have n9 : w2.cell? ⟨q, 9, none⟩ = some (.string mk) := M2.cell 9
 have n10 : w2.cell? ⟨q, 10, none⟩ = some (.int .i64 pa) := M2.cell 10
 have n11 : w2.cell? ⟨q, 11, none⟩ = some (.int .i64 po) := M2.cell 11
 have n12 : w2.cell? ⟨q, 12, none⟩ = some (.string pt) := M2.cell 12
 have n13 : w2.cell? ⟨q, 13, none⟩ = some (.slice la ll lc) := M2.cell 13
 have hql := M2.lt
 clear hF hG2 M2 HD c0 c1 c3 c4 Hat1
 go_wp2_with fail
 refine HP.out.mono ?_
 rintro e w3 ⟨rfl, hG, hF⟩
 have HO := hid (And.intro hG (HF2.out.trans hF))
 clear hG hF n0 n1 n2 n3 n4 n5 n6 n7 n8 n9 n10 n11 n12 n13
 go_wp2_with fail
 go_end0
 exact ⟨rfl, HO.out.1, HO.out.2⟩
theorem nodup_yes {a : Nat} (h : (a :: (x ++ (y ++ z))).Nodup) : (a :: (x ++ z)).Nodup :=
 List.Pairwise.sublist (List.Sublist.cons_cons a (List.Sublist.append_left (List.sublist_append_right y z) x)) h
theorem Gf.noYes {G : Gh} {D : Dt} {S : CSt} (h : Gf w0 c kb mb n id bal G Z D S w) : Gf w0 c kb mb n id bal G Z { D with yes := none } { S with yes := .pointer none } w :=
 { h with
  yes := rfl
  yesB := fun t ht => by cases ht
  tals := nodup_yes h.tals
  talB := fun t ht => h.talB t (by
   have ht : t ∈ D.pt :: (JobD.tals D.job ++ ([] ++ talO D.prn)) := ht
   unfold Dt.tals
   rcases List.mem_cons.1 ht with e | e
   ·exact List.mem_cons.2 (Or.inl e)
   rcases List.mem_append.1 e with e | e
   ·exact List.mem_cons.2 (Or.inr (List.mem_append_left _ e))
   ·exact List.mem_cons.2 (Or.inr (List.mem_append_right _ (List.mem_append_right _ e)))) }
theorem tals_yes {D : Dt} {t : Nat × List Bool} (h : D.tals.Nodup) (hD : D.yes = some t) : ¬ t.1 ∈ ({ D with yes := none } : Dt).tals := by
 unfold Dt.tals at h
 rw [hD] at h
 have h : (D.pt :: (JobD.tals D.job ++ t.1 :: talO D.prn)).Nodup := h
 have hp : (D.pt :: (JobD.tals D.job ++ t.1 :: talO D.prn)).Perm (t.1 :: D.pt :: (JobD.tals D.job ++ talO D.prn)) := List.perm_middle (l₁ := D.pt :: JobD.tals D.job) (l₂ := talO D.prn) (a := t.1)
 rw [hp.nodup_iff, List.nodup_cons] at h
 exact h.1
theorem Gf.setYes {G : Gh} {D : Dt} {S : CSt} (h : Gf w0 c kb mb n id bal G Z D S w) (t : Nat × List Bool) (hD : D.yes = some t) (m' : List Bool) (hT : Touch (fun k => k = t.1) w w') (hm : zAi w' t.1 n m') (hv : Votes n m' (G.VY S.read)) :
  Gf w0 c kb mb n id bal G Z { D with yes := some (t.1, m') } S w' ∧ Fr w0 w w' ∧ KeepT [115] w w' := by
 obtain ⟨b1, b2, b3⟩ := h.yesB t hD
 have hb : w0.heap.size ≤ t.1 := h.talB _ (by unfold Dt.tals; rw [hD]; simp [talO])
 obtain ⟨g1, g2, g3⟩ := h.noYes.tallyX t.1 t.2 b1 hb hT (tals_yes h.tals hD)
 exact ⟨{ g1 with
  yes := by rw [h.yes, hD]; rfl
  yesB := fun t' e => by
   injection e with e
   subst e
   exact ⟨hm, hv, b3⟩
  tals := by have := h.tals; unfold Dt.tals at this ⊢; rw [hD] at this; exact this
  talB := fun t ht => h.talB t (by unfold Dt.tals at ht ⊢; rw [hD]; exact ht) }, g2, g3⟩
theorem zJm {G : Gh} {D : Dt} {S : CSt} (h : Gc w0 c kb mb n id bal G Z D S w) (v : Nat) (gen basis fl tp rd pa po : Int) (mk pt : ByteArray) (la : Option Addr) (ll lc : Nat) (hv : v < n) (hph : S.phase = 2) (hvote : G.VY rd v) :
  Calls Tryz.prog 47 #[.pointer (some ⟨c, 0, none⟩), .agg #[.int .i64 12, .int .i64 (v : Int), .int .i64 S.id, .int .i64 S.ballot, .int .i64 gen, .int .i64 basis, .int .i64 fl, .int .i64 tp, .int .i64 rd, .string mk, .int .i64 pa, .int .i64 po, .string pt, .slice la ll lc]] w (GDone w0 c kb mb n id bal G Z w) := by
 have hbl := h.at_.1.lt
 have hn1 := h.gf.n1
 have hn9 := h.gf.n9
 have c0 : w.cell? ⟨c, 0, none⟩ = some (.int .i64 S.id) := h.at_.hd 0 (by omega)
 have c1 : w.cell? ⟨c, 1, none⟩ = some (.int .i64 (n : Int)) := by rw [← h.gf.n_]; exact h.at_.hd 1 (by omega)
 have c3 : w.cell? ⟨c, 3, none⟩ = some (.int .i64 S.ballot) := h.at_.hd 3 (by omega)
 have c4 : w.cell? ⟨c, 4, none⟩ = some (.int .i64 2) := by rw [← hph]; exact h.at_.hd 4 (by omega)
 have Hn := hid (show 1 ≤ S.n by rw [h.gf.n_]; omega)
 have Hat1 := hid (h.at_.alloc (.cells #[.int .i64 12, .int .i64 (v : Int), .int .i64 S.id, .int .i64 S.ballot, .int .i64 gen, .int .i64 basis, .int .i64 fl, .int .i64 tp, .int .i64 rd, .string mk, .int .i64 pa, .int .i64 po, .string pt, .slice la ll lc] 30))
 have HB := hid ((Below.refl w.heap.size w).alloc (Nat.le_refl _) (.cells #[.int .i64 12, .int .i64 (v : Int), .int .i64 S.id, .int .i64 S.ballot, .int .i64 gen, .int .i64 basis, .int .i64 fl, .int .i64 tp, .int .i64 rd, .string mk, .int .i64 pa, .int .i64 po, .string pt, .slice la ll lc] 30))
 have HQ := hid (Blk.new w [.int .i64 12, .int .i64 (v : Int), .int .i64 S.id, .int .i64 S.ballot, .int .i64 gen, .int .i64 basis, .int .i64 fl, .int .i64 tp, .int .i64 rd, .string mk, .int .i64 pa, .int .i64 po, .string pt, .slice la ll lc] 30)
 have e1 : (S.id != S.id) = false := by simp
 have e2 : (S.ballot != S.ballot) = false := by simp
 have e3 : (S.ballot == S.ballot) = true := by simp
 have hv0 : ¬ (v : Int) < 0 := by omega
 have hv3 : ¬ (n : Int) ≤ (v : Int) := by omega
 have hv4 : (v : Int) < (n : Int) := by omega
 have HD := hid (fun w1 (hb : Below w.heap.size w w1) => gc_far (h.quiet hb) v 12 S.id S.ballot gen basis fl tp rd pa po mk pt (.slice la ll lc) (by omega))
 have Hvo := hid hvote
 clear h hph hvote
 go_enter Tryz.func47, Tryz.ntmps47
 go_wp2
 go_quiet ((go_at_call 18; first | exact zAf (zAh c S _ (Hat1.out.drewN _) Hn.out) | exact quiet_add_left (zAh c S _ (Hat1.out.drewN _) Hn.out)))
 go_wp2_with fail
 go_quiet (fail)
 go_wp2_with fail
 refine (HD.out _ (below_drewN HB.out _)).mono ?_
 rintro e w2 ⟨rfl, hG, hF⟩
 obtain ⟨D2, S2, hG2⟩ := hG
 have M2 := hF.1.1 _ _ _ (by decide) (HQ.out.drewN _)
 have HF2 := hid ((Fr.of_below (w0 := w0) (below_drewN HB.out _)).trans hF)
 have HG2 := hid hG2
 generalize w.heap.size = q at M2 ⊢
 have n8 : w2.cell? ⟨q, 8, none⟩ = some (.int .i64 rd) := M2.cell 8
 have n1 : w2.cell? ⟨q, 1, none⟩ = some (.int .i64 (v : Int)) := M2.cell 1
 have d88 : w2.cell? ⟨c, 88, none⟩ = some (.int .i64 S2.read) := hG2.at_.ft 4
 have d89 : w2.cell? ⟨c, 89, none⟩ = some S2.yes := hG2.at_.ft 5
 have hql := M2.lt
 have hcl := hG2.at_.1.lt
 have HM2 := hid M2
 clear hF hG2 M2 HD c0 c1 c3 c4 Hat1 HB HQ
 have quit : ∀ k, GDone w0 c kb mb n id bal G Z w (.returned (.tuple #[])) (w2.drewN k) := fun k => ⟨rfl, ⟨_, _, HG2.out.quiet (below_drewN (Below.refl _ _) k)⟩, HF2.out.trans (Fr.of_below (below_drewN (Below.refl _ _) k))⟩
 have HX := hid quit
 clear quit
 cases hY : D2.yes with
 | none =>
  rw [show S2.yes = .pointer none by rw [HG2.out.gf.yes, hY]; rfl] at d89
  clear hY
  go_wp2_with fail
  go_quiet (fail)
  go_wp2_with fail
  go_end0
  exact HX.out _
 | some t =>
  have hsy : S2.yes = .pointer (some ⟨t.1, 0, none⟩) := by rw [HG2.out.gf.yes, hY]; rfl
  rw [hsy] at d89
  have HY := hid hY
  have Hsy := hid hsy
  clear hY hsy
  by_cases hr : rd = S2.read
  ·have hrb : (rd == S2.read) = true := by rw [hr]; simp
   have Hr := hid hr
   clear hr HX
   go_wp2_with fail
   go_quiet (fail)
   have HG3 := hid (HG2.out.quiet (below_drewN (Below.refl _ _) nq))
   have HF3 := hid (HF2.out.trans (Fr.of_below (below_drewN (Below.refl _ _) nq)))
   have HM3 := hid (HM2.out.drewN nq)
   clear HG2 HF2 HM2 n8 n1 d88 d89 hql hcl
   generalize w2.drewN nq = w3 at HG3 HF3 HM3 ⊢
   have e89 : w3.cell? ⟨c, 89, none⟩ = some (.pointer (some ⟨t.1, 0, none⟩)) := by rw [← Hsy.out]; exact HG3.out.at_.ft 5
   have n1 : w3.cell? ⟨q, 1, none⟩ = some (.int .i64 (v : Int)) := HM3.out.cell 1
   have hcl := HG3.out.at_.1.lt
   have hql := HM3.out.lt
   go_upto_region 22 with fail
   go_still_tail 6, (by kernel_rfl)
   change wpList _ _ _ _ _ w3.drew
   have HG4 := hid (HG3.out.quiet (Below.refl _ _).drew)
   have HF4 := hid (HF3.out.trans (Fr.of_below (Below.refl _ _).drew))
   clear e89 n1 hcl hql HG3 HF3 HM3
   generalize w3.drew = w4 at HG4 HF4 ⊢
   have HA := hid (zDS t.1 n t.2 (v : Int) w4 (HG4.out.gf.yesB t HY.out).1)
   go_wp2_with fail
   refine HA.out.mono ?_
   rintro e w5 ⟨rfl, hta, hT⟩
   have hvv : Votes n (addTo t.2 (v : Int) n) (G.VY S2.read) := zEB (HG4.out.gf.yesB t HY.out).2.1 (by rw [← Hr.out]; exact Hvo.out)
   obtain ⟨g5, f5, k5⟩ := HG4.out.gf.setYes t HY.out (addTo t.2 (v : Int) n) hT hta hvv
   have HO := hid (show GDone w0 c kb mb n id bal G Z w (.returned (.tuple #[])) w5 from ⟨rfl, ⟨_, _, HG4.out.at_.keep k5 (by decide), g5⟩, HF4.out.trans f5⟩)
   clear hta hT hvv g5 f5 k5 HA
   go_wp2_with fail
   go_end0
   exact HO.out
  ·have hrb : (rd == S2.read) = false := by rw [beq_eq_false_iff_ne]; exact hr
   clear hr
   go_wp2_with fail
   go_quiet (fail)
   go_wp2_with fail
   go_end0
   exact HX.out _
theorem GDone.up {G : Gh} {x : Ending} (h : GDone w0 c kb mb n id bal G Z w x w') : GDone w0 c kb mb n id bal G (Z + 1) w x w' := ⟨h.1, h.2.1.mono (Nat.le_succ Z), h.2.2⟩
theorem zHx {G : Gh} {D : Dt} {S : CSt} (h : Gc w0 c kb mb n id bal G Z D S w) (hZ : Z ≤ 100000) (hbb : G.bb ≤ 900000000) (hb0 : bal ≠ 0) (kind fr to' bl gen basis fl tp rd pa po : Int) (mk pt : ByteArray) (la : Option Addr) (lc : Nat) (es : List Ent) (hes : zBf w0 la es) (hel : es.length ≤ 1000) (hpt : pt.size ≤ 9223372036854775807)
  (hva : kind = 8 → to' = id → bl = bal → ∀ v : Nat, fr = (v : Int) → v < n → G.VA gen mk v) (hvy : kind = 12 → to' = id → bl = bal → ∀ v : Nat, fr = (v : Int) → v < n → G.VY rd v) :
  Calls Tryz.prog 47 #[.pointer (some ⟨c, 0, none⟩), .agg #[.int .i64 kind, .int .i64 fr, .int .i64 to', .int .i64 bl, .int .i64 gen, .int .i64 basis, .int .i64 fl, .int .i64 tp, .int .i64 rd, .string mk, .int .i64 pa, .int .i64 po, .string pt, .slice la es.length lc]] w (GDone w0 c kb mb n id bal G (Z + 1) w) := by
 by_cases hno : S.phase = 0 ∨ to' ≠ S.id ∨ fr < 0 ∨ (n : Int) ≤ fr
 ·exact (ghandle_no h kind fr to' bl gen basis fl tp rd pa po mk pt la es.length lc hno).mono (fun _ _ x => x.up)
 have hp0 : S.phase ≠ 0 := fun e => hno (Or.inl e)
 have hto : to' = S.id := Classical.byContradiction (fun e => hno (Or.inr (Or.inl e)))
 obtain ⟨v, rfl⟩ : ∃ v : Nat, fr = (v : Int) := ⟨fr.toNat, by
  have : ¬ fr < 0 := fun e => hno (Or.inr (Or.inr (Or.inl e)))
  omega⟩
 have hv : v < n := by
  have : ¬ (n : Int) ≤ (v : Int) := fun e => hno (Or.inr (Or.inr (Or.inr e)))
  omega
 subst hto
 have f : ∀ {k : Int}, kind ≠ k → (kind == k) = false := fun h => by rw [beq_eq_false_iff_ne]; exact h
 by_cases h3 : kind = 3
 ·subst h3
  exact (zIu h v bl gen basis fl tp rd pa po mk pt la es.length lc hv hp0).mono (fun _ _ x => x.up)
 rcases h.gf.ph with hp | hp | hp
 ·exact absurd hp hp0
 ·by_cases h2 : kind = 2 ∧ bl = S.ballot
  ·obtain ⟨rfl, rfl⟩ := h2
   exact zIg h hZ v gen basis fl tp rd pa po mk pt la lc es hv hp hes hel
  ·exact (zIj h kind v bl gen basis fl tp rd pa po mk pt la es.length lc hv hp (f h3) (by
    by_cases h2' : kind = 2
    ·exact Or.inr (fun e => h2 ⟨h2', e⟩)
    ·exact Or.inl h2')).mono (fun _ _ x => x.up)
 by_cases h14 : kind = 14
 ·subst h14
  exact (zGm h v bl gen basis fl tp rd pa po mk pt la es.length lc hv hp hbb hpt).mono (fun _ _ x => x.up)
 by_cases h10 : kind = 10
 ·subst h10
  exact (zGi h v bl gen basis fl tp rd pa po mk pt la es.length lc hv hp).mono (fun _ _ x => x.up)
 by_cases hbl : bl = S.ballot
 ·subst hbl
  by_cases h2 : kind = 2
  ·subst h2
   exact (zEI h v gen basis fl tp rd pa po mk pt la es.length lc hv hp).mono (fun _ _ x => x.up)
  by_cases h16 : kind = 16
  ·subst h16
   exact (zEo h v gen basis fl tp rd pa po mk pt la es.length lc hv hp).mono (fun _ _ x => x.up)
  by_cases h12 : kind = 12
  ·have hvo := hvy h12 h.gf.id_ h.gf.bal_ v rfl hv
   subst h12
   exact (zJm h v gen basis fl tp rd pa po mk pt la es.length lc hv hp hvo).mono (fun _ _ x => x.up)
  by_cases h5 : kind = 5
  ·subst h5
   exact (zHI h v gen basis fl tp rd pa po mk pt la es.length lc hv hp).mono (fun _ _ x => x.up)
  by_cases h6 : kind = 6
  ·subst h6
   exact (zGC h v gen basis fl tp rd pa po mk pt la es.length lc hv hp).mono (fun _ _ x => x.up)
  by_cases h8 : kind = 8
  ·have hvo := hva h8 h.gf.id_ h.gf.bal_ v rfl hv
   subst h8
   exact zIf h v gen basis fl tp rd pa po mk pt la es.length lc hv hp hZ hvo
  by_cases h17 : kind = 17
  ·subst h17
   exact (zFD h v gen basis fl tp rd pa po mk pt la es.length lc hv hp).mono (fun _ _ x => x.up)
  exact (zGp h kind v gen basis fl tp rd pa po mk pt la es.length lc hv hp (f h3) (f h14) (f h10) (f h2) (f h16) (f h12) (f h5) (f h6) (f h8) (f h17)).mono (fun _ _ x => x.up)
 ·by_cases h6 : kind = 6 ∧ bl = 0
  ·obtain ⟨rfl, rfl⟩ := h6
   exact (zGQ h v gen basis fl tp rd pa po mk pt la es.length lc hv hp (fun e => hb0 (by rw [← h.gf.bal_]; exact e))).mono (fun _ _ x => x.up)
  ·exact (zJo h kind v bl gen basis fl tp rd pa po mk pt la es.length lc hv hp (f h3) (f h14) (f h10) hbl (by
    by_cases h6' : kind = 6
    ·exact Or.inr (fun e => h6 ⟨h6', e⟩)
    ·exact Or.inl h6')).mono (fun _ _ x => x.up)
end Go.Proofs.YtaemlplcjjbamaaGreatDoor
