/- The walk of the statement's step at 5: a vault answers all that was sent to it, over what an answer does . No condition. The statement's handle at an acceptance: what it leaves. Condition: the message is from a peer. -/
import Derived.Test.YtaemlplcjjbamaaGreatDoorBCHandle3
import Derived.Test.YtaemlplcjjbamaaGreatDoorBCSends
import Derived.Deep.RegionHeld3
import Derived.Test.YtaemlplcjjbamaaGreatDoorBCTicks
namespace Go.Proofs.YtaemlplcjjbamaaGreatDoor
open Go Go.RowKit
set_option linter.unusedVariables false
/-- blocks of the types Op and Answer stay -/
def KeepOA (w w' : World) : Prop := ∀ q cs T, (T = 35 ∨ T = 51) → Blk w q cs T → Blk w' q cs T
theorem KeepOA.trans {a b c : World} (h : KeepOA a b) (k : KeepOA b c) : KeepOA a c := fun q cs T hT hq => k q cs T hT (h q cs T hT hq)
theorem KeepOA.of_below {w w' : World} (h : Below w.heap.size w w') : KeepOA w w' := fun q cs T _ hq => hq.below h
theorem keep_op {Ts : List TypeId} {w w' : World} (k : KeepT Ts w w') (h : ¬ 35 ∈ Ts ∧ ¬ 51 ∈ Ts) : KeepOA w w' := fun q cs T hT hq => by
  rcases hT with rfl | rfl
  · exact k.1 _ _ _ h.1 hq
  · exact k.1 _ _ _ h.2 hq
/-- what the answers of vault v to the messages L do -/
structure FiveOk (B wb n v : Nat) (sa : Option Addr) (sc : Nat) (L : List MG) (Inv : Nat → World → Prop) : Prop where
  world : ∀ k w, Inv k w → ∃ c kb av, Blk w wb (worldC c kb 1 (n : Int) (.slice sa L.length sc) av) 43
  sent : ∀ k w, Inv k w → w.ownsRow B 30 14 (.slice sa L.length sc) L.length (msgsV L)
  quiet : ∀ k w w', Inv k w → Below w.heap.size w w' → Inv k w'
  skip : ∀ k m w, L[k]? = some m → m.to_ ≠ (v : Int) → Inv k w → Inv (k + 1) w
  act : ∀ k m, L[k]? = some m → m.to_ = (v : Int) → ∃ o : MG, (∀ w, Calls Tryz.prog 32 #[.agg #[.int .i64 m.k, .int .i64 m.fr, .int .i64 m.to_, .int .i64 m.bal, .int .i64 m.gen, .int .i64 m.bas, .int .i64 m.fl, .int .i64 m.tp, .int .i64 m.rd, .string m.mrk, .int .i64 m.pa, .int .i64 m.po, .string m.pt, .slice m.la m.ll m.lc], .int .i64 1] w fun e w' => e = .returned (.agg #[.int .i64 o.k, .int .i64 o.fr, .int .i64 o.to_, .int .i64 o.bal, .int .i64 o.gen, .int .i64 o.bas, .int .i64 o.fl, .int .i64 o.tp, .int .i64 o.rd, .string o.mrk, .int .i64 o.pa, .int .i64 o.po, .string o.pt, .slice o.la o.ll o.lc]) ∧ Below w.heap.size w w') ∧
    (∀ w, Inv k w → Calls Tryz.prog 29 #[.pointer (some ⟨wb, 0, none⟩), .agg #[.int .i64 o.k, .int .i64 o.fr, .int .i64 o.to_, .int .i64 o.bal, .int .i64 o.gen, .int .i64 o.bas, .int .i64 o.fl, .int .i64 o.tp, .int .i64 o.rd, .string o.mrk, .int .i64 o.pa, .int .i64 o.po, .string o.pt, .slice o.la o.ll o.lc]] w fun e w' => e = .returned (.tuple #[]) ∧ Inv (k + 1) w' ∧ KeepOA w w')
  small : L.length ≤ 1000
def FiveC (w : World) (wb g k sc : Nat) (L : List MG) (m : MG) : Prop := w.cell? ⟨wb, 4, none⟩ = some (.slice (some ⟨g, 0, none⟩) L.length sc) ∧ w.cell? ⟨wb, 2, none⟩ = some (.int .i64 1) ∧ w.cell? ⟨g, k * 14, none⟩ = some (.int .i64 m.k) ∧ w.cell? ⟨g, k * 14 + 1, none⟩ = some (.int .i64 m.fr) ∧ w.cell? ⟨g, k * 14 + 2, none⟩ = some (.int .i64 m.to_) ∧ w.cell? ⟨g, k * 14 + 3, none⟩ = some (.int .i64 m.bal) ∧ w.cell? ⟨g, k * 14 + 4, none⟩ = some (.int .i64 m.gen) ∧ w.cell? ⟨g, k * 14 + 5, none⟩ = some (.int .i64 m.bas) ∧ w.cell? ⟨g, k * 14 + 6, none⟩ = some (.int .i64 m.fl) ∧ w.cell? ⟨g, k * 14 + 7, none⟩ = some (.int .i64 m.tp) ∧ w.cell? ⟨g, k * 14 + 8, none⟩ = some (.int .i64 m.rd) ∧ w.cell? ⟨g, k * 14 + 9, none⟩ = some (.string m.mrk) ∧ w.cell? ⟨g, k * 14 + 10, none⟩ = some (.int .i64 m.pa) ∧ w.cell? ⟨g, k * 14 + 11, none⟩ = some (.int .i64 m.po) ∧ w.cell? ⟨g, k * 14 + 12, none⟩ = some (.string m.pt) ∧ w.cell? ⟨g, k * 14 + 13, none⟩ = some (.slice m.la m.ll m.lc)
theorem FiveOk.cells {B wb n v : Nat} {g : Nat} {sc : Nat} {L : List MG} {Inv : Nat → World → Prop} (P : FiveOk B wb n v (some ⟨g, 0, none⟩) sc L Inv) {j k : Nat} {m : MG} {w : World} (hm : L[k]? = some m) (h : Inv j w) : FiveC w wb g k sc L m := by
  obtain ⟨c, kb, av, hW⟩ := P.world j w h
  have hk : k < L.length := (List.getElem?_eq_some_iff.1 hm).1
  obtain ⟨g', cap, hsv, hg0, hg, _, _, hcell⟩ := row_some (P.sent j w h) (by omega)
  have hsa : g = g' := by injection hsv with h1 _; injection h1 with h1; injection h1
  subst hsa
  have hx : ∀ i, i < 14 → w.cell? ⟨g, k * 14 + i, none⟩ = m.vals[i]? := fun i hi => (hcell (k * 14 + i) (by omega)).trans (msgsV_at hm i hi)
  exact ⟨hW.cell 4, hW.cell 2, hx 0 (by omega), hx 1 (by omega), hx 2 (by omega), hx 3 (by omega), hx 4 (by omega), hx 5 (by omega), hx 6 (by omega), hx 7 (by omega), hx 8 (by omega), hx 9 (by omega), hx 10 (by omega), hx 11 (by omega), hx 12 (by omega), hx 13 (by omega)⟩
set_option maxRecDepth 100000 in
set_option maxHeartbeats 8000000 in
theorem five_any (B wb n v : Nat) (sa : Option Addr) (sc : Nat) (L : List MG) (Inv : Nat → World → Prop) (P : FiveOk B wb n v sa sc L Inv) (m0 m1 m2 m3 m4 m5 m6 m7 m8 m9 m10 m11 m12 m13 tx k0 k1 k2 : Value) (w : World) (h : Inv 0 w) :
    Calls Tryz.prog 12 #[.pointer (some ⟨wb, 0, none⟩), .agg #[.int .i64 5, .int .i64 (v : Int), m0, m1, m2, m3, m4, m5, m6, m7, m8, m9, m10, m11, m12, m13, tx, k0, k1, k2]] w fun e w' => ∃ r, e = .returned (.bool r) ∧ Inv L.length w' ∧ KeepOA w w' := by
  have h1 := P.quiet 0 _ _ h ((Below.refl w.heap.size w).alloc (Nat.le_refl _) (.cells #[.int .i64 5, .int .i64 (v : Int), m0, m1, m2, m3, m4, m5, m6, m7, m8, m9, m10, m11, m12, m13, tx, k0, k1, k2] 35))
  have Q1 := Blk.new w [.int .i64 5, .int .i64 (v : Int), m0, m1, m2, m3, m4, m5, m6, m7, m8, m9, m10, m11, m12, m13, tx, k0, k1, k2] 35
  have K1 := KeepOA.of_below ((Below.refl w.heap.size w).alloc (Nat.le_refl _) (.cells #[.int .i64 5, .int .i64 (v : Int), m0, m1, m2, m3, m4, m5, m6, m7, m8, m9, m10, m11, m12, m13, tx, k0, k1, k2] 35))
  have HP := Lib.hid P
  have HH := Lib.hid h1
  have HKa := Lib.hid K1
  have HQ := Lib.hid Q1
  have hsm := P.small
  clear h h1 Q1 P K1
  go_enter Tryz.func12, Tryz.ntmps12
  go_upto_region 14 with fail
  have H0 := HH.out
  have Q0 := HQ.out
  have K0 := HKa.out
  generalize w.alloc (.cells #[.int .i64 5, .int .i64 (v : Int), m0, m1, m2, m3, m4, m5, m6, m7, m8, m9, m10, m11, m12, m13, tx, k0, k1, k2] 35) = w1 at H0 Q0 K0 ⊢
  generalize w.heap.size = q at Q0 ⊢
  have HH1 := Lib.hid H0
  have HK1 := Lib.hid K0
  have HQ1 := Lib.hid Q0
  clear HH HQ H0 Q0 K0 HKa
  go_wp2_with fail
  go_loopw [6] (fun i wr => ∃ k : Nat, i = .int .i64 k ∧ k ≤ L.length ∧ Hid (Inv k wr) ∧ Hid (KeepOA w wr) ∧ Hid (Blk wr q [.int .i64 5, .int .i64 (v : Int), m0, m1, m2, m3, m4, m5, m6, m7, m8, m9, m10, m11, m12, m13, tx, k0, k1, k2] 35)) (fun i _ => L.length - (intOf i).toNat)
  case atStart => exact ⟨0, rfl, Nat.zero_le _, HH1, HK1, HQ1⟩
  case round =>
    obtain ⟨k, rfl, hk, HS, HKr, HQ⟩ := hrel
    clear HH1 HQ1 HK1
    obtain ⟨c, kb, av, hW⟩ := HP.out.world _ _ HS.out
    by_cases hlt : k < L.length
    · obtain ⟨g, cap, hsv, hg0, hg, _, _, hcell⟩ := row_some (HP.out.sent _ _ HS.out) (by omega)
      have hsa : sa = some ⟨g, 0, none⟩ := by injection hsv
      subst hsa
      obtain ⟨m, hm⟩ : ∃ m, L[k]? = some m := ⟨_, List.getElem?_eq_getElem hlt⟩
      have Hm := Lib.hid hm
      have HF := Lib.hid (fun (w' : World) (j : Nat) (h' : Inv j w') => HP.out.cells hm h')
      have hq1 : wr.cell? ⟨q, 1, none⟩ = some (.int .i64 (v : Int)) := HQ.out.cell 1
      have hc := HF.out _ _ HS.out
      unfold FiveC at hc
      obtain ⟨c4, c2, x0, x1, x2, x3, x4, x5, x6, x7, x8, x9, x10, x11, x12, x13⟩ := hc
      clear hcell hW hsv hm
      by_cases ho : m.to_ = (v : Int)
      · have ho1 : (m.to_ == (v : Int)) = true := by rw [beq_iff_eq]; exact ho
        obtain ⟨o, hrep, hact⟩ := HP.out.act k m Hm.out ho
        have HRP := Lib.hid hrep
        have HHD := Lib.hid hact
        clear ho hrep hact
        go_upto_region 17 with fail
        go_quiet (fail)
        go_upto_region 18 with fail
        have hn1 := HP.out.quiet _ _ _ HS.out (below_drewN (Below.refl _ _) nq)
        have hq2 := HQ.out.drewN nq
        have hk2 : KeepOA w (wr.drewN nq) := HKr.out.trans (KeepOA.of_below (below_drewN (Below.refl _ _) nq))
        generalize wr.drewN nq = w2 at hn1 hq2 hk2 ⊢
        have HK2 := Lib.hid (hk2.trans (KeepOA.of_below (Below.refl _ _).drew))
        have HS2 := Lib.hid (HP.out.quiet _ _ _ hn1 (Below.refl _ _).drew)
        have HQ2 := Lib.hid hq2.drew
        have HFC := Lib.hid (show ∀ w' j, Inv j w' → (w'.cell? ⟨wb, 4, none⟩ = some (.slice (some ⟨g, 0, none⟩) L.length sc) ∧ w'.cell? ⟨wb, 2, none⟩ = some (.int .i64 1) ∧ w'.cell? ⟨g, k * 14, none⟩ = some (.int .i64 m.k) ∧ w'.cell? ⟨g, k * 14 + 1, none⟩ = some (.int .i64 m.fr) ∧ w'.cell? ⟨g, k * 14 + 2, none⟩ = some (.int .i64 m.to_) ∧ w'.cell? ⟨g, k * 14 + 3, none⟩ = some (.int .i64 m.bal) ∧ w'.cell? ⟨g, k * 14 + 4, none⟩ = some (.int .i64 m.gen) ∧ w'.cell? ⟨g, k * 14 + 5, none⟩ = some (.int .i64 m.bas) ∧ w'.cell? ⟨g, k * 14 + 6, none⟩ = some (.int .i64 m.fl) ∧ w'.cell? ⟨g, k * 14 + 7, none⟩ = some (.int .i64 m.tp) ∧ w'.cell? ⟨g, k * 14 + 8, none⟩ = some (.int .i64 m.rd) ∧ w'.cell? ⟨g, k * 14 + 9, none⟩ = some (.string m.mrk) ∧ w'.cell? ⟨g, k * 14 + 10, none⟩ = some (.int .i64 m.pa) ∧ w'.cell? ⟨g, k * 14 + 11, none⟩ = some (.int .i64 m.po) ∧ w'.cell? ⟨g, k * 14 + 12, none⟩ = some (.string m.pt) ∧ w'.cell? ⟨g, k * 14 + 13, none⟩ = some (.slice m.la m.ll m.lc)) from fun w' j h' => HF.out w' j h')
        have hk0 := HFC.out _ _ HS2.out
        have HPq := Lib.hid (fun w1 w2 (h' : Inv k w1) (hb : Below w1.heap.size w1 w2) => HP.out.quiet k w1 w2 h' hb)
        clear x0 x1 x2 x3 x4 x5 x6 x7 x8 x9 x10 x11 x12 x13 c4 c2 hq1 HS HQ hn1 hq2 HF ho1 hk2 HKr
        go_region_held3 (fun w' => w'.cell? ⟨wb, 4, none⟩ = some (.slice (some ⟨g, 0, none⟩) L.length sc) ∧ w'.cell? ⟨wb, 2, none⟩ = some (.int .i64 1) ∧ w'.cell? ⟨g, k * 14, none⟩ = some (.int .i64 m.k) ∧ w'.cell? ⟨g, k * 14 + 1, none⟩ = some (.int .i64 m.fr) ∧ w'.cell? ⟨g, k * 14 + 2, none⟩ = some (.int .i64 m.to_) ∧ w'.cell? ⟨g, k * 14 + 3, none⟩ = some (.int .i64 m.bal) ∧ w'.cell? ⟨g, k * 14 + 4, none⟩ = some (.int .i64 m.gen) ∧ w'.cell? ⟨g, k * 14 + 5, none⟩ = some (.int .i64 m.bas) ∧ w'.cell? ⟨g, k * 14 + 6, none⟩ = some (.int .i64 m.fl) ∧ w'.cell? ⟨g, k * 14 + 7, none⟩ = some (.int .i64 m.tp) ∧ w'.cell? ⟨g, k * 14 + 8, none⟩ = some (.int .i64 m.rd) ∧ w'.cell? ⟨g, k * 14 + 9, none⟩ = some (.string m.mrk) ∧ w'.cell? ⟨g, k * 14 + 10, none⟩ = some (.int .i64 m.pa) ∧ w'.cell? ⟨g, k * 14 + 11, none⟩ = some (.int .i64 m.po) ∧ w'.cell? ⟨g, k * 14 + 12, none⟩ = some (.string m.pt) ∧ w'.cell? ⟨g, k * 14 + 13, none⟩ = some (.slice m.la m.ll m.lc))
          (first | with_reducible exact hk0 | with_reducible exact HFC.out _ _ (by assumption) | go_keep)
          (first
          | (go_at_call 32; refine (HRP.out _).mono ?_; rintro e w3 ⟨rfl, hb3⟩; have hs3 := HPq.out _ _ HS2.out hb3; have hq3 := HQ2.out.below hb3; have hk3 := HK2.out.trans (KeepOA.of_below hb3))
          | (go_at_call 29; refine (HHD.out _ (by assumption)).mono ?_; rintro e w4 ⟨rfl, hs4, hkp⟩; have hq4 := hkp _ _ _ (Or.inl rfl) hq3; have hk4 := hk3.trans hkp))
        have HS4 := Lib.hid hs4
        have HQ4 := Lib.hid hq4
        have HK4 := Lib.hid hk4
        clear hs3 hq3 hb3 hs4 hkp hq4 hk3 hk4 HK2 HS2 HQ2 hk0 HRP HHD HFC HPq
        go_wp2_with fail
        go_roundw
        case rel => exact ⟨k + 1, by go_num, by omega, HS4, HK4, HQ4⟩
        case measure => simp [intOf]; omega
      · have ho1 : (m.to_ == (v : Int)) = false := beq_eq_false_iff_ne.2 ho
        have HS2 := Lib.hid (HP.out.skip k m wr Hm.out ho HS.out)
        clear ho x0 x1 x3 x4 x5 x6 x7 x8 x9 x10 x11 x12 x13 c2
        go_upto_region 17 with fail
        go_quiet (fail)
        go_wp2_with fail
        go_roundw
        case rel => exact ⟨k + 1, by go_num, by omega, Lib.hid (HP.out.quiet _ _ _ HS2.out (below_drewN (Below.refl _ _) _)), Lib.hid (HKr.out.trans (KeepOA.of_below (below_drewN (Below.refl _ _) _))), Lib.hid (HQ.out.drewN _)⟩
        case measure => simp [intOf]; omega
    · have c4 : wr.cell? ⟨wb, 4, none⟩ = some (.slice sa L.length sc) := hW.cell 4
      obtain rfl : k = L.length := by omega
      clear hW
      go_wp2_with fail
      go_ret
      exact ⟨_, rfl, HS.out, HKr.out⟩
end Go.Proofs.YtaemlplcjjbamaaGreatDoor
namespace Go.Proofs.YtaemlplcjjbamaaGreatDoor
open Go Go.RowKit
set_option linter.unusedVariables false
set_option maxHeartbeats 2000000 in
theorem law_acc_none (w0 : World) (c wb kb mb n K v : Nat) (sv : Value) (L : List MG) (l : List Ent) (I : List (Int × List UInt8)) (ps : List Peer) (S : CSt) (Bk : List ByteArray) (gen basis fl tp rd pa po : Int) (mk pt : ByteArray) (la : Option Addr) (ll lc : Nat) (w : World) (h : StL w0 c wb kb mb n K sv L l I ps S Bk w) (hv : v < n) (hn9 : n ≤ 9) (hK : K ≤ 900000) (hll : ll ≤ 64) (hj : S.job = .pointer none) :
    Calls Tryz.prog 29 #[.pointer (some ⟨wb, 0, none⟩), .agg #[.int .i64 8, .int .i64 (v : Int), .int .i64 1, .int .i64 17, .int .i64 gen, .int .i64 basis, .int .i64 fl, .int .i64 tp, .int .i64 rd, .string mk, .int .i64 pa, .int .i64 po, .string pt, .slice la ll lc]] w fun e w' => e = .returned (.tuple #[]) ∧ (StL w0 c wb kb mb n (K + 1) sv L l I ps S Bk w' ∧ Keep tyH w w') := by
  refine told_own w0 c wb kb n K v sv S 8 17 gen basis fl tp rd pa po mk pt la ll lc w h.ws h.ld.at_ (by rw [h.ld.n_]; omega) h.ld.bal hK hv hll (fun w1 hW1 hk1 => ?_)
  have hL1 := h.ld.keep hk1 (by decide) (by decide) (by decide)
  have hs1 := hk1.1.2 _ _ _ _ _ _ (by decide) h.sn
  have hH := handle_accepted c v n S gen basis fl tp rd pa po mk pt la ll lc w1 (fun w' => StL w0 c wb kb mb n (K + 1) sv L l I ps S Bk w' ∧ Keep tyH w w') hL1.at_ hL1.n_ hL1.ph hv hn9 (fun w2 hC2 hb2 => ?_)
  · exact calls_arg (fun i b => #[.pointer (some ⟨c, 0, none⟩), .agg #[.int .i64 8, .int .i64 (v : Int), .int .i64 i, .int .i64 b, .int .i64 gen, .int .i64 basis, .int .i64 fl, .int .i64 tp, .int .i64 rd, .string mk, .int .i64 pa, .int .i64 po, .string pt, .slice la ll lc]]) h.ld.id_ h.ld.bal hH
  · refine (accepted_none c S 8 (v : Int) S.id S.ballot gen basis fl tp rd pa po mk pt (.slice la ll lc) w2 hC2 hj).mono ?_
    rintro e w3 ⟨rfl, hb3⟩
    have hS1 : StL w0 c wb kb mb n (K + 1) sv L l I ps S Bk w1 := ⟨hW1, hL1, hs1⟩
    exact ⟨rfl, (hS1.below hb2).below hb3, (hk1.mono (by decide)).trans (Keep.of_below (below_step hb2 hb3))⟩
def AccL (w0 : World) (c wb kb mb n K v : Nat) (sv : Value) (L : List MG) (l : List Ent) (I : List (Int × List UInt8)) (ps : List Peer) (S : CSt) (Bk : List ByteArray) (g : Int) (mk img : ByteArray) (m : List Bool) (w w' : World) : Prop :=
  (wonT (addTo m (v : Int) n) n = false → StL w0 c wb kb mb n (K + 1) sv L l I ps S Bk w' ∧ JobIs w0 n g mk img (addTo m (v : Int) n) S w') ∧
  (wonT (addTo m (v : Int) n) n = true → ∃ (v' : Value) (a : Nat), StL w0 c wb kb mb n (K + 1) sv L (l ++ [⟨g, 0, mk⟩]) I ps (CSt.ended { S with top := g + 1, chosen := v', job := .pointer none } (.pointer (some ⟨a, 0, none⟩))) Bk w' ∧ answerAt w' a 0 g 0 ∧ w0.heap.size ≤ a) ∧
  Keep (115 :: 102 :: tyH) w w'
set_option maxHeartbeats 2000000 in
theorem law_acc (w0 : World) (c wb kb mb n K v : Nat) (sv : Value) (L : List MG) (l : List Ent) (I : List (Int × List UInt8)) (ps : List Peer) (S : CSt) (Bk : List ByteArray) (kc : Nat) (g basis fl tp rd pa po : Int) (mk img pt : ByteArray) (m : List Bool) (la : Option Addr) (ll lc : Nat) (w : World) (h : StL w0 c wb kb mb n K sv L l I ps S Bk w) (hv : v < n) (hn9 : n ≤ 9) (hK : K ≤ 900000) (hll : ll ≤ 64) (hl : (l.length : Int) = g) (hl5 : l.length ≤ 1000) (hJ : JobIs w0 n g mk img m S w) (hcl : S.call = .pointer (some ⟨kc, 0, none⟩)) :
    Calls Tryz.prog 29 #[.pointer (some ⟨wb, 0, none⟩), .agg #[.int .i64 8, .int .i64 (v : Int), .int .i64 1, .int .i64 17, .int .i64 g, .int .i64 basis, .int .i64 fl, .int .i64 tp, .int .i64 rd, .string mk, .int .i64 pa, .int .i64 po, .string pt, .slice la ll lc]] w fun e w' => e = .returned (.tuple #[]) ∧ AccL w0 c wb kb mb n K v sv L l I ps S Bk g mk img m w w' := by
  have hc0 := h.ws.c0
  refine told_own w0 c wb kb n K v sv S 8 17 g basis fl tp rd pa po mk pt la ll lc w h.ws h.ld.at_ (by rw [h.ld.n_]; omega) h.ld.bal hK hv hll (fun w1 hW1 hk1 => ?_)
  have hL1 := h.ld.keep hk1 (by decide) (by decide) (by decide)
  have hs1 := hk1.1.2 _ _ _ _ _ _ (by decide) h.sn
  have hJ1 : JobIs w0 n g mk img m S w1 := hJ.keep rfl hk1.1 (by decide) (by decide)
  have hH := handle_accepted c v n S g basis fl tp rd pa po mk pt la ll lc w1 (fun w' => AccL w0 c wb kb mb n K v sv L l I ps S Bk g mk img m w w') hL1.at_ hL1.n_ hL1.ph hv hn9 (fun w2 hC2 hb2 => ?_)
  · exact calls_arg (fun i b => #[.pointer (some ⟨c, 0, none⟩), .agg #[.int .i64 8, .int .i64 (v : Int), .int .i64 i, .int .i64 b, .int .i64 g, .int .i64 basis, .int .i64 fl, .int .i64 tp, .int .i64 rd, .string mk, .int .i64 pa, .int .i64 po, .string pt, .slice la ll lc]]) h.ld.id_ h.ld.bal hH
  · have hS1 : StL w0 c wb kb mb n (K + 1) sv L l I ps S Bk w1 := ⟨hW1, hL1, hs1⟩
    have hS2 := hS1.below hb2
    have hJ2 : JobIs w0 n g mk img m S w2 := hJ1.keep (Ts := []) rfl (KeepT.of_below hb2) (by simp) (by simp)
    have hk2 : Keep tyH w w2 := (hk1.mono (by decide)).trans (Keep.of_below hb2)
    obtain ⟨j, ta, tf, q1, q2, q3, q4⟩ := hJ2.ex
    refine (accepted_any c w0.heap.size j kc n S l g 17 S.ballot mk img ta tf m 8 (v : Int) S.id basis fl tp rd pa po pt (.slice la ll lc) w2 hC2 q1 q2 q3 hcl hS2.ld.cho hS2.ws.size (by omega) (by omega)).mono ?_
    rintro e w3 ⟨rfl, hno, hyes⟩
    refine ⟨rfl, fun hw => ?_, fun hw => ?_, ?_⟩
    · obtain ⟨hC3, hta3, hJ3, hT3⟩ := hno hw
      have hk3 : Keep [115] w2 w3 := Keep.of_touch hT3 (fun q _ e => by subst e; exact Tyd.blk q3.1 (by simp)) (by decide)
      have hab3 : Abv w0 w2 w3 := Abv.of_touch hT3 (fun q _ e => by omega)
      exact ⟨⟨hS2.ws.step hk3.1 hab3 (by decide) (by decide), hS2.ld.keep hk3 (by decide) (by decide) (by decide), hk3.1.2 _ _ _ _ _ _ (by decide) hS2.sn⟩, ⟨⟨j, ta, tf, q1, hJ3, hta3, q4⟩⟩⟩
    · obtain ⟨v', a, hC3, hr3, ha3, hza, hT3⟩ := hyes hw
      have hty : ∀ q, q < w2.heap.size → (q = c ∨ q = ta ∨ S.chosen.ownBlock = some q) → Tyd [115, 102, 78] w2 q := fun q _ hq => by
        rcases hq with rfl | rfl | e
        · exact Tyd.blk hC2.1 (by simp)
        · exact Tyd.blk q3.1 (by simp)
        · exact Tyd.row hS2.ld.cho (by simp) e
      have hk3 : Keep [115, 102, 78] w2 w3 := Keep.of_touch hT3 hty (by decide)
      have hab3 : Abv w0 w2 w3 := Abv.of_touch hT3 (fun q _ hq => by
        rcases hq with rfl | rfl | e
        · exact hc0
        · exact q4
        · exact (row_lt hS2.ld.cho e).1)
      have hL2 := hS2.ld
      rw [hL2.fl] at ha3
      have hsz := hS2.ws.size
      exact ⟨v', a, ⟨hS2.ws.step hk3.1 hab3 (by decide) (by decide), ⟨hC3, hL2.id_, hL2.n_, hL2.bk_, hL2.bal, hL2.ph, hL2.fl, by rw [List.length_append, List.length_singleton]; show g + 1 = _; omega, hL2.again, hL2.fetch, hL2.prs, hL2.len, by rw [List.length_append]; exact hr3, hk3.1.2 _ _ _ _ _ _ (by decide) hL2.img, hk3.2 _ _ _ hL2.bok⟩, hk3.1.2 _ _ _ _ _ _ (by decide) hS2.sn⟩, ha3, by omega⟩
    · cases hw : wonT (addTo m (v : Int) n) n with
      | false =>
        obtain ⟨_, _, _, hT3⟩ := hno hw
        have hk3 : Keep [115] w2 w3 := Keep.of_touch hT3 (fun q _ e => by subst e; exact Tyd.blk q3.1 (by simp)) (by decide)
        exact (hk2.mono (by decide)).trans (hk3.mono (by decide))
      | true =>
        obtain ⟨_, _, _, _, _, _, hT3⟩ := hyes hw
        have hk3 : Keep [115, 102, 78] w2 w3 := Keep.of_touch hT3 (fun q _ hq => by
          rcases hq with rfl | rfl | e
          · exact Tyd.blk hC2.1 (by simp)
          · exact Tyd.blk q3.1 (by simp)
          · exact Tyd.row hS2.ld.cho (by simp) e) (by decide)
        exact (hk2.mono (by decide)).trans (hk3.mono (by decide))
end Go.Proofs.YtaemlplcjjbamaaGreatDoor
