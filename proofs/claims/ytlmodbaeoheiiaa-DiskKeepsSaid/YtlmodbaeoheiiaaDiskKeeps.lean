/- The walk of DiskKeeps. No condition. -/
import Derived.Test.YtlmodbaeoheiiaaKeepPlain
import Derived.Test.YtlmodbaeoheiiaaOpenOps
namespace Go.Proofs.Ytlmodbaeoheiiaa
open Go.RowKit
set_option linter.unusedVariables false

/-- types that a device's blocks have -/
def devT (T : TypeId) : Bool := T == 67 || T == 72 || T == 78 || T == 74 || T == 5
/-- blocks of other types stand as they stood -/
def Fr (w w' : World) : Prop := ∀ g cs T, devT T = false → Blk w g cs T → Blk w' g cs T
theorem foot_other {w : World} {b g : Nat} {S : DSt} {cs : List Value} {T : TypeId} (h : DiskAt w b S) (hT : devT T = false) (hb : Blk w g cs T) : ¬ foot b S g := by
  unfold devT at hT
  simp only [Bool.or_eq_false_iff, beq_eq_false_iff_ne] at hT
  obtain ⟨⟨⟨⟨t1, t2⟩, t3⟩, t4⟩, t5⟩ := hT
  intro hf
  rcases hf with rfl | hk | hk | ⟨f, hf, rfl | hk | hk⟩
  · exact (h.blk.ne hb (Ne.symm t1)) rfl
  · exact row_ne h.frow hb (Ne.symm t2) hk
  · exact row_ne h.wrow hb (Ne.symm t3) hk
  · exact ((h.fat f hf).blk.ne hb (Ne.symm t4)) rfl
  · exact row_ne (h.fat f hf).last hb (Ne.symm t5) hk
  · exact row_ne (h.fat f hf).seen hb (Ne.symm t5) hk
theorem Fr.dev {w w' : World} {b : Nat} {S S' : DSt} (h : DiskAt w b S) (hD : Dev b S w S' w') : Fr w w' :=
  fun g cs T hT hb => hb.touch hD.touch (foot_other h hT hb)
theorem Fr.refl (w : World) : Fr w w := fun _ _ _ _ h => h
theorem create_fr {B : Nat} {w0 w : World} {b n : Nat} {P : PS} (h : Live B w0 b n P w) (hn : n ≤ 1000000) (s : ByteArray) :
    Calls Try.prog 13 #[.pointer (some ⟨b, 0, none⟩), .string s] w fun e w' => e = .returned (.int .i64 (P.create s).1) ∧ Live B w0 b (n + 1) (P.create s).2 w' ∧ Fr w w' := by
  obtain ⟨S, rfl, h2, h3, h4, h5, h6⟩ := h
  refine (create_any b n S s w h2 h3 hn).mono ?_
  rintro e w' ⟨rfl, S', hD, hpl⟩
  exact ⟨rfl, Live.step h4 h5 h6 hD hpl (h3.create s), Fr.dev h2 hD⟩
theorem append_fr {B : Nat} {w0 w : World} {b n : Nat} {P : PS} (h : Live B w0 b n P w) (hn : n ≤ 1000000) (s t : ByteArray) (ht : t.size ≤ maxLen) :
    Calls Try.prog 22 #[.pointer (some ⟨b, 0, none⟩), .string s, .string t] w fun e w' => e = .returned (.int .i64 (P.append s t).1) ∧ Live B w0 b (n + t.size) (P.append s t).2 w' ∧ Fr w w' := by
  obtain ⟨S, rfl, h2, h3, h4, h5, h6⟩ := h
  refine (append_any b S s t w h2 (h3.ready hn) ht).mono ?_
  rintro e w' ⟨rfl, S', hD, hpl⟩
  exact ⟨rfl, Live.step h4 h5 h6 hD hpl (h3.append s t), Fr.dev h2 hD⟩
theorem Live.mono {B : Nat} {w0 w : World} {b n m : Nat} {P : PS} (h : Live B w0 b n P w) (hm : n ≤ m) : Live B w0 b m P w := by
  obtain ⟨S, h1, h2, h3, h4, h5, h6⟩ := h
  exact ⟨S, h1, h2, h3.mono hm, h4, h5, h6⟩

set_option maxRecDepth 100000 in
set_option maxHeartbeats 4000000 in
theorem diskKeeps_walk (s : ByteArray) (oa : Option Addr) (oc : Nat) (L : List OpR) (fa : Option Addr) (len cap : Nat) (zs : List Int) (w : World) (hs : s.size ≤ maxLen) (hL : L.length ≤ maxLen) (ho : OpsAt w oa L) (hz : IsInts .i64 w fa len cap zs) :
    Calls Try.prog 6 #[.string s, .slice oa L.length oc, .slice fa len cap] w fun e w' => e = .returned (.bool true) ∧ Below w.heap.size w w' := by
  obtain ⟨hat, hlen, _, hmax, hcap, hcm⟩ := isInts_at hz
  unfold maxLen at hmax hcm hL
  have hcs := cutT_size s
  have HC0 := Lib.hid (fun w => cut_any s w)
  have HCT := Lib.hid (fun (u : ByteArray) w => cut_any u w)
  have HCZ := Lib.hid (fun (u : ByteArray) => cutT_size u)
  generalize zs.take len = l at *
  subst hlen
  have Hat := Lib.hid hat
  have Ho := Lib.hid ho
  clear hz hat hcap hcm ho hs
  generalize cutT s = t at *
  have hmx : t.size ≤ maxLen := by unfold maxLen; omega
  obtain ⟨P2, hw2, hoff2, hK2⟩ := keep_start t hcs
  have HK2 := Lib.hid hK2
  have hnew := Lib.hid (new_live 200 w (by decide))
  have hcr := fun (w1 : World) (b : Nat) (h : Live w.heap.size w b 0 (newP 200) w1) => create_live h (by decide) kept
  rw [createK] at hcr
  have HCR := Lib.hid (show ∀ (w1 : World) (b : Nat) (h : Live w.heap.size w b 0 (newP 200) w1), Calls Try.prog 13 #[.pointer (some ⟨b, 0, none⟩), .string ⟨#[107, 101, 112, 116]⟩] w1 fun e w' => e = .returned (.int .i64 0) ∧ Live w.heap.size w b 1 (keptP [] [] [] (-1) 0) w' from hcr)
  have hw := fun (w1 : World) (b : Nat) (h : Live w.heap.size w b 1 (keptP [] [] [] (-1) 0) w1) => write_live h (by decide) kept 0 t (by decide) hmx
  rw [hw2] at hw
  have HW := Lib.hid (show ∀ (w1 : World) (b : Nat) (h : Live w.heap.size w b 1 (keptP [] [] [] (-1) 0) w1), Calls Try.prog 14 #[.pointer (some ⟨b, 0, none⟩), .string ⟨#[107, 101, 112, 116]⟩, .int .i64 0, .string t] w1 fun e w' => e = .returned (.int .i64 0) ∧ Live w.heap.size w b (1 + t.size) P2 w' from hw)
  have hsy : P2.syncR = (0, P2.sync) := by unfold PS.syncR; rw [if_neg (by rw [hoff2]; decide)]
  have hsync := fun (w1 : World) (b : Nat) (h : Live w.heap.size w b (1 + t.size) P2 w1) => sync_live h (by omega)
  rw [hsy] at hsync
  have HSY := Lib.hid hsync
  clear hcr hw hw2 hoff2 hK2 hsy hsync
  generalize P2.sync = P3 at HK2 HSY
  go_enter Try.func6, Try.ntmps6
  go_wp2_with fail
  refine hnew.out.mono ?_
  rintro e w1 ⟨b, rfl, L1⟩
  go_wp2_with fail
  refine (HC0.out _).mono ?_
  rintro e w' ⟨rfl, rfl⟩
  go_wp2_with fail
  refine (HCR.out _ _ L1).mono ?_
  rintro e w2 ⟨rfl, L2⟩
  go_wp2_with fail
  refine (HW.out _ _ L2).mono ?_
  rintro e w3 ⟨rfl, L3⟩
  go_wp2_with fail
  refine (HSY.out _ _ L3).mono ?_
  rintro e w4 ⟨rfl, L4⟩
  have HL4 := Lib.hid L4
  clear L1 L2 L3 L4 HC0 HCR HW HSY hnew
  go_wp2_with fail
  go_loopw [9] (fun i wr => ∃ (k n : Nat) (P : PS), i = .int .i64 k ∧ k ≤ L.length ∧ k ≤ 40 ∧ n ≤ 1000 + k * 1000 ∧ Hid (Keep t.data.toList P) ∧ Hid (Live w.heap.size w b n P wr)) (fun i _ => 40 - (intOf i).toNat)
  case atStart => exact ⟨0, 1 + t.size, P3, rfl, Nat.zero_le _, by omega, by omega, HK2, HL4⟩
  case round =>
    clear HK2 HL4
    obtain ⟨k, n, P, rfl, hk1, hk2, hn, HK, HL⟩ := hrel
    by_cases hin : k < L.length ∧ k < 40
    · obtain ⟨hlt, hlt4⟩ := hin
      obtain ⟨ob, off, rfl, hob, hop⟩ : ∃ ob off, oa = some ⟨ob, off, none⟩ ∧ ob < w.heap.size ∧ OpAt w ob (off + k * 7) L[k] := by
        rcases Ho.out with h | ⟨ob, off, h1, h2, h3⟩
        · rw [h] at hlt; simp at hlt
        · exact ⟨ob, off, h1, h2, h3 k hlt⟩
      have hop2 := opAt_below hop hob HL.out.bel
      generalize L[k] = x at hop2
      obtain ⟨c0, c1, c2, c3, c4, c5, ⟨xa, xc, c6, _, _⟩, wk, wa, wn, _, _, wt⟩ := hop2
      have hobr : ob < wr.heap.size := Nat.lt_of_lt_of_le hob HL.out.bel.size
      obtain ⟨wn1, wn2⟩ := int_bounds wn
      have HCx := HCT.out x.text
      have hcx := HCZ.out x.text
      generalize cutT x.text = u at HCx hcx
      have HCX := Lib.hid HCx
      have hux : u.size ≤ maxLen := by unfold maxLen; omega
      clear hop wk wa wn wt HCx
      have HLX := Lib.hid (HL.out.below ((Below.refl wr.heap.size wr).alloc (Nat.le_refl _) (.cells #[.int .i64 x.kind, .int .i64 x.at_, .int .i64 x.n, .string x.name, .string x.to_, .string x.text, .slice xa x.fates.length xc] 46)))
      have HBX := Lib.hid (Blk.new wr [.int .i64 x.kind, .int .i64 x.at_, .int .i64 x.n, .string x.name, .string x.to_, .string x.text, .slice xa x.fates.length xc] 46)
      by_cases k0 : x.kind = 0
      · rw [k0] at c0 HLX HBX
        have HCa := Lib.hid (create_fr HLX.out (by omega) x.name)
        have HKn := Lib.hid (HK.out.create x.name)
        clear HLX k0 HCX
        go_wp2_with fail
        refine HCa.out.mono ?_
        rintro e w2 ⟨rfl, L2, F2⟩
        have hb2 := F2 _ _ _ (by decide) HBX.out
        have b0 : w2.cell? ⟨wr.heap.size, 0, none⟩ = some (.int .i64 0) := hb2.cell 0
        have HL2 := Lib.hid L2
        clear L2 F2 hb2 HBX HCa c0 c1 c2 c3 c4 c5 c6
        go_wp2_with fail
        go_roundw
        case rel => exact ⟨k + 1, n + 1, _, by go_num, by omega, by omega, by omega, HKn, HL2⟩
        case measure => simp [intOf]; omega
      · by_cases k6 : x.kind = 6 ∨ x.kind = 7
        · have HCa := Lib.hid (append_fr HLX.out (by omega) kept u hux)
          have HCa2 := Lib.hid (show Calls Try.prog 22 #[.pointer (some ⟨b, 0, none⟩), .string ⟨#[107, 101, 112, 116]⟩, .string u] _ _ from HCa.out)
          have HKn := Lib.hid (HK.out.append u)
          clear k0 HLX HCa
          rcases k6 with k6 | k6
          all_goals
            rw [k6] at c0 HBX HCa2
            clear k6
            go_wp2_with fail
            refine (HCX.out _).mono ?_
            rintro e w' ⟨rfl, rfl⟩
            go_wp2_with fail
            refine HCa2.out.mono ?_
            rintro e w2 ⟨rfl, L2, F2⟩
            have hb2 := F2 _ _ _ (by decide) HBX.out
            have HL2 := Lib.hid L2
            have HB2 := Lib.hid hb2
            clear L2 F2 hb2 HBX HCa2 c0 c1 c2 c3 c4 c5 c6 HCX
            first
              | (have b0 : w2.cell? ⟨wr.heap.size, 0, none⟩ = some (.int .i64 6) := HB2.out.cell 0
                 go_wp2_with fail
                 go_roundw
                 case rel => exact ⟨k + 1, n + u.size, _, by go_num, by omega, by omega, by omega, HKn, HL2⟩
                 case measure => simp [intOf]; omega)
              | (have b0 : w2.cell? ⟨wr.heap.size, 0, none⟩ = some (.int .i64 7) := HB2.out.cell 0
                 go_wp2_with fail
                 go_roundw
                 case rel => exact ⟨k + 1, n + u.size, _, by go_num, by omega, by omega, by omega, HKn, HL2⟩
                 case measure => simp [intOf]; omega)
        · by_cases k9 : x.kind = 9
          · rw [k9] at c0 HLX HBX
            have HCa := Lib.hid (arm_live HLX.out x.n wn2)
            have HKn := Lib.hid (HK.out.arm x.n)
            clear HLX k0 k6 k9 HCX HBX
            go_wp2_with fail
            refine HCa.out.mono ?_
            rintro e w2 ⟨rfl, L2⟩
            have HL2 := Lib.hid L2
            clear L2 HCa c0 c1 c2 c3 c4 c5 c6
            go_wp2_with fail
            go_roundw
            case rel => exact ⟨k + 1, n, _, by go_num, by omega, by omega, by omega, HKn, HL2⟩
            case measure => simp [intOf]; omega
          · have q0 : (x.kind == 0) = false := beq_eq_false_iff_ne.2 k0
            have q6 : (x.kind == 6) = false := beq_eq_false_iff_ne.2 (fun h => k6 (Or.inl h))
            have q7 : (x.kind == 7) = false := beq_eq_false_iff_ne.2 (fun h => k6 (Or.inr h))
            have q9 : (x.kind == 9) = false := beq_eq_false_iff_ne.2 k9
            clear k0 k6 k9 HCX HBX
            go_wp2_with fail
            go_roundw
            case rel => exact ⟨k + 1, n, P, by go_num, by omega, by omega, by omega, HK, HLX⟩
            case measure => simp [intOf]; omega
    · have hexit : (L.length ≤ k ∧ k = L.length) ∨ (k < L.length ∧ k = 40) := by omega
      have HIA := Lib.hid (fun w1 (h : Below w.heap.size w w1) => intsAt_below Hat.out h)
      have hcrash := crash_live HL.out (by omega) fa cap l (intsAt_below Hat.out HL.out.bel) (fun g off hl0 e => by
        rcases Hat.out with h | ⟨b', off', h1, h2, _⟩
        · exact absurd h hl0
        · rw [h1] at e
          injection e with e
          injection e with e1 _ _
          left; omega) (by omega)
      have HCRASH := Lib.hid hcrash
      have HRD := Lib.hid (fun (w1 : World) (h : Live w.heap.size w b n (P.crash l) w1) => by
        have := read_live h (by omega) kept 0 ((t.data.toList.length : Nat) : Int) (by decide) (by rw [extract_len]; unfold maxLen at hmx; omega)
        rw [HK.out.read l] at this
        exact this)
      have htx := Lib.hid (show textOf t.data.toList = t by unfold textOf; rw [Array.toArray_toList])
      have hlx := Lib.hid (extract_len t)
      clear hcrash hin
      rcases hexit with ⟨h1, h2⟩ | ⟨h1, h2⟩
      all_goals
        go_wp2_with fail
        refine HCRASH.out.mono ?_
        rintro e w5 ⟨rfl, L5⟩
        have hrd := HRD.out _ L5
        rw [htx.out, hlx.out] at hrd
        have HRD2 := Lib.hid (show Calls Try.prog 16 #[.pointer (some ⟨b, 0, none⟩), .string ⟨#[107, 101, 112, 116]⟩, .int .i64 0, .int .i64 (t.size : Int)] w5 fun e w' => e = .returned (.tuple #[.string t, .int .i64 0]) ∧ Live w.heap.size w b n (P.crash l) w' from hrd)
        clear hrd
        go_wp2_with fail
        refine HRD2.out.mono ?_
        rintro e w6 ⟨rfl, L6⟩
        go_wp2_with fail
        refine (awake_any _).mono ?_
        rintro e w7 ⟨rfl, hb7⟩
        go_wp2_with fail
        go_ret
        exact ⟨rfl, L6.bel.trans (hb7.mono (live_base L6))⟩
end Go.Proofs.Ytlmodbaeoheiiaa
