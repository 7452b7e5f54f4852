/- The walk of DiskTorn. No condition. -/
import Derived.Test.YtlmodbaeoheiiaaTornPlain
namespace Go.Proofs.Ytlmodbaeoheiiaa
open Go.RowKit
set_option linter.unusedVariables false

theorem crashA {n : Int} {wt : List DPiece} {last seen : List UInt8} {fu : Int} {o : Bool} {c : Int} (l : List Int) (h : ∀ p ∈ wt, p.id = 0) : (devA n wt last seen fu o c).crash l = devA n [] (tornL wt l last) (tornL wt l last) (-1) false c := by
  unfold PS.crash
  show (PS.mk ((crashF (wt.zip l) [⟨0, ⟨#[97]⟩, last, seen⟩]).map seenF) _ _ _ _ _ _) = _
  rw [crash_one wt l _ _ _ h]
  rfl
theorem readA {n : Int} {wt : List DPiece} {last seen : List UInt8} {fu : Int} {c : Int} (h : seen.length ≤ 2097152) : (devA n wt last seen fu false c).read ⟨#[97]⟩ 0 2097152 = (textOf seen, 0) := by
  unfold PS.read
  rw [if_neg (by rw [upA]; decide)]
  have hf : findI (devA n wt last seen fu false c).files ⟨#[97]⟩ = some 0 := findA _ rfl
  rw [hf]
  show (if _ then _ else _ : ByteArray × Int) = _
  rw [if_neg (by decide)]
  show (textOf ((seen.drop 0).take 2097152), (0 : Int)) = _
  rw [List.drop_zero, List.take_of_length_le h]

theorem read_drew {B : Nat} {w0 w : World} {b n : Nat} {P : PS} (h : Live B w0 b n P w) (hn : n ≤ 1000000) (s : ByteArray) (p k : Int) (hp : p ≤ 9223372036854775807) (hk : k ≤ 9223372036854775807) :
    Calls Try.prog 16 #[.pointer (some ⟨b, 0, none⟩), .string s, .int .i64 p, .int .i64 k] w fun e w' => e = .returned (.tuple #[.string (P.read s p k).1, .int .i64 (P.read s p k).2]) ∧ ∃ q, w' = w.drewN q := by
  obtain ⟨S, rfl, h2, h3, h4, h5, h6⟩ := h
  obtain ⟨hor, hl, hsm, _⟩ := h3.ready hn
  rw [← read_pl S s p k hor]
  exact read_any b S s p k w h2 hor hl (fun f hf => (hsm f hf).1) hp hk
theorem noughts_bytes (W : List UInt8) (m : Nat) : bytesVals W ++ noughts m = bytesVals (W ++ List.replicate m 0) := by
  unfold bytesVals noughts
  rw [List.map_append, List.map_replicate]
  rfl
theorem noughts_snoc (m : Nat) : noughts (m + 1) = noughts m ++ [.int .u8 0] := by unfold noughts; rw [List.replicate_succ']
set_option maxRecDepth 100000 in
set_option maxHeartbeats 4000000 in
theorem diskTorn_walk (a : Int) (s : ByteArray) (fa : Option Addr) (len cap : Nat) (zs : List Int) (w : World) (ha : (Lit.int .i64 a).wf = true) (_hs : s.size ≤ maxLen) (hz : IsInts .i64 w fa len cap zs) :
    Calls Try.prog 3 #[.int .i64 a, .string s, .slice fa len cap] w fun e w' => e = .returned (.bool true) ∧ Below w.heap.size w w' := by
  obtain ⟨hat, hlen, _, hmax, hcap, hcm⟩ := isInts_at hz
  unfold maxLen at hmax hcm
  have hcs := cutT_size s
  have HC := Lib.hid (fun w => cut_any s w)
  generalize zs.take len = l at *
  by_cases hg : a < 0 ∨ 5000 < a
  · have hd : (decide (a < 0) || decide (5000 < a)) = true := by simp only [Bool.or_eq_true, decide_eq_true_eq]; omega
    clear hg ha hz hat hlen hmax hcap hcm _hs
    generalize cutT s = t at *
    go_enter Try.func3, Try.ntmps3
    go_wp2_with fail
    refine (HC.out _).mono ?_
    rintro e w' ⟨rfl, rfl⟩
    go_wp2_with (go_at_call 11; refine (awake_any _).mono ?_; rintro e w9 ⟨rfl, hb9⟩)
    all_goals (go_ret; exact ⟨rfl, hb9⟩)
  · obtain ⟨a, rfl⟩ := Int.eq_ofNat_of_zero_le (show 0 ≤ a by omega)
    have ha2 : a ≤ 5000 := by omega
    subst hlen
    have Hat := Lib.hid hat
    clear hg ha hz hat hcap hcm _hs
    generalize cutT s = t at *
    have hmx : t.size ≤ maxLen := by unfold maxLen; omega
    have hran : (a : Int) ≤ 2097152 - (t.size : Int) := by omega
    have hcr := fun (w1 : World) (b : Nat) (h : Live w.heap.size w b 0 (newP 200) w1) => create_live h (by decide) ⟨#[97]⟩
    rw [createA] at hcr
    have HCR := Lib.hid hcr
    have hnew := Lib.hid (new_live 200 w (by decide))
    obtain ⟨sn, fu2, cn, hwr⟩ : ∃ sn fu2 cn, (devA 200 [] [] [] (-1) false 0).write ⟨#[97]⟩ a t = (0, devA 200 (cutsP 0 t.size a t) [] sn fu2 false cn) := by
      by_cases h0 : t.size = 0
      · exact ⟨[], -1, 0, by rw [writeA_none hran h0, cutsP_nil h0]⟩
      · have := writeA_ok (n := 200) (wt := []) (last := []) (seen := []) (fu := -1) (c := 0) hran (by omega) (by unfold secs; omega) (Or.inl (by omega))
        rw [List.nil_append] at this
        exact ⟨_, _, _, this⟩
    have hw := fun (w1 : World) (b : Nat) (h : Live w.heap.size w b 1 (devA 200 [] [] [] (-1) false 0) w1) => write_live h (by decide) ⟨#[97]⟩ a t (by simp [Lit.wf, IntKind.min, IntKind.max, IntKind.bits, IntKind.signed]; omega) hmx
    rw [hwr] at hw
    have HW := Lib.hid hw
    have HCA := Lib.hid (crashA (n := 200) (wt := cutsP 0 t.size a t) (last := []) (seen := sn) (fu := fu2) (o := false) (c := cn) l (cutsP_id 0 _ _ _))
    generalize hRES : tornL (cutsP 0 t.size a t) l [] = RES at HCA
    have HR0 := Lib.hid (show tornL (cutsP 0 t.size a t) (l.drop 0) [] = RES by rw [List.drop_zero]; exact hRES)
    clear hw hcr hwr hran hmx hRES
    go_enter Try.func3, Try.ntmps3
    go_wp2_with fail
    refine (HC.out _).mono ?_
    rintro e w' ⟨rfl, rfl⟩
    go_wp2_with fail
    refine hnew.out.mono ?_
    rintro e w1 ⟨b, rfl, L1⟩
    go_wp2_with fail
    refine (HCR.out _ _ L1).mono ?_
    rintro e w2 ⟨rfl, L2⟩
    go_wp2_with fail
    refine (HW.out _ _ L2).mono ?_
    rintro e w3 ⟨rfl, L3⟩
    go_wp2_with fail
    have hcr3 := crash_live L3 (by omega) fa cap l (intsAt_below Hat.out L3.bel) (fun g off hl0 e => by
      rcases Hat.out with h | ⟨b', off', h1, h2, _⟩
      · exact absurd h hl0
      · rw [h1] at e
        injection e with e
        injection e with e1 _ _
        left; omega) (by omega)
    rw [HCA.out] at hcr3
    have HC3 := Lib.hid hcr3
    clear hcr3
    refine HC3.out.mono ?_
    rintro e w4 ⟨rfl, L4⟩
    have hrs : RES.length ≤ 2097152 := by
      obtain ⟨S, _, _, hok, _⟩ := L4
      exact (hok.small _ (List.mem_cons_self ..)).1
    have HRD := Lib.hid (fun (w1 : World) (h : Live w.heap.size w b (1 + t.size) (devA 200 [] RES RES (-1) false cn) w1) => by
      have := read_drew h (by omega) ⟨#[97]⟩ 0 2097152 (by decide) (by decide)
      rw [readA hrs] at this
      exact this)
    have HL4 := Lib.hid L4
    have hB0 := (Below.refl w4.heap.size w4).alloc (Nat.le_refl _) (.cells #[] 5)
    have hE0 := empty_rowD w4 5 1
    have HB0 := Lib.hid hB0
    have HE0 := Lib.hid hE0
    clear hB0 hE0 L1 L2 L3 L4 HC3 HCA HW HCR hnew HC
    go_wp2_with fail
    generalize hgw5 : w4.alloc (.cells #[] 5) = w5 at HB0 HE0 ⊢
    clear hgw5
    have hwz : w.heap.size ≤ w4.heap.size := live_base HL4.out
    have hats : a + t.size ≤ 5700 := by omega
    go_loopw [9, 10, 11, 12] (fun v x y i wr => ∃ (g cp : Nat) (W : List UInt8) (a1 : Nat) (t1 : ByteArray) (ii m : Nat), v = .slice (some ⟨g, 0, none⟩) W.length cp ∧ x = .int .i64 a1 ∧ y = .string t1 ∧ i = .int .i64 ii ∧ a1 + t1.size ≤ 5700 ∧ t1.size ≤ m ∧ W.length ≤ 5700 ∧ ii + t1.size ≤ 700 ∧ Hid (tornL (cutsP 0 m a1 t1) (l.drop ii) W = RES) ∧ Hid (wr.ownsRow w4.heap.size 5 1 v W.length (bytesVals W)) ∧ Hid (Below w4.heap.size w4 wr)) (fun _ _ y _ _ => strLen y)
    case atStart => exact ⟨_, 0, [], a, t, 0, t.size, rfl, rfl, rfl, rfl, hats, Nat.le_refl _, by simp, by omega, HR0, HE0, HB0⟩
    case round =>
      clear HR0 HB0 HE0 hats
      obtain ⟨g, cp, W, a1, t1, ii, m, rfl, rfl, rfl, rfl, hat1, hm1, hW1, hii, HT, HO, HB⟩ := hrel
      by_cases ht : 0 < t1.size
      · have hem : t1.toList.isEmpty = false := notEmpty t1 ht
        have hnil : ¬ t1.toList = [] := by intro h; rw [h] at hem; simp at hem
        obtain ⟨n, hn⟩ : ∃ n, n = room a1 t1 := ⟨_, rfl⟩
        have hnr : n = min t1.size (64 - a1 % 64) := hn
        have HN := Lib.hid hn
        obtain ⟨hn1, hn2, hn3⟩ := room_pos (a := a1) ht
        rw [← hn] at hn1 hn2 hn3
        have hncase : ((t1.size : Int) < 64 - (a1 : Int) % 64 ∧ n = t1.size) ∨ (¬ ((t1.size : Int) < 64 - (a1 : Int) % 64) ∧ (64 : Int) - (a1 : Int) % 64 = (n : Int)) := by omega
        have HNC := Lib.hid hncase
        clear hnr hncase hn
        go_upto_if 60 with (fail)
        go_cut [13] (fun v wx => v = .int .i64 (n : Int) ∧ wr = wx)
        case first =>
          rcases HNC.out with ⟨h1, h2⟩ | ⟨h1, h2⟩
          · go_wp2_with fail
            go_meet
            exact ⟨by first | rfl | rw [h2], rfl⟩
          · go_wp2_with fail
            go_meet
            exact ⟨by first | rfl | rw [h2], rfl⟩
        case rest =>
          obtain ⟨rfl, rfl⟩ := hcut
          clear HNC
          have hIA := intsAt_below Hat.out (HL4.out.bel.trans (HB.out.mono hwz))
          obtain ⟨k, hk⟩ : ∃ k, k = keptN l ii n := ⟨_, rfl⟩
          have HK := Lib.hid hk
          have hkn : k ≤ n := by rw [hk]; exact keptN_le _ _ _
          obtain ⟨c1, hc1⟩ : ∃ c1 : Bool, c1 = (match l[ii]? with | some x => x == 1 | none => false) := ⟨_, rfl⟩
          obtain ⟨c2, hc2⟩ : ∃ c2 : Bool, c2 = (match l[ii]? with | some x => x == 2 | none => false) := ⟨_, rfl⟩
          have hcase : (l.length ≤ ii ∧ c1 = false ∧ c2 = false) ∨ (∃ fb off x, fa = some ⟨fb, off, none⟩ ∧ ii < l.length ∧ wr.cell? ⟨fb, off + ii, none⟩ = some (.int .i64 x) ∧ c1 = (x == 1) ∧ c2 = (x == 2)) := by
            rcases Nat.lt_or_ge ii l.length with hi | hi
            · right
              rcases hIA with h | ⟨fb, off, h1, h2, h3⟩
              · rw [h] at hi; simp at hi
              · rw [List.getElem?_eq_getElem hi] at hc1 hc2
                exact ⟨fb, off, l[ii], h1, hi, h3 ii hi, hc1, hc2⟩
            · left
              rw [List.getElem?_eq_none hi] at hc1 hc2
              exact ⟨hi, hc1, hc2⟩
          have hkc : (c1 = true ∧ c2 = false ∧ k = n) ∨ (c1 = false ∧ c2 = true ∧ k = n / 2) ∨ (c1 = false ∧ c2 = false ∧ k = 0) := by
            unfold keptN at hk
            rcases Nat.lt_or_ge ii l.length with hi | hi
            · rw [List.getElem?_eq_getElem hi] at hk hc1 hc2
              simp only at hk hc1 hc2
              by_cases e1 : l[ii] = 1
              · left; rw [if_neg (by omega), if_pos e1] at hk; rw [e1] at hc1 hc2; exact ⟨hc1, hc2, hk⟩
              · by_cases e2 : l[ii] = 2
                · right; left; rw [if_pos e2] at hk; rw [e2] at hc1 hc2; exact ⟨hc1, hc2, hk⟩
                · right; right; rw [if_neg e2, if_neg e1] at hk
                  exact ⟨hc1.trans (beq_eq_false_iff_ne.2 e1), hc2.trans (beq_eq_false_iff_ne.2 e2), hk⟩
            · rw [List.getElem?_eq_none hi] at hk hc1 hc2
              exact Or.inr (Or.inr ⟨hc1, hc2, hk⟩)
          obtain ⟨k1, hk1⟩ : ∃ k1 : Nat, k1 = if c1 then n else 0 := ⟨_, rfl⟩
          have hkc2 : (c2 = true ∧ k = n / 2) ∨ (c2 = false ∧ k = k1) := by
            rcases hkc with ⟨h1, h2, h3⟩ | ⟨h1, h2, h3⟩ | ⟨h1, h2, h3⟩
            · right; rw [h1] at hk1; exact ⟨h2, by rw [hk1, h3]; rfl⟩
            · left; exact ⟨h2, h3⟩
            · right; rw [h1] at hk1; exact ⟨h2, by rw [hk1, h3]; rfl⟩
          have HCASE := Lib.hid hcase
          have HKC := Lib.hid hkc2
          have HK1 := Lib.hid hk1
          clear hIA hk hcase hkc hkc2 hc1 hc2 hk1
          go_upto_region 21 with (fail)
          go_cut [73] (fun v wx => v = .bool c1 ∧ wr = wx)
          case first =>
            rcases HCASE.out with ⟨h1, h2, h3⟩ | ⟨fb, off, x, h1, h2, h3, h4, h5⟩
            · go_wp2_with fail
              all_goals (go_meet; exact ⟨by rw [h2], rfl⟩)
            · subst h1
              go_wp2_with fail
              all_goals (go_meet; exact ⟨by rw [h4], rfl⟩)
          case rest =>
            obtain ⟨rfl, rfl⟩ := hcut
            go_upto_if 73 with (fail)
            go_cut [14] (fun v wx => v = .int .i64 (k1 : Int) ∧ wr = wx)
            case first =>
              cases c1
              all_goals (go_wp2_with fail; go_meet; exact ⟨by rw [HK1.out]; rfl, rfl⟩)
            case rest =>
              obtain ⟨rfl, rfl⟩ := hcut
              go_upto_region 23 with (fail)
              go_cut [85] (fun v wx => v = .bool c2 ∧ wr = wx)
              case first =>
                rcases HCASE.out with ⟨h1, h2, h3⟩ | ⟨fb, off, x, h1, h2, h3, h4, h5⟩
                · go_wp2_with fail
                  all_goals (go_meet; exact ⟨by rw [h3], rfl⟩)
                · subst h1
                  go_wp2_with fail
                  all_goals (go_meet; exact ⟨by rw [h5], rfl⟩)
              case rest =>
                obtain ⟨rfl, rfl⟩ := hcut
                go_upto_if 85 with (fail)
                go_cut [14] (fun v wx => v = .int .i64 (k : Int) ∧ wr = wx)
                case first =>
                  rcases HKC.out with ⟨h1, h2⟩ | ⟨h1, h2⟩
                  · subst h1
                    go_wp2_with fail
                    go_meet
                    exact ⟨val_int (by omega), rfl⟩
                  · subst h1
                    go_wp2_with fail
                    go_meet
                    exact ⟨val_int (by omega), rfl⟩
                case rest =>
                  obtain ⟨rfl, rfl⟩ := hcut
                  clear HCASE HKC HK1
                  go_wp2_with fail
                  obtain ⟨i0, hi0, hz0, hz1, hz2⟩ := info_parts info_byte
                  have Hi0 := Lib.hid hi0
                  clear hi0
                  have HO' := Lib.hid (show wr.ownsRow w4.heap.size 5 1 (.slice (some ⟨g, 0, none⟩) W.length cp) W.length (bytesVals W ++ noughts (W.length - W.length)) by rw [Nat.sub_self]; simpa [noughts] using HO.out)
                  go_loopw [9] (fun v wq => ∃ (g2 cp2 q : Nat), v = .slice (some ⟨g2, 0, none⟩) q cp2 ∧ W.length ≤ q ∧ q ≤ max W.length (a1 + k) ∧ (0 < k ∨ q = W.length) ∧ Hid (wq.ownsRow w4.heap.size 5 1 v q (bytesVals W ++ noughts (q - W.length))) ∧ Hid (Below w4.heap.size w4 wq)) (fun v _ => a1 + k + W.length - slen v)
                  case atStart => exact ⟨g, cp, W.length, rfl, Nat.le_refl _, by omega, Or.inr rfl, HO', HB⟩
                  case round =>
                    clear HO HO' HB
                    obtain ⟨g2, cp2, q, rfl, hq1, hq2, hq3, HO2, HB2⟩ := hrel
                    by_cases hc : 0 < k ∧ q < a1 + k
                    · obtain ⟨hc1, hc2⟩ := hc
                      have hk0 : (0 : Int) < (k : Int) := by omega
                      have hql : (q : Int) < (a1 : Int) + (k : Int) := by omega
                      have hnews : ∀ j u, [Value.int .u8 0][j]? = some u → (wr.alloc (.cells #[.int .u8 0] 5)).cell? ((⟨wr.heap.size, 0, none⟩ : Addr).add j) = some u := fun j u hj => by
                        rw [addr_add, (Blk.new wr [.int .u8 0] 5).cell]; exact hj
                      have Hnews := Lib.hid hnews
                      have HO3 := Lib.hid (HO2.out.alloc (.cells #[.int .u8 0] 5))
                      have hzq := HB2.out.size
                      clear hnews
                      go_wp2_with (at_builtin; refine wpList_append_lies _ rfl _ _ 32 rfl w4.heap.size 5 i0 _ 1 1 Try.underlying32 Hi0.out hz0 hz1 hz2 rfl (by decide) _ q _ rfl HO3.out ⟨wr.heap.size, 0, none⟩ 1 1 [.int .u8 0] rfl rfl Hnews.out (by simp [Value.oneCell']) (by decide) (by unfold maxLen; omega) (by omega) (by simp; omega) (wr.heap.size + 1) (by simp) ?_; intro g3 cp3 w6 hown6 hgrow hat6 hlt6)
                      have HO6 := Lib.hid (show w6.ownsRow w4.heap.size 5 1 (.slice (some ⟨g3, 0, none⟩) (q + 1) cp3) (q + 1) (bytesVals W ++ noughts (q + 1 - W.length)) by
                        rw [show q + 1 - W.length = (q - W.length) + 1 by omega, noughts_snoc, ← List.append_assoc]
                        exact hown6)
                      have HB6 := Lib.hid ((HB2.out.alloc (by omega) (.cells #[.int .u8 0] 5)).grown hgrow (by simp; omega) (fun k hk => (HO2.out.lt k hk).1))
                      clear hown6 hgrow hat6 hlt6 HO2 HO3 HB2
                      go_wp2_with fail
                      go_roundw
                      case rel => exact ⟨g3, cp3, q + 1, rfl, by omega, by omega, Or.inl hc1, HO6, HB6⟩
                      case measure => simp [slen]; omega
                    · obtain ⟨E, hE⟩ : ∃ E, E = W ++ List.replicate (q - W.length) 0 := ⟨_, rfl⟩
                      have hEl : E.length = q := by rw [hE, List.length_append, List.length_replicate]; omega
                      have hEW : (k = 0 ∧ E = W) ∨ (0 < k ∧ E = wide W a1 k) := by
                        by_cases hk0 : k = 0
                        · left
                          refine ⟨hk0, ?_⟩
                          have : q - W.length = 0 := by omega
                          rw [hE, this]; simp
                        · right
                          refine ⟨by omega, ?_⟩
                          unfold wide
                          have : q - W.length = a1 + k - W.length := by omega
                          rw [hE, this]
                      have hTl : t1.data.toList.length = t1.size := extract_len t1
                      have HO3 := Lib.hid (show wr.ownsRow w4.heap.size 5 1 (.slice (some ⟨g2, 0, none⟩) q cp2) q (bytesVals (mid E t1.data.toList a1 0)) by
                        rw [mid_zero, hE, ← noughts_bytes]; exact HO2.out)
                      have HEW := Lib.hid hEW
                      have HEl := Lib.hid hEl
                      have HTl := Lib.hid hTl
                      have hkq : k = 0 ∨ a1 + k ≤ q := by omega
                      have hgt : (0 < k ∧ ¬ (q : Int) < (a1 : Int) + (k : Int)) ∨ ¬ (0 : Int) < (k : Int) := by omega
                      have hgB : w4.heap.size ≤ g2 := (HO2.out.lt g2 rfl).1
                      clear hE hEW hEl hTl HO2
                      rcases hgt with ⟨hk0, hkq2⟩ | hk0
                      all_goals
                        go_wp2_with fail
                        go_loopw [15] (fun j wj => ∃ jj : Nat, j = .int .i64 jj ∧ jj ≤ k ∧ Hid (wj.ownsRow w4.heap.size 5 1 (.slice (some ⟨g2, 0, none⟩) q cp2) q (bytesVals (mid E t1.data.toList a1 jj))) ∧ Hid (Below w4.heap.size w4 wj)) (fun j _ => k - (intOf j).toNat)
                        case atStart => exact ⟨0, rfl, Nat.zero_le _, HO3, HB2⟩
                        case round =>
                          clear HO3 HB2
                          obtain ⟨jj, rfl, hjk, HO4, HB4⟩ := hrel
                          by_cases hlt : jj < k
                          · first
                            | (exfalso; omega)
                            | (have hjt : jj < t1.size := by omega
                               have haq : a1 + jj < q := by omega
                               have haqi : (a1 : Int) + (jj : Int) < (q : Int) := by omega
                               obtain ⟨g', cap', hv, _, _, _, _, hcl⟩ := row_some HO4.out (by omega)
                               injection hv with hv1 _ hv3
                               injection hv1 with hv1
                               injection hv1 with hv1
                               subst hv1
                               have hcc : wr.cell? ⟨g2, a1 + jj, none⟩ = some (.int .u8 (((mid E t1.data.toList a1 jj)[a1 + jj]'(by rw [mid_length (by rw [HEl.out]; omega) (by rw [HTl.out]; omega), HEl.out]; omega)).toNat : Int)) := by
                                 rw [hcl (a1 + jj) (by omega), bytesVals, List.getElem?_map, List.getElem?_eq_getElem]
                                 rfl
                               generalize (mid E t1.data.toList a1 jj)[a1 + jj]'_ = old at hcc
                               have hfr := row_free HO4.out (a1 + jj)
                               have hset := row_setCell HO4.out haq (.int .u8 ((t1[jj]).toNat : Int))
                               have htj : t1.data.toList[jj]'(by rw [HTl.out]; exact hjt) = t1[jj] := by rw [Array.getElem_toList]; rfl
                               rw [bytes_set, ← htj, mid_set (by rw [HEl.out]; exact haq) (by rw [HTl.out]; exact hjt), htj] at hset
                               have HS := Lib.hid hset
                               have HBS := Lib.hid (HB4.out.setCell (p := ⟨g2, a1 + jj, none⟩) hgB (.int .u8 ((t1[jj]).toNat : Int)))
                               clear hset htj hcl hv3
                               go_wp2_with fail
                               go_roundw
                               case rel => exact ⟨jj + 1, by go_num, by omega, HS, HBS⟩
                               case measure => simp [intOf]; omega)
                          · obtain rfl : jj = k := by omega
                            have hW2 : mid E t1.data.toList a1 jj = nextL W a1 jj t1 := by
                              rcases HEW.out with ⟨e1, e2⟩ | ⟨e1, e2⟩
                              · subst e1
                                rw [mid_zero, e2]; rfl
                              · rw [e2, mid_lay (by rw [HTl.out]; omega)]
                                unfold nextL; rw [if_pos e1]
                            have hWl : (nextL W a1 jj t1).length = q := by
                              rcases HEW.out with ⟨e1, e2⟩ | ⟨e1, e2⟩
                              · have h7 : nextL W a1 jj t1 = W := if_neg (by omega)
                                rw [h7, ← e2]; exact HEl.out
                              · rw [← hW2, mid_length (by rw [HEl.out]; omega) (by rw [HTl.out]; omega), HEl.out]
                            have hTn : tornL (cutsP 0 (m - 1) (a1 + n) (t1.extract n t1.size)) (l.drop (ii + 1)) (nextL W a1 jj t1) = RES := by
                              rw [← HT.out, torn_round hm1 ht, ← HN.out, ← HK.out]
                            have HTn := Lib.hid hTn
                            have HOn := Lib.hid (show wr.ownsRow w4.heap.size 5 1 (.slice (some ⟨g2, 0, none⟩) q cp2) (nextL W a1 jj t1).length (bytesVals (nextL W a1 jj t1)) by rw [hWl, ← hW2]; exact HO4.out)
                            have hqv : Value.slice (some ⟨g2, 0, none⟩) q cp2 = .slice (some ⟨g2, 0, none⟩) (nextL W a1 jj t1).length cp2 := by rw [hWl]
                            have hWb : (nextL W a1 jj t1).length ≤ 5700 := by rw [hWl]; omega
                            have HQV := Lib.hid hqv
                            have hni4 : (n : Int) ≤ (t1.size : Int) := by omega
                            clear hW2 hWl hTn hqv HEW HEl HTl HO4 HT
                            go_wp2_with fail
                            go_roundw
                            case rel => exact ⟨g2, cp2, nextL W a1 jj t1, a1 + n, t1.extract n t1.size, ii + 1, m - 1, HQV.out, by go_num, rfl, by go_num, by rw [ByteArray.size_extract]; omega, by rw [ByteArray.size_extract]; omega, hWb, by rw [ByteArray.size_extract]; omega, HTn, by first | exact HOn | (rw [← HQV.out]; exact HOn), HB4⟩
                            case measure => simp [strLen, ByteArray.size_extract]; omega
      · have h0 : t1.size = 0 := by omega
        have hem : t1.toList = [] := by
          have : t1 = ByteArray.empty := ByteArray.size_eq_zero_iff.1 h0
          rw [this, ByteArray.toList_eq]; rfl
        have hWR : W = RES := by
          have := HT.out
          rw [cutsP_nil h0] at this
          cases hd : l.drop ii <;> (rw [hd] at this; exact this)
        have hcv := fun (q c : Nat) => run_convert_bytes_back (P := Try.prog) (wr.drewN q) 32 9 5 ⟨g, 0, none⟩ c W Try.underlying32 Try.underlying5 Try.underlying9 (fun j hj => by
          obtain ⟨g', cap', hv, _, _, _, _, hc⟩ := row_some HO.out (by omega)
          injection hv with hv1 _ _
          injection hv1 with hv1
          injection hv1 with hv1
          subst hv1
          show wr.cell? _ = _
          rw [addr_add, hc j (by omega), bytesVals, List.getElem?_map, List.getElem?_eq_getElem hj]
          rfl)
        have HLr := Lib.hid (HL4.out.below HB.out)
        have HRr := Lib.hid (HRD.out _ HLr.out)
        have HWR := Lib.hid hWR
        rw [hWR] at hcv
        have HCV := Lib.hid hcv
        clear hcv hWR
        go_wp2_with fail
        refine HRr.out.mono ?_
        rintro e w7 ⟨rfl, q7, rfl⟩
        have hcv7 := HCV.out q7
        have hWl : W.length = RES.length := by rw [HWR.out]
        rw [← hWl] at hcv7
        have hL7 := HLr.out.below (below_drewN (Below.refl wr.heap.size wr) q7)
        have hcv8 : ∀ c, (convert 32 9 (.slice (some ⟨g, 0, none⟩) W.length c)).run Try.prog (wr.drewN q7) = .ok (.string (textOf RES)) (wr.drewN q7) := hcv7
        have HL7 := Lib.hid hL7
        clear hcv7 hL7 hWl
        generalize wr.drewN q7 = w8 at hcv8 HL7 ⊢
        go_wp2_with fail
        refine (awake_any _).mono ?_
        rintro e w9 ⟨rfl, hb9⟩
        go_wp2_with fail
        go_ret
        exact ⟨rfl, HL7.out.bel.trans (hb9.mono (live_base HL7.out))⟩
end Go.Proofs.Ytlmodbaeoheiiaa
