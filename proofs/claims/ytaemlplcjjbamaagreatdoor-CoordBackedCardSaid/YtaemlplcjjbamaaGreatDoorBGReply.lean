/- The walk of a coordinator's prunes in whatever state. Condit -/
import Derived.Test.YtaemlplcjjbamaaGreatDoorBGOut
namespace Go.Proofs.YtaemlplcjjbamaaGreatDoor
open Go.Lib (hid)
set_option maxRecDepth 100000
set_option maxHeartbeats 8000000
open Go Go.RowKit
set_option linter.unusedVariables false
variable {S : List UInt8} {Ts : List TypeId} {Z b c k kb mb n : Nat} {bal id : Int} {w w' w0 : World}
def zFh (id v bal fl : Int) : MG := { MG.zero with k := 15, fr := id, to_ := v, bal := bal, fl := fl }
theorem gc_prunes {G : Gh} {D : Dt} {S : CSt} (h : Gc w0 c kb mb n id bal G Z D S w) (K : CalD) (hK : D.cal = some K) (hk : G.gk ≠ 1) (hm : ∃ r, Maj n (G.VY r)) :
  Calls Tryz.prog 62 #[.pointer (some ⟨c, 0, none⟩)] w (GOut w0 c kb mb n id bal G Z 9 w) := by
 have hbl := h.at_.1.lt
 have H0 := hid h
 have HM := hid (And.intro hk hm)
 have Hcn := hid (show D.cal ≠ none by rw [hK]; exact fun e => by cases e)
 obtain ⟨k1, _⟩ := h.gf.calB K hK
 have hsc : S.call = .pointer (some ⟨K.k, 0, none⟩) := by rw [h.gf.cal, hK]; rfl
 have c86 : w.cell? ⟨c, 86, none⟩ = some (.pointer (some ⟨K.k, 0, none⟩)) := by rw [← hsc]; exact h.at_.ft 2
 have q1 : w.cell? ⟨K.k, 1, none⟩ = some (.int .i64 K.kg) := k1.cell 1
 have hkl := k1.lt
 have c5 : w.cell? ⟨c, 5, none⟩ = some (.int .i64 S.floor) := h.at_.hd 5 (by omega)
 have c6 : w.cell? ⟨c, 6, none⟩ = some (.int .i64 S.top) := h.at_.hd 6 (by omega)
 have hn1 := h.gf.n1
 have hn9 := h.gf.n9
 have Hn := hid h.gf.n_
 have hw0 := h.gf.below.size
 have hcl : clip (n : Int) = n := by unfold clip; rw [if_neg (by omega), if_neg (by omega)]; omega
 have Hcl := hid hcl
 generalize K.k = kk at c86 q1 hkl
 generalize K.kg = kg at q1
 clear h hk hm k1 hsc hcl hK
 by_cases h1 : kg ≤ S.floor
 ·have HEnd := hid (fun w' (hb : Below w.heap.size w w') => zDR (H0.out.quiet hb) 0 S.top S.floor none none 0 0 0 0 (fun _ _ => ⟨fun e => absurd e HM.out.1, fun _ => HM.out.2⟩))
  have HK := hid (fun w' (hb : Below w.heap.size w w') => (And.intro (show w'.cell? ⟨c, 6, none⟩ = some (.int .i64 S.top) from (H0.out.at_.below hb).hd 6 (by omega)) (show w'.cell? ⟨c, 5, none⟩ = some (.int .i64 S.floor) from (H0.out.at_.below hb).hd 5 (by omega))))
  have hk0 := HK.out w.drew (Below.refl _ _).drew
  go_enter Tryz.func62, Tryz.ntmps62
  go_wp2_with fail
  go_region_held3 (fun w' => w'.cell? ⟨c, 6, none⟩ = some (.int .i64 S.top) ∧ w'.cell? ⟨c, 5, none⟩ = some (.int .i64 S.floor))
   (first | with_reducible exact hk0 | with_reducible exact hk7 | go_keep)
   ((go_at_call 21; refine (HEnd.out _ (Below.refl _ _).drew).mono ?_; rintro x w7 ⟨rfl, ⟨D7, S7, h7, hfl, htp⟩, hf7, hkt7⟩; have hk7 : w7.cell? ⟨c, 6, none⟩ = some (.int .i64 S.top) ∧ w7.cell? ⟨c, 5, none⟩ = some (.int .i64 S.floor) := ⟨by have := h7.at_.hd 6 (by omega); rw [this]; show some (Value.int .i64 S7.top) = _; rw [htp], by have := h7.at_.hd 5 (by omega); rw [this]; show some (Value.int .i64 S7.floor) = _; rw [hfl]⟩))
  have H7 := hid h7
  have HF7 := hid ((Fr.of_below (w0 := w0) (Below.refl _ w).drew).trans hf7)
  clear h7 hfl htp hf7 hkt7 hk7 HEnd HK
  go_wp2_with fail
  go_ret
  exact zCo ⟨_, _, H7.out⟩ HF7.out
 ·by_cases h2 : S.top ≤ kg
  ·have HE := hid (zEm H0.out 2 0 0 none none 0 0 0 0 (fun e => absurd e (by decide)))
   go_enter Tryz.func62, Tryz.ntmps62
   go_wp2_with fail
   refine HE.out.mono ?_
   rintro e w3 ⟨rfl, hG, hF⟩
   have HG3 := hid hG
   have HF3 := hid hF
   clear hG hF HE
   go_wp2_with fail
   go_ret
   exact zCo HG3.out HF3.out
  ·have hpc : w.cell? ⟨c, 90, none⟩ = some S.pruned := H0.out.at_.ft 6
   go_enter Tryz.func62, Tryz.ntmps62
   go_upto_region 8 with fail
   go_cut [46] (fun v wx => v = .bool D.prn.isNone ∧ w = wx)
   case first =>
    cases hp : D.prn with
    | none =>
     rw [show S.pruned = .pointer none by rw [H0.out.gf.prn, hp]; rfl] at hpc
     go_wp2_with fail
     go_meet
     exact ⟨by rw [hp]; rfl, rfl⟩
    | some t =>
     rw [show S.pruned = .pointer (some ⟨t.1, 0, none⟩) by rw [H0.out.gf.prn, hp]; rfl] at hpc
     go_wp2_with fail
     go_meet
     exact ⟨by rw [hp]; rfl, rfl⟩
   case rest =>
    obtain ⟨rfl, rfl⟩ := hcut
    go_upto_if 46 with (fail)
    go_cut [] (fun wx => ∃ (D1 : Dt) (S1 : CSt) (t : Nat) (M : List Bool), S1.pruned = .pointer (some ⟨t, 0, none⟩) ∧ Hid (Gc w0 c kb mb n id bal G Z D1 S1 wx) ∧ Hid (D1.prn = some (t, M)) ∧ Hid (Fr w0 w wx))
    case first =>
     cases hp : D.prn with
     | none =>
      have Hp := hid hp
      have c1 : w.cell? ⟨c, 1, none⟩ = some (.int .i64 (n : Int)) := by rw [← Hn.out]; exact H0.out.at_.hd 1 (by omega)
      clear hp
      go_wp2_with fail
      refine (zBB (n : Int) w).mono ?_
      rintro e w3 ⟨t, rfl, hts, hta, hb3⟩
      rw [Hcl.out] at hta
      have C3 := H0.out.at_.below hb3
      have f90 := C3.1.free 90
      have hl3 := C3.1.lt
      have d90 : w3.cell? ⟨c, 90, none⟩ = some S.pruned := C3.ft 6
      have htb : t ≠ c := hta.1.ne C3.1 (by decide)
      have C4 : zAb (w3.setCell ⟨c, 90, none⟩ (.pointer (some ⟨t, 0, none⟩))) c { S with pruned := .pointer (some ⟨t, 0, none⟩) } := C3.setFt 6 _ _ rfl rfl rfl
      have A4 : zAi (w3.setCell ⟨c, 90, none⟩ (.pointer (some ⟨t, 0, none⟩))) t n (List.replicate 9 false) := ⟨hta.1.set_other (a := ⟨c, 90, none⟩) htb _, hta.2⟩
      have T4 : Touch (fun k => k = c) w (w3.setCell ⟨c, 90, none⟩ (.pointer (some ⟨t, 0, none⟩))) := zAa (Touch.of_below hb3) _
      obtain ⟨g4, f4⟩ := H0.out.gf.newPrn Hp.out H0.out.at_ T4 t A4 hts Hcn.out HM.out.1 HM.out.2
      have HG4 := hid (show Gc w0 c kb mb n id bal G Z { D with prn := some (t, List.replicate 9 false) } { S with pruned := .pointer (some ⟨t, 0, none⟩) } (w3.setCell ⟨c, 90, none⟩ (.pointer (some ⟨t, 0, none⟩))) from ⟨C4, g4⟩)
      have HF4 := hid f4
      clear C3 hta hb3 C4 A4 T4 g4 f4
      go_wp2_with fail
      go_meet
      exact ⟨_, _, t, _, rfl, HG4, hid rfl, HF4⟩
     | some t =>
      have Hp := hid hp
      clear hp
      go_wp2_with fail
      go_meet
      refine ⟨D, S, t.1, t.2, ?_, H0, Hp, hid (Fr.of_below (Below.refl _ _))⟩
      rw [H0.out.gf.prn, Hp.out]; rfl
    case rest =>
     obtain ⟨D1, S1, t, M, hpr, HG, HP, HF⟩ := hcut
     have Hpr := hid hpr
     have d1 : wc.cell? ⟨c, 1, none⟩ = some (.int .i64 (n : Int)) := by rw [← HG.out.gf.n_]; exact HG.out.at_.hd 1 (by omega)
     have hl1 := HG.out.at_.1.lt
     clear hpr hpc c86 q1 c5 c6 H0
     go_wp2_with fail
     go_loopw [4, 59] (fun ov iv wr => ∃ (v : Nat) (ms : List MG), iv = .int .i64 (v : Int) ∧ v ≤ n ∧ Hid (wr.ownsRow w.heap.size 30 14 ov ms.length (msgsV ms)) ∧ ms.length ≤ v ∧ Hid (∀ m ∈ ms, SentM m) ∧ Hid (Gc w0 c kb mb n id bal G Z D1 S1 wr) ∧ Hid (Fr w0 w wr)) (fun _ iv _ => n - (intOf iv).toNat)
     case atStart => exact ⟨0, [], rfl, Nat.zero_le _, hid (World.ownsRow_nil _ _ _ _), Nat.le_refl _, hid (fun m hm => by cases hm), HG, HF⟩
     case round =>
      obtain ⟨v, ms, rfl, hv, HV, hL, HS, HGr, HFr⟩ := hrel
      clear HG HF d1
      by_cases hlt : v < n
      ·have e90 : wr.cell? ⟨c, 90, none⟩ = some (.pointer (some ⟨t, 0, none⟩)) := by rw [← Hpr.out]; exact HGr.out.at_.ft 6
       have HH := hid (zDF t n M v wr (HGr.out.gf.prnB _ HP.out).1 hlt)
       have HTo := hid (zEA c S1 (v : Int) 15 wr HGr.out.at_)
       have hszr := HFr.out.2.size
       cases hb : M.getD v false with
       | true =>
        rw [hb] at HH
        go_wp2_with fail
        refine HH.out.mono ?_
        rintro e wx ⟨rfl, rfl⟩
        go_wp2_with fail
        go_roundw
        case rel => exact ⟨v + 1, ms, by go_num, by omega, HV, by omega, HS, HGr, HFr⟩
        case measure => simp [intOf]; omega
       | false =>
        rw [hb] at HH
        go_wp2_with fail
        refine HH.out.mono ?_
        rintro e wx ⟨rfl, rfl⟩
        go_wp2_with fail
        refine HTo.out.mono ?_
        rintro e w6 ⟨rfl, hb6⟩
        have HG6 := hid (HGr.out.quiet hb6)
        have HV6 := hid (zAc HV.out hb6)
        have HF6 := hid (HFr.out.trans (Fr.of_below hb6))
        have hsz6 := HF6.out.2.size
        clear hb6 HGr HV HFr HH HTo e90
        simp only [zBM]
        obtain ⟨oa, oc, rfl⟩ := zAe HV6.out
        obtain ⟨ml, hml⟩ : ∃ ml, ml = ms.length := ⟨_, rfl⟩
        rw [← hml] at HV6 hL ⊢
        have Hml := hid hml
        clear hml
        have HVa := hid (HV6.out.alloc (.cells (zFh S1.id v S1.ballot kg).vals.toArray 30))
        go_wp2_with (at_builtin; refine zAx rfl _ _ 40 rfl w.heap.size 30 14 144 Tryz.underlying40 _ zBE rfl (by decide) _ _ _ rfl HVa.out (w6.heap.size + 1) (by simp) (zFh S1.id v S1.ballot kg).vals rfl rfl (MG.vals_one _) ?c1 ?c2 ?c3 ?_)
        case c1 => unfold maxLen; omega
        case c2 => omega
        case c3 => first | omega | (simp; omega)
        intro v7 w7 hown hgr
        obtain ⟨g7, f7, _⟩ := zDl HG6.out HF6.out hw0 HV6.out (((Below.refl w6.heap.size w6).alloc (Nat.le_refl _) _).alloc (by simp) _) hgr
        have HV7 := hid (show w7.ownsRow w.heap.size 30 14 v7 (ms ++ [zFh S1.id v S1.ballot kg]).length (msgsV (ms ++ [zFh S1.id v S1.ballot kg])) by rw [List.length_append, ← Hml.out, zAL, show msgsV [zFh S1.id v S1.ballot kg] = (zFh S1.id v S1.ballot kg).vals by unfold msgsV; simp]; exact hown)
        have HG7 := hid g7
        have HF7 := hid f7
        clear hown hgr g7 f7 HV6 HVa HG6 HF6
        go_wp2_with fail
        go_roundw
        case rel => exact ⟨v + 1, ms ++ [zFh S1.id v S1.ballot kg], by go_num, by omega, HV7, by rw [List.length_append, ← Hml.out]; simp; omega, hid (fun x hx => by
         rcases List.mem_append.1 hx with e | e
         ·exact HS.out x e
         ·rw [List.mem_singleton.1 e]; exact zDo _ rfl rfl rfl rfl), HG7, HF7⟩
        case measure => simp [intOf]; omega
      ·obtain rfl : v = n := by omega
       go_wp2_with fail
       go_ret
       exact ⟨_, ms, rfl, HV.out, by omega, HS.out, ⟨_, _, HGr.out⟩, HFr.out⟩
theorem rnum_err : ∀ (l : List UInt8) (i acc : Nat), (rnum l i acc).2.e ≠ 0 → (rnum l i acc).1 = 0
 | [], i, acc, _ => by unfold rnum; rfl
 | c :: r, i, acc, h => by
  unfold rnum at h ⊢
  by_cases h1 : (i = 8 ∧ 63 < c.toNat) ∨ (0 < i ∧ c.toNat = 0)
  ·rw [if_pos h1]
  ·rw [if_neg h1] at h ⊢
   by_cases hl : c.toNat < 128
   ·rw [if_pos hl] at h; exact absurd rfl h
   ·rw [if_neg hl] at h ⊢
    exact rnum_err r (i + 1) _ h
theorem Rr.count_le (R : Rr) (m : Nat) : (R.count m).1 ≤ m := by
 unfold Rr.count
 by_cases h : R.num.2.e = 0 ∧ m < R.num.1
 ·rw [if_pos h]; exact Nat.zero_le _
 ·rw [if_neg h]
  by_cases he : R.num.2.e = 0
  ·have : ¬ m < R.num.1 := fun x => h ⟨he, x⟩
   omega
  ·have : R.num.1 = 0 := by
    unfold Rr.num at he ⊢
    by_cases h0 : R.e = 0
    ·rw [if_pos h0] at he ⊢; exact rnum_err _ 0 0 he
    ·rw [if_neg h0]
   omega
theorem Rr.rawI_len (R : Rr) (n : Int) : (R.rawI n).1.length ≤ R.l.length := by
 unfold Rr.rawI Rr.raw
 split
 ·split
  ·exact Nat.zero_le _
  ·split
   ·exact Nat.zero_le _
   ·show (List.take n.toNat R.l).length ≤ _; rw [List.length_take]; omega
 ·exact Nat.zero_le _
theorem RdAt.keep {R : Rr} (h : RdAt w b S R) (k : KeepT Ts w w') (hT : ¬ 229 ∈ Ts) : RdAt w' b S R := ⟨k.1 _ _ _ hT h.blk, h.le, h.rest⟩
def TextSays (b : Nat) (S : List UInt8) (w : World) (e : Ending) (w' : World) : Prop := ∃ (t : ByteArray) (R : Rr), e = .returned (.string t) ∧ t.size ≤ S.length ∧ RdAt w' b S R ∧ Touch (fun k => k = b) w w'
theorem rdText_any (b : Nat) (S : List UInt8) (R : Rr) (most : Nat) (w : World) (h : RdAt w b S R) (hS : S.length ≤ 1099511627776) :
  Calls Tryz.prog 133 #[.pointer (some ⟨b, 0, none⟩), .int .i64 (most : Int)] w (TextSays b S w) := by
 have HC := hid (zDf b S R most w h hS)
 clear h
 go_enter Tryz.func133, Tryz.ntmps133
 go_wp2_with fail
 refine HC.out.mono ?_
 rintro e w1 ⟨rfl, hR, hT⟩
 have HT := hid hT
 have HR := hid (rdRaw_any b S _ ((R.count most).1 : Int) w1 hR hS)
 have hle := hR.le
 have hln := Rr.rawI_len (R.count most).2 ((R.count most).1 : Int)
 have Hln := hid (Nat.le_trans hln hle)
 clear hR hT hle hln HC
 generalize (R.count most).2 = R1 at HR Hln
 generalize (((R.count most).1 : Nat) : Int) = nn at HR Hln ⊢
 go_wp2_with fail
 refine HR.out.mono ?_
 rintro e w2 ⟨rfl, hR2, hT2⟩
 have HO := hid (And.intro hR2 (HT.out.trans hT2))
 clear hR2 hT2 HR
 go_wp2_with fail
 go_ret
 exact ⟨_, _, rfl, by rw [zAl]; exact Hln.out, HO.out.1, HO.out.2⟩
def intsV (l : List Int) : List Value := l.map fun i => .int .i64 i
def HeadSays (S : List UInt8) (w : World) (e : Ending) (w' : World) : Prop :=
 ∃ (fv sv : Value) (fs : List TFile) (ns : List Int) (a er : Int), e = .returned (.tuple #[fv, sv, .int .i64 a, .int .i64 er]) ∧ Below w.heap.size w w' ∧ (er = 0 → w'.ownsRow w.heap.size 65 3 fv fs.length (zAq fs) ∧ w'.ownsRow w.heap.size 3 1 sv ns.length (intsV ns) ∧ ns.length = fs.length ∧ fs.length ≤ 256 ∧ 0 ≤ a ∧ a ≤ (S.length : Int) ∧ ∀ x ∈ ns, 0 ≤ x ∧ x ≤ 65536)
theorem zIP (S : List UInt8) (w : World) (hS : S.length ≤ 524288) :
  Calls Tryz.prog 116 #[.string (ba S)] w (HeadSays S w) := by
 have hsz := zAl S
 go_enter Tryz.func116, Tryz.ntmps116
 go_wp2_with fail
 refine (zIa S w).mono ?_
 rintro e w1 ⟨b, rfl, hb0, hR, hB⟩
 have HB1 := hid hB
 have HC := hid (zDf b S _ 256 w1 hR (by omega))
 have hN := Rr.count_le ⟨S, 0⟩ 256
 clear hR hB
 obtain ⟨NR, hNR⟩ : ∃ NR, NR = Rr.count ⟨S, 0⟩ 256 := ⟨_, rfl⟩
 rw [← hNR] at HC hN
 obtain ⟨N, R0⟩ := NR
 simp only at HC hN
 clear hNR
 go_wp2_with fail
 refine HC.out.mono ?_
 rintro e w2 ⟨rfl, hR, hT⟩
 have HR2 := hid hR
 have HB2 := hid (show Below w.heap.size w w2 from HB1.out.trans (hT.below (show w.heap.size ≤ w1.heap.size from HB1.out.size) (fun j hj (e : j = b) => by omega)))
 clear hR hT HC HB1
 go_wp2_with fail
 go_loopw [7, 8, 17] (fun lv sv iv wr => ∃ (k : Nat) (R : Rr) (fs : List TFile) (ns : List Int), iv = .int .i64 (k : Int) ∧ k ≤ N ∧ Hid (fs.length = k) ∧ Hid (ns.length = k) ∧ Hid (RdAt wr b S R) ∧ Hid (wr.ownsRow w.heap.size 65 3 lv k (zAq fs)) ∧ Hid (wr.ownsRow w.heap.size 3 1 sv k (intsV ns)) ∧ Hid (Below w.heap.size w wr) ∧ Hid (∀ x ∈ ns, 0 ≤ x ∧ x ≤ 65536) ∧ Hid (∀ f ∈ fs, f.path.size ≤ 524288 ∧ f.data.size ≤ 0)) (fun _ _ iv _ => N - (intOf iv).toNat)
 case atStart => exact ⟨0, R0, [], [], rfl, Nat.zero_le _, hid rfl, hid rfl, HR2, hid (World.ownsRow_nil _ _ _ _), hid (World.ownsRow_nil _ _ _ _), HB2, hid (fun x hx => by cases hx), hid (fun x hx => by cases hx)⟩
 case round =>
  obtain ⟨k, R, fs, ns, rfl, hk, HFl, HNl, HR, HF, HN, HB, HNs, HFs⟩ := hrel
  clear HR2 HB2
  by_cases hlt : k < N
  ·have HTx := hid (rdText_any b S R 200 wr HR.out (by omega))
   have hszr := HB.out.size
   have hbr := HR.out.blk.lt
   go_wp2_with fail
   refine HTx.out.mono ?_
   rintro e w3 ⟨t, R3, rfl, ht, hR3, hT3⟩
   have HR3 := hid hR3
   have Ht := hid ht
   have k3 : KeepT [229] wr w3 := KeepT.of_touch hT3 (fun q _ hq => Or.inl (by subst hq; exact Tyd.blk HR.out.blk (by simp)))
   have HF3 := hid (k3.2 _ _ _ _ _ _ (by decide) HF.out)
   have HN3 := hid (k3.2 _ _ _ _ _ _ (by decide) HN.out)
   have HB3 := hid (show Below w.heap.size w w3 from HB.out.trans (hT3.below (show w.heap.size ≤ wr.heap.size from hszr) (fun j hj (e : j = b) => by omega)))
   have HNu := hid (zHT b S R3 w3 hR3 (by omega))
   have hbl3 := hR3.blk.lt
   clear hR3 ht hT3 k3 HTx HR HF HN HB
   go_wp2_with fail
   refine HNu.out.mono ?_
   rintro e w4 ⟨rfl, hR4, hT4⟩
   have HR4 := hid hR4
   have k4 : KeepT [229] w3 w4 := KeepT.of_touch hT4 (fun q _ hq => Or.inl (by subst hq; exact Tyd.blk HR3.out.blk (by simp)))
   have HF4 := hid (k4.2 _ _ _ _ _ _ (by decide) HF3.out)
   have HN4 := hid (k4.2 _ _ _ _ _ _ (by decide) HN3.out)
   have HB4 := hid (show Below w.heap.size w w4 from HB3.out.trans (hT4.below (show w.heap.size ≤ w3.heap.size from HB3.out.size) (fun j hj (e : j = b) => by omega)))
   generalize (R3.num.1 : Nat) = md
   generalize R3.num.2 = R4 at hR4 HR4
   clear hR4 hT4 k4 HNu HR3 HF3 HN3 HB3
   go_upto_region 7 with fail
   have hb5 := (Below.refl w4.heap.size w4).alloc (Nat.le_refl _) (.cells #[.string t, .int .i64 (md : Int), .string ⟨#[]⟩] 65)
   have Q5 := Blk.new w4 [.string t, .int .i64 (md : Int), .string ⟨#[]⟩] 65
   have HR5 := hid (HR4.out.below hb5)
   have HF5 := hid (zAc HF4.out hb5)
   have HN5 := hid (zAc HN4.out hb5)
   have HB5 := hid (zAd HB4.out hb5)
   have HQ5 := hid Q5
   clear Q5 HR4 HF4 HN4
   generalize w4.alloc (.cells #[.string t, .int .i64 (md : Int), .string ⟨#[]⟩] 65) = w5 at hb5 HR5 HF5 HN5 HB5 HQ5 ⊢
   obtain ⟨q, hq⟩ : ∃ q, q = w4.heap.size := ⟨_, rfl⟩
   rw [← hq] at HQ5 ⊢
   have Hq := hid (show w.heap.size ≤ q by rw [hq]; exact HB4.out.size)
   clear hq hb5 HB4
   have HCo := hid (zDf b S R4 65536 w5 HR5.out (by omega))
   have hcl := Rr.count_le R4 65536
   obtain ⟨CR, hCR⟩ : ∃ CR, CR = Rr.count R4 65536 := ⟨_, rfl⟩
   rw [← hCR] at HCo hcl
   obtain ⟨cn, R6⟩ := CR
   simp only at HCo hcl
   have hbl5 := HR5.out.blk.lt
   have hsz5 := HB5.out.size
   clear hCR
   go_wp2_with fail
   refine HCo.out.mono ?_
   rintro e w6 ⟨rfl, hR6, hT6⟩
   have HR6 := hid hR6
   have k6 : KeepT [229] w5 w6 := KeepT.of_touch hT6 (fun q _ hq => Or.inl (by subst hq; exact Tyd.blk HR5.out.blk (by simp)))
   have HF6 := hid (k6.2 _ _ _ _ _ _ (by decide) HF5.out)
   have HN6 := hid (k6.2 _ _ _ _ _ _ (by decide) HN5.out)
   have HQ6 := hid (k6.1 _ _ _ (by decide) HQ5.out)
   have HB6 := hid (show Below w.heap.size w w6 from HB5.out.trans (hT6.below (show w.heap.size ≤ w5.heap.size from hsz5) (fun j hj (e : j = b) => by omega)))
   have HEr := hid (zHl b S R6 w6 hR6)
   clear hR6 hT6 k6 HCo HR5 HF5 HN5 HQ5 HB5
   go_wp2_with fail
   refine HEr.out.mono ?_
   rintro e wx ⟨rfl, rfl⟩
   by_cases her : R6.e = 0
   ·have herb : (R6.e != 0) = false := by rw [her]; rfl
    have hbl6 := HR6.out.blk.lt
    have hql6 := HQ6.out.lt
    have hsz6 := HB6.out.size
    have q0 : w6.cell? ⟨q, 0, none⟩ = some (.string t) := HQ6.out.cell 0
    have q1 : w6.cell? ⟨q, 1, none⟩ = some (.int .i64 (md : Int)) := HQ6.out.cell 1
    have q2 : w6.cell? ⟨q, 2, none⟩ = some (.string ⟨#[]⟩) := HQ6.out.cell 2
    clear her HEr
    obtain ⟨fa, fc, rfl⟩ := zAe HF6.out
    obtain ⟨na, nc, rfl⟩ := zAe HN6.out
    go_wp2_with (at_builtin; refine zAx rfl _ _ 31 rfl w.heap.size 65 3 40 Tryz.underlying31 _ zDz rfl (by decide) _ _ _ rfl HF6.out w6.heap.size rfl [.string t, .int .i64 (md : Int), .string ⟨#[]⟩] rfl rfl (by simp [Value.oneCell']) ?c1 ?c2 ?c3 ?_)
    case c1 => unfold maxLen; omega
    case c2 => omega
    case c3 => first | omega | (simp; omega)
    intro v7 w7 hown7 hg7
    have hbA : Below w6.heap.size w6 (w6.alloc (.cells #[.string t, .int .i64 (md : Int), .string ⟨#[]⟩] 65)) := (Below.refl _ w6).alloc (Nat.le_refl _) _
    have k7 : KeepT [65] w6 w7 := (KeepT.of_below hbA).trans (KeepT.of_grown (zAc HF6.out hbA) hg7 (by simp))
    have T7 : Touch (fun j => w.heap.size ≤ j) w6 w7 := zAm ((Touch.refl _ w6).alloc _) hg7 (fun g hg => Or.inl (zCe HF6.out hg).1)
    have HR7 := hid (HR6.out.keep k7 (by decide))
    have HN7 := hid (k7.2 _ _ _ _ _ _ (by decide) HN6.out)
    have HF7 := hid (show w7.ownsRow w.heap.size 65 3 v7 (k + 1) (zAq (fs ++ [⟨t, (md : Int), ⟨#[]⟩⟩])) by rw [zHj]; exact hown7)
    have HB7 := hid (show Below w.heap.size w w7 from HB6.out.trans (T7.below hsz6 (fun k hk hs => by omega)))
    clear hown7 hg7 hbA k7 T7 HR6 HN6 HF6 HB6 HQ6 q0 q1 q2
    have hsz7 := HB7.out.size
    go_wp2_with (at_builtin; refine zAx rfl _ _ 130 rfl w.heap.size 3 1 8 Tryz.underlying130 _ zIm rfl (by decide) _ _ _ rfl HN7.out w7.heap.size rfl [.int .i64 (cn : Int)] rfl rfl (by simp [Value.oneCell']) ?c1 ?c2 ?c3 ?_)
    case c1 => unfold maxLen; omega
    case c2 => omega
    case c3 => first | omega | (simp; omega)
    intro v8 w8 hown8 hg8
    have hbA : Below w7.heap.size w7 (w7.alloc (.cells #[.int .i64 (cn : Int)] 3)) := (Below.refl _ w7).alloc (Nat.le_refl _) _
    have k8 : KeepT [3] w7 w8 := (KeepT.of_below hbA).trans (KeepT.of_grown (zAc HN7.out hbA) hg8 (by simp))
    have T8 : Touch (fun j => w.heap.size ≤ j) w7 w8 := zAm ((Touch.refl _ w7).alloc _) hg8 (fun g hg => Or.inl (zCe HN7.out hg).1)
    have HR8 := hid (HR7.out.keep k8 (by decide))
    have HF8 := hid (k8.2 _ _ _ _ _ _ (by decide) HF7.out)
    have HN8 := hid (show w8.ownsRow w.heap.size 3 1 v8 (k + 1) (intsV (ns ++ [(cn : Int)])) by unfold intsV; rw [List.map_append]; exact hown8)
    have HB8 := hid (show Below w.heap.size w w8 from HB7.out.trans (T8.below hsz7 (fun k hk hs => by omega)))
    clear hown8 hg8 hbA k8 T8 HR7 HN7 HF7 HB7
    go_wp2_with fail
    go_roundw
    case rel => exact ⟨k + 1, R6, fs ++ [⟨t, (md : Int), ⟨#[]⟩⟩], ns ++ [(cn : Int)], by go_num, by omega, hid (by rw [List.length_append, HFl.out]; rfl), hid (by rw [List.length_append, HNl.out]; rfl), HR8, HF8, HN8, HB8, hid (fun x hx => by
     rcases List.mem_append.1 hx with e | e
     ·exact HNs.out x e
     ·rw [List.mem_singleton.1 e]; omega), hid (fun x hx => by
     rcases List.mem_append.1 hx with e | e
     ·exact HFs.out x e
     ·rw [List.mem_singleton.1 e]
      have := Ht.out
      exact ⟨by show t.size ≤ _; omega, Nat.le_refl _⟩)⟩
    case measure => simp [intOf]; omega
   ·have herb : (R6.e != 0) = true := by rw [bne_iff_ne]; exact her
    have Her := hid her
    clear her
    go_wp2_with fail
    refine HEr.out.mono ?_
    rintro e wx ⟨rfl, rfl⟩
    go_wp2_with fail
    refine bodyPost_ret (zAv rfl _ _ _) rfl ?_
    exact ⟨_, _, [], [], _, _, rfl, HB6.out, fun e => absurd e Her.out⟩
  ·obtain rfl : k = N := by omega
   have HEr := hid (zHl b S R wr HR.out)
   go_wp2_with fail
   refine HEr.out.mono ?_
   rintro e wx ⟨rfl, rfl⟩
   by_cases her : R.e = 0
   ·have herb : (R.e != 0) = false := by rw [her]; rfl
    obtain ⟨fa, fc, rfl⟩ := zAe HF.out
    have HCk := hid (zHd fa fc fs wr (zDs (by rw [HFl.out]; exact HF.out)) (by rw [HFl.out]; omega) (fun f hf => by have := HFs.out f hf; omega))
    rw [HFl.out] at HCk
    clear her HEr
    go_wp2_with fail
    refine HCk.out.mono ?_
    rintro e w3 ⟨rfl, hb3⟩
    have HB3 := hid (zAd HB.out hb3)
    have HR3 := hid (HR.out.below hb3)
    have HF3 := hid (zAc HF.out hb3)
    have HN3 := hid (zAc HN.out hb3)
    clear hb3 HB HR HF HN HCk
    generalize zAy fs = ce
    by_cases hce : ce = 0
    ·subst hce
     have HLe := hid (zEa b S R w3 HR3.out (by omega))
     have hle := HR3.out.le
     go_wp2_with fail
     refine HLe.out.mono ?_
     rintro e w4 ⟨rfl, nd, rfl⟩
     go_wp2_with fail
     refine bodyPost_ret (zAv rfl _ _ _) rfl ?_
     refine ⟨_, _, fs, ns, _, _, rfl, below_drewN HB3.out nd, fun _ => ⟨?_, ?_, ?_, ?_, ?_, ?_, HNs.out⟩⟩
     ·rw [HFl.out]; exact zAc HF3.out (below_drewN (Below.refl _ _) nd)
     ·rw [HNl.out]; exact zAc HN3.out (below_drewN (Below.refl _ _) nd)
     ·rw [HFl.out, HNl.out]
     ·rw [HFl.out]; exact hN
     ·omega
     ·omega
    ·have hcb : (ce != 0) = true := by rw [bne_iff_ne]; exact hce
     have Hce := hid hce
     clear hce
     go_wp2_with fail
     refine bodyPost_ret (zAv rfl _ _ _) rfl ?_
     exact ⟨_, _, [], [], _, _, rfl, HB3.out, fun e => absurd e Hce.out⟩
   ·have herb : (R.e != 0) = true := by rw [bne_iff_ne]; exact her
    have Her := hid her
    clear her
    go_wp2_with fail
    refine bodyPost_ret (zAv rfl _ _ _) rfl ?_
    exact ⟨_, _, [], [], _, _, rfl, HB.out, fun e => absurd e Her.out⟩
def TreeSays (w : World) (e : Ending) (w' : World) : Prop := ∃ (xa : Option Addr) (xl xc : Nat) (er : Int), e = .returned (.tuple #[.slice xa xl xc, .int .i64 er]) ∧ Below w.heap.size w w'
theorem zJk (S : List UInt8) (w : World) (hS : S.length ≤ 524288) :
  Calls Tryz.prog 95 #[.string (ba S)] w (TreeSays w) := by
 have hsz := zAl S
 have hlo : ¬ (524288 : Int) < (S.length : Int) := by omega
 have HH := hid (zIP S w hS)
 go_enter Tryz.func95, Tryz.ntmps95
 go_wp2_with fail
 refine HH.out.mono ?_
 rintro e w1 ⟨fv, sv, fs, ns, a, er, rfl, hb, hok⟩
 have HB := hid hb
 clear hb HH
 by_cases her : er = 0
 ·obtain ⟨h1, h2, h3, h4, h5, h6, h7⟩ := hok her
  subst her
  obtain ⟨A, rfl⟩ : ∃ A : Nat, a = (A : Int) := ⟨a.toNat, by omega⟩
  have hA : A ≤ S.length := by omega
  have HF := hid h1
  have HN := hid h2
  have HNs := hid h7
  obtain ⟨m, hm⟩ : ∃ m, m = ns.length := ⟨_, rfl⟩
  rw [← h3, ← hm] at HF h4
  rw [← hm] at HN
  have Hm := hid hm
  clear hok h1 h2 h3 h5 h6 h7 hm
  obtain ⟨fa, fc, rfl⟩ := zAe HF.out
  obtain ⟨na, nc, rfl⟩ := zAe HN.out
  go_wp2_with fail
  go_loopw [6, 25] (fun av iv wr => ∃ (k A : Nat) (xs : List Value), iv = .int .i64 (k : Int) ∧ av = .int .i64 (A : Int) ∧ k ≤ m ∧ A ≤ S.length ∧ Hid (wr.ownsRow w.heap.size 65 3 (.slice fa m fc) m xs) ∧ Hid (wr.ownsRow w.heap.size 3 1 (.slice na m nc) m (intsV ns)) ∧ Hid (Below w.heap.size w wr)) (fun _ iv _ => m - (intOf iv).toNat)
  case atStart => exact ⟨0, A, _, rfl, rfl, Nat.zero_le _, hA, HF, HN, HB⟩
  case round =>
   obtain ⟨k, A, xs, rfl, rfl, hk, hA, HFr, HNr, HBr⟩ := hrel
   clear HF HN HB
   by_cases hlt : k < m
   ·obtain ⟨gn, cn, hvn, hn0, hn1, _, _, hncell⟩ := zAz HNr.out (by omega)
    simp only [Value.slice.injEq] at hvn
    obtain ⟨rfl, _, rfl⟩ := hvn
    obtain ⟨gf, cf, hvf, hf0, hf1, _, _, hfcell⟩ := zAz HFr.out (by omega)
    simp only [Value.slice.injEq] at hvf
    obtain ⟨rfl, _, rfl⟩ := hvf
    obtain ⟨x, hx⟩ : ∃ x, ns[k]? = some x := ⟨_, List.getElem?_eq_getElem (by have := Hm.out; omega)⟩
    have n1 : wr.cell? ⟨gn, k, none⟩ = some (.int .i64 x) := by
     have := hncell k (by omega)
     rw [this]; unfold intsV; rw [List.getElem?_map, hx]; rfl
    have hx2 := HNs.out x (List.mem_of_getElem? hx)
    have hxl := HFr.out.1
    obtain ⟨y, hy⟩ : ∃ y, xs[k * 3 + 2]? = some y := ⟨_, List.getElem?_eq_getElem (by omega)⟩
    have f2 : wr.cell? ⟨gf, k * 3 + 2, none⟩ = some y := (hfcell (k * 3 + 2) (by omega)).trans hy
    obtain ⟨cs, hbk⟩ := row_blk HFr.out
    have hff : wr.frozen? ⟨gf, k * 3 + 2, none⟩ = false := hbk.free (k * 3 + 2)
    obtain ⟨X, rfl⟩ : ∃ X : Nat, x = (X : Int) := ⟨x.toNat, by omega⟩
    have hX : X ≤ 65536 := by omega
    have hgne : gn ≠ gf := fun e => zCf HNr.out HFr.out (by decide) (show (Value.slice (some ⟨gn, 0, none⟩) m nc).ownBlock = some gn from rfl) (by rw [e]; rfl)
    clear hncell hfcell hx hx2 hy hbk
    by_cases hin : X + A ≤ S.length
    ·have hin2 : ¬ ((S.length : Int) - (A : Int)) < (X : Int) := by omega
     have hw1 : IntKind.i64.wrap ((A : Int) + (X : Int)) = ((A + X : Nat) : Int) := by rw [IntKind.wrap_i64]; omega
     have hAX : A ≤ A + X := Nat.le_add_right _ _
     go_wp2_with fail
     go_roundw
     case rel => exact ⟨k + 1, A + X, _, by go_num, by go_num, by omega, by omega, hid (row_set HFr.out (k * 3 + 2) _), hid (zAj HNr.out ((Touch.refl (fun j => j = gf) wr).set (p := ⟨gf, k * 3 + 2, none⟩) (Or.inl rfl) _) (fun g hg e => by have : gn = g := (by simpa [Value.ownBlock] using hg); omega)), hid (HBr.out.setCell (p := ⟨gf, k * 3 + 2, none⟩) hf0 _)⟩
     case measure => simp [intOf]; omega
    ·have hin2 : ((S.length : Int) - (A : Int)) < (X : Int) := by omega
     go_wp2_with fail
     go_ret2
     exact ⟨none, 0, 0, _, rfl, HBr.out⟩
   ·obtain rfl : k = m := by omega
    by_cases hend : A < S.length
    ·go_wp2_with fail
     go_ret2
     exact ⟨none, 0, 0, _, rfl, HBr.out⟩
    ·go_wp2_with fail
     go_ret2
     exact ⟨_, _, _, _, rfl, HBr.out⟩
 ·have herb : (er != 0) = true := by rw [bne_iff_ne]; exact her
  clear her hok
  go_wp2_with fail
  go_ret2
  exact ⟨none, 0, 0, _, rfl, HB.out⟩
def askM (id v bal rd : Int) : MG := { MG.zero with k := 11, fr := id, to_ := v, bal := bal, rd := rd }
theorem info_strR : (Tryz.prog.info? 9).map (fun i => (i.zero, i.size, i.bytes)) = some (some (.string ByteArray.empty), 1, 16) := by kernel_rfl
def marksV (l : List Ent) : List Value := l.map fun x => .string x.mark
theorem zIO {l : List Ent} {x : Ent} (h : l[k]? = some x) : marksV (l.take (k + 1)) = marksV (l.take k) ++ [.string x.mark] := by
 unfold marksV
 rw [List.take_add_one, h]
 simp
theorem gc_reply {G : Gh} {D : Dt} {S : CSt} (h : Gc w0 c kb mb n id bal G Z D S w) (hZ : Z ≤ 100000) (hbb : G.bb ≤ 900000000) (K : CalD) (hK : D.cal = some K) (hk : G.gk ≠ 1) (hm : ∃ r, Maj n (G.VY r)) :
  Calls Tryz.prog 63 #[.pointer (some ⟨c, 0, none⟩)] w fun x w' => x = .returned (.tuple #[]) ∧ Gs w0 c kb mb n id bal G Z w' ∧ Fr w0 w w' := by
 have hbl := h.at_.1.lt
 have H0 := hid h
 have HM := hid (And.intro hk hm)
 have Hbb := hid hbb
 have HEr := hid (fun (er : Int) (he : er ≠ 0) (w' : World) (hb : Below w.heap.size w w') => zEm (h.quiet hb) er 0 0 none none 0 0 0 0 (fun e => absurd e he))
 have HOk := hid (fun (g f : Int) (fa ma : Option Addr) (fl fc ml mc : Nat) (w' : World) (hb : Below w.heap.size w w') => zEm (h.quiet hb) 0 g f fa ma fl fc ml mc (fun _ _ => ⟨fun e => absurd e hk, fun _ => hm⟩))
 obtain ⟨k1, _⟩ := h.gf.calB K hK
 have hsc : S.call = .pointer (some ⟨K.k, 0, none⟩) := by rw [h.gf.cal, hK]; rfl
 have HC := hid (fun (w' : World) (hb : Below w.heap.size w w') => (show w'.cell? ⟨c, 86, none⟩ = some (.pointer (some ⟨K.k, 0, none⟩)) ∧ w'.cell? ⟨K.k, 0, none⟩ = some (.int .i64 K.kd) ∧ w'.cell? ⟨K.k, 1, none⟩ = some (.int .i64 K.kg) ∧ w'.cell? ⟨c, 5, none⟩ = some (.int .i64 S.floor) ∧ w'.cell? ⟨c, 6, none⟩ = some (.int .i64 S.top) from ⟨by rw [← hsc]; exact (h.at_.below hb).ft 2, (k1.below hb).cell 0, (k1.below hb).cell 1, (h.at_.below hb).hd 5 (by omega), (h.at_.below hb).hd 6 (by omega)⟩))
 have hkl := k1.lt
 have hchl := h.gf.choL
 have c5 : w.cell? ⟨c, 5, none⟩ = some (.int .i64 S.floor) := h.at_.hd 5 (by omega)
 have c6 : w.cell? ⟨c, 6, none⟩ = some (.int .i64 S.top) := h.at_.hd 6 (by omega)
 obtain ⟨m, hml⟩ : ∃ m, m = D.l.length := ⟨_, rfl⟩
 rw [← hml] at hchl
 have Hml := hid hml
 generalize K.k = kk at HC hkl
 generalize K.kd = kd at HC
 generalize K.kg = kg at HC
 obtain ⟨tp, htp⟩ : ∃ tp, tp = S.top := ⟨_, rfl⟩
 obtain ⟨fl, hfl⟩ : ∃ fl, fl = S.floor := ⟨_, rfl⟩
 rw [← htp] at HC c6
 rw [← hfl] at HC c5
 clear h k1 hsc hk hm hbb hK hml htp hfl
 go_enter Tryz.func63, Tryz.ntmps63
 go_wp2_with fail
 go_cut [2] (fun v2 wc => ∃ q, v2 = .pointer (some ⟨q, 0, none⟩) ∧ w.heap.size ≤ q ∧ Hid (Blk wc q [.int .i64 0, .int .i64 tp, .int .i64 fl, .slice none 0 0, .slice none 0 0] 51) ∧ Hid (Below w.heap.size w wc))
 case first =>
  go_region
  all_goals go_wp2_with fail
  all_goals go_meet
  all_goals exact ⟨w.heap.size, rfl, Nat.le_refl _, hid (Blk.new w [.int .i64 0, .int .i64 tp, .int .i64 fl, .slice none 0 0, .slice none 0 0] _).drew, hid ((Below.refl _ _).alloc (Nat.le_refl _) _).drew⟩
 case rest =>
  obtain ⟨q, rfl, hq, HA1, HB1⟩ := hcut
  clear c5 c6
  generalize wc = w1 at HA1 HB1 ⊢
  obtain ⟨c86, k0, k1, c5, c6⟩ := HC.out w1 HB1.out
  have hs1 := HB1.out.size
  go_upto_block 0 with fail
  go_cut [3] (fun v3 wx => ∃ g : Int, v3 = .int .i64 g ∧ Hid (Below w.heap.size w wx))
  case first =>
   as_aux_lemma =>
    by_cases h6 : kd = 6
    ·subst h6
     have HE := hid (HOk.out tp fl none none 0 0 0 0 w1 HB1.out)
     have a0 := HA1.out.cell 0
     have a1 := HA1.out.cell 1
     have a2 := HA1.out.cell 2
     have a3 := HA1.out.cell 3
     have a4 := HA1.out.cell 4
     simp only [List.getElem?_cons_zero, List.getElem?_cons_succ] at a0 a1 a2 a3 a4
     have hql := HA1.out.lt
     go_wp2_with fail
     refine HE.out.mono ?_
     rintro e w3 ⟨rfl, hG, hF⟩
     have HG3 := hid hG
     have HF3 := hid ((Fr.of_below (w0 := w0) HB1.out).trans hF)
     clear hG hF HE
     go_wp2_with fail
     refine bodyPost_ret (results_none rfl _ _ _) rfl ?_
     exact ⟨rfl, HG3.out, HF3.out⟩
    ·have h6b : (kd == 6) = false := by rw [beq_eq_false_iff_ne]; exact h6
     by_cases h4 : kd = 4
     ·subst h4
      have d7 : w1.cell? ⟨c, 7, none⟩ = some S.chosen := (H0.out.at_.below HB1.out).hd 7 (by omega)
      have hr1 := H0.out.gf.cho
      obtain ⟨ia, ic, hi⟩ := RAt.shape hr1
      rw [hi] at d7 hr1
      rw [← Hml.out] at d7 hr1
      have HRx := hid hr1
      clear hi hr1 h6 h6b
      go_wp2_with fail
      go_loopw [45] (fun iv wr => ∃ (k : Nat) (mv : Value), iv = .int .i64 (k : Int) ∧ k ≤ m ∧ Hid (Blk wr q [.int .i64 0, .int .i64 tp, .int .i64 fl, .slice none 0 0, mv] 51) ∧ Hid (wr.ownsRow w.heap.size 9 1 mv k (marksV (D.l.take k))) ∧ Hid (Touch (fun _ => False) w wr)) (fun iv _ => m - (intOf iv).toNat)
      case atStart => exact ⟨0, _, rfl, Nat.zero_le _, HA1, hid (World.ownsRow_nil _ _ _ _), hid (Touch.of_below HB1.out)⟩
      case round =>
       obtain ⟨k, mv, rfl, hk, HBt, HR, HT⟩ := hrel
       obtain ⟨ba_, bc, rfl⟩ := zAe HR.out
       clear d7 c86 k0 k1 c5 c6 HA1
       have hqr := HBt.out.lt
       have hszr := HT.out.size
       have HBw := hid (show Below w.heap.size w wr from HT.out.below (Nat.le_refl _) (fun _ _ e => e.elim))
       by_cases hlt : k < m
       ·have HRr := hid (HRx.out.below HBw.out)
        obtain ⟨gg, off, cap, hv0, hg2, hg3, hg4, hg6, hg5⟩ := RAt.some HRr.out (by omega)
        simp only [Value.slice.injEq] at hv0
        obtain ⟨rfl, _, rfl⟩ := hv0
        obtain ⟨x, hx⟩ : ∃ x, D.l[k]? = some x := ⟨_, List.getElem?_eq_getElem (by have := Hml.out; omega)⟩
        obtain ⟨v1, v2, v3⟩ := zBQ hx
        have e1 : wr.cell? ⟨gg, off + k * 3, none⟩ = _ := (hg5 (k * 3) (by omega)).trans v1
        have e2 : wr.cell? ⟨gg, off + k * 3 + 1, none⟩ = _ := (hg5 (k * 3 + 1) (by omega)).trans v2
        have e3 : wr.cell? ⟨gg, off + k * 3 + 2, none⟩ = _ := (hg5 (k * 3 + 2) (by omega)).trans v3
        have HTk := hid (zIO hx)
        obtain ⟨xg, xb, xm⟩ := x
        simp only at e1 e2 e3
        have a4 := HBt.out.cell 4
        have f4 := HBt.out.free 4
        simp only [List.getElem?_cons_zero, List.getElem?_cons_succ] at a4
        have HVa := hid (HR.out.alloc (.cells #[.int .i64 xg, .int .i64 xb, .string xm] 102))
        have HBa := hid (HBt.out.alloc (.cells #[.int .i64 xg, .int .i64 xb, .string xm] 102))
        have HTa := hid (HT.out.alloc (.cells #[.int .i64 xg, .int .i64 xb, .string xm] 102))
        clear v1 v2 v3 hx hg5 HBw
        go_wp2_with (at_builtin; refine zAx rfl _ _ 49 rfl w.heap.size 9 1 16 Tryz.underlying49 _ info_strR rfl (by decide) _ _ _ rfl HVa.out (wr.heap.size + 1) (by simp) [.string xm] rfl rfl (by simp [Value.oneCell']) ?c1 ?c2 ?c3 ?_)
        case c1 => unfold maxLen; omega
        case c2 => omega
        case c3 => first | omega | (simp; omega)
        intro v' w6 hown6 hg6'
        have hrne : (Value.slice ba_ k bc).ownBlock ≠ some q := zAp HR.out HBt.out (by decide)
        have hB6 := zAr (HBa.out.alloc (.cells #[.string xm] 9)) hg6' hrne
        have hT6 : Touch (fun _ => False) w w6 := zAm (HTa.out.alloc (.cells #[.string xm] 9)) hg6' (fun g hg => Or.inr (HR.out.lt g hg).1)
        have l1 := hB6.cell 4
        have l2 := hB6.free 4
        simp only [List.getElem?_cons_zero, List.getElem?_cons_succ] at l1
        have HB6 := hid hB6
        have HT6 := hid hT6
        obtain ⟨va, vc, rfl⟩ := zAe hown6
        have HW6 := hid hown6
        clear hown6 hg6' hB6 hT6 a4 f4 e1 e2 e3 HVa HBa HTa HR HBt HT HRr
        go_wp2_with fail
        have hB7 := HB6.out.set 4 (.slice va (k + 1) vc)
        have hT7 := HT6.out.set (p := ⟨q, 4, none⟩) (Or.inr hq) (.slice va (k + 1) vc)
        have hR7 := zAj HW6.out ((Touch.refl (fun k => k = q) w6).set (p := ⟨q, 4, none⟩) (Or.inl rfl) (.slice va (k + 1) vc)) (fun g hg e => zAp HW6.out HB6.out (by decide) (by rw [hg, e]))
        go_roundw
        case rel => exact ⟨k + 1, _, by go_num, by omega, hid hB7, hid (by rw [HTk.out]; exact hR7), hid hT7⟩
        case measure => simp [intOf]; omega
       ·obtain rfl : k = m := by omega
        have a0 := HBt.out.cell 0
        have a1 := HBt.out.cell 1
        have a2 := HBt.out.cell 2
        have a3 := HBt.out.cell 3
        have a4 := HBt.out.cell 4
        simp only [List.getElem?_cons_zero, List.getElem?_cons_succ] at a0 a1 a2 a3 a4
        have HE := hid (HOk.out tp fl none ba_ 0 0 k bc wr HBw.out)
        go_wp2_with fail
        refine HE.out.mono ?_
        rintro e w3 ⟨rfl, hG, hF⟩
        have HG3 := hid hG
        have HF3 := hid ((Fr.of_below (w0 := w0) HBw.out).trans hF)
        clear hG hF HE
        go_wp2_with fail
        refine bodyPost_ret (results_none rfl _ _ _) rfl ?_
        exact ⟨rfl, HG3.out, HF3.out⟩
     ·have h4b : (kd == 4) = false := by rw [beq_eq_false_iff_ne]; exact h4
      by_cases h3 : kd = 3
      ·subst h3
       clear h6 h6b h4 h4b
       go_wp2_with fail
       go_meet
       exact ⟨_, rfl, HB1⟩
      ·have h3b : (kd == 3) = false := by rw [beq_eq_false_iff_ne]; exact h3
       clear h6 h4 h3
       go_wp2_with fail
       go_meet
       exact ⟨_, rfl, HB1⟩
  case rest =>
   obtain ⟨g, rfl, HB⟩ := hcut
   clear c86 k0 k1 c5 c6 HA1 HB1 hs1
   generalize wc = w2 at HB ⊢
   obtain ⟨c86, k0, k1, c5, c6⟩ := HC.out w2 HB.out
   have hs2 := HB.out.size
   clear c86 k0 k1
   by_cases hA : g < fl ∧ 0 ≤ g
   ·obtain ⟨hA1, hA2⟩ := hA
    have HE := hid (HEr.out 18 (by decide) w2 HB.out)
    go_wp2_with fail
    refine HE.out.mono ?_
    rintro e w3 ⟨rfl, hG, hF⟩
    have HG3 := hid hG
    have HF3 := hid ((Fr.of_below (w0 := w0) HB.out).trans hF)
    clear hG hF HE
    go_wp2_with fail
    refine bodyPost_ret (results_none rfl _ _ _) rfl ?_
    exact ⟨rfl, HG3.out, HF3.out⟩
   ·by_cases hBd : g < 0 ∨ tp ≤ g
    ·have hcs : (g < fl ∧ ¬ 0 ≤ g ∧ g < 0) ∨ (¬ g < fl ∧ g < 0) ∨ (¬ g < fl ∧ ¬ g < 0 ∧ tp ≤ g) := by omega
     clear hA hBd
     have HE := hid (HEr.out 8 (by decide) w2 HB.out)
     rcases hcs with ⟨hx1, hx2, hx3⟩ | ⟨hx1, hx2⟩ | ⟨hx1, hx2, hx3⟩
     all_goals
      go_wp2_with fail
      refine HE.out.mono ?_
      rintro e w3 ⟨rfl, hG, hF⟩
      have HG3 := hid hG
      have HF3 := hid ((Fr.of_below (w0 := w0) HB.out).trans hF)
      clear hG hF HE
      go_wp2_with fail
      refine bodyPost_ret (results_none rfl _ _ _) rfl ?_
      exact ⟨rfl, HG3.out, HF3.out⟩
    ·have hx1 : ¬ g < fl := by omega
     have hx2 : ¬ g < 0 := by omega
     have hx3 : ¬ tp ≤ g := by omega
     clear hA hBd
     have HMk := hid (zIb c w0.heap.size S D.l g w2 (H0.out.at_.below HB.out) (H0.out.gf.cho.below HB.out) (by rw [← Hml.out]; omega))
     go_wp2_with fail
     refine HMk.out.mono ?_
     clear HMk
     generalize (mkF D.l g).getD ⟨#[]⟩ = mk
     generalize (mkF D.l g).isSome = told
     rintro e w3 ⟨rfl, hb3⟩
     have HB3 := hid (zAd HB.out hb3)
     clear hb3 HB c5 c6 hx1 hx2 hx3
     cases told with
     | false =>
      have HE := hid (HEr.out 8 (by decide) w3 HB3.out)
      go_wp2_with fail
      refine HE.out.mono ?_
      rintro e w4 ⟨rfl, hG, hF⟩
      have HG3 := hid hG
      have HF3 := hid ((Fr.of_below (w0 := w0) HB3.out).trans hF)
      clear hG hF HE
      go_wp2_with fail
      refine bodyPost_ret (results_none rfl _ _ _) rfl ?_
      exact ⟨rfl, HG3.out, HF3.out⟩
     | true =>
      have HKn := hid (zEp (H0.out.quiet HB3.out) g)
      go_wp2_with fail
      refine HKn.out.mono ?_
      rintro e w4 ⟨T, ok, rfl, hTl, hb4⟩
      have HTl := hid hTl
      have HB4 := hid (zAd HB3.out hb4)
      clear hb4 hTl HB3 HKn
      cases ok with
      | false =>
       have HWa := hid (zEy (H0.out.quiet HB4.out) g 1 mk)
       go_wp2_with fail
       refine HWa.out.mono ?_
       rintro e w5 ⟨rfl, hG, hF⟩
       have HG3 := hid hG
       have HF3 := hid ((Fr.of_below (w0 := w0) HB4.out).trans hF)
       clear hG hF HWa
       go_wp2_with fail
       refine bodyPost_ret (results_none rfl _ _ _) rfl ?_
       exact ⟨rfl, HG3.out, HF3.out⟩
      | true =>
       have HIs := hid (is_any kb mb D.Bk (ba T) mk w4 (H0.out.gf.bok.below HB4.out) (by rw [zAl]; have := HTl.out; unfold maxLen; omega) (by have := H0.out.gf.bokL; have := Hbb.out; omega))
       have c2 : w4.cell? ⟨c, 2, none⟩ = some (.pointer (some ⟨kb, 0, none⟩)) := by
        have := (H0.out.at_.below HB4.out).hd 2 (by omega)
        rw [show S.head[2]? = some S.book from rfl, H0.out.gf.bk_] at this
        exact this
       have hs4 := HB4.out.size
       obtain ⟨tl, htl⟩ : ∃ tl, tl = tells D.Bk (ba T) mk := ⟨_, rfl⟩
       rw [← htl] at HIs
       clear htl
       go_wp2_with fail
       refine HIs.out.mono ?_
       rintro e w5 ⟨rfl, hb5⟩
       have HB5 := hid (zAd HB4.out hb5)
       clear hb5 HB4 HIs c2
       cases tl with
       | false =>
        have HWa := hid (zEy (H0.out.quiet HB5.out) g 1 mk)
        go_wp2_with fail
        refine HWa.out.mono ?_
        rintro e w6 ⟨rfl, hG, hF⟩
        have HG3 := hid hG
        have HF3 := hid ((Fr.of_below (w0 := w0) HB5.out).trans hF)
        clear hG hF HWa
        go_wp2_with fail
        refine bodyPost_ret (results_none rfl _ _ _) rfl ?_
        exact ⟨rfl, HG3.out, HF3.out⟩
       | true =>
        have HTr := hid (zJk T w5 HTl.out)
        go_wp2_with fail
        refine HTr.out.mono ?_
        rintro e w6 ⟨xa, xl, xc, er, rfl, hb6⟩
        have HB6 := hid (zAd HB5.out hb6)
        clear hb6 HB5 HTr
        have c5 := (HC.out w6 HB6.out).2.2.2.1
        have hs6 := HB6.out.size
        by_cases her : er = 0
        ·subst her
         have HE := hid (HOk.out g fl xa none xl xc 0 0 w6 HB6.out)
         go_wp2_with fail
         refine HE.out.mono ?_
         rintro e w7 ⟨rfl, hG, hF⟩
         have HG3 := hid hG
         have HF3 := hid ((Fr.of_below (w0 := w0) HB6.out).trans hF)
         clear hG hF HE
         go_wp2_with fail
         go_end0
         exact ⟨rfl, HG3.out, HF3.out⟩
        ·have herb : (er != 0) = true := by rw [bne_iff_ne]; exact her
         clear her
         have HE := hid (HEr.out 19 (by decide) w6 HB6.out)
         go_wp2_with fail
         refine HE.out.mono ?_
         rintro e w7 ⟨rfl, hG, hF⟩
         have HG3 := hid hG
         have HF3 := hid ((Fr.of_below (w0 := w0) HB6.out).trans hF)
         clear hG hF HE
         go_wp2_with fail
         refine bodyPost_ret (results_none rfl _ _ _) rfl ?_
         exact ⟨rfl, HG3.out, HF3.out⟩
end Go.Proofs.YtaemlplcjjbamaaGreatDoor
