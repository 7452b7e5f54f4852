/- A log found again: wal.Open. Conditions: sizes. -/
import Derived.Test.YtaeklleogniimaaGreatDoorWalTurn
namespace Go.Proofs.YtaeklleogniimaaGreatDoor
open Go Go.RowKit
set_option linter.unusedVariables false

structure OR where
  e : Int
  P : PS
  L : LG
  out : List ByteArray
def removeBut (all : List Nat) (n : Nat) (P : PS) : PS := all.foldl (fun P k => if k ≠ n then (P.remove (wname k)).2 else P) P
theorem removeBut_snoc (ns : List Nat) (m n : Nat) (P : PS) : removeBut (ns ++ [m]) n P = if m ≠ n then ((removeBut ns n P).remove (wname m)).2 else removeBut ns n P := by
  unfold removeBut
  rw [List.foldl_append]
  rfl
theorem OkP.removeBut {q : Nat} (ns : List Nat) (n : Nat) : ∀ {P : PS}, OkP q P → OkP q (removeBut ns n P) := by
  induction ns with
  | nil => exact fun h => h
  | cons m ns ih => exact fun h => ih (by
      show OkP q (if m ≠ n then _ else _)
      split
      · exact h.remove (wname m)
      · exact h)
/-- a log found: the others go, what stands behind it is wiped -/
def wtake (all : List Nat) (n : Nat) (o : LO) (P : PS) : OR :=
  if (wwipe (removeBut all n P) ⟨n, o.e, o.m⟩).1 ≠ 0 then ⟨(wwipe (removeBut all n P) ⟨n, o.e, o.m⟩).1, (wwipe (removeBut all n P) ⟨n, o.e, o.m⟩).2, ⟨n, o.e, o.m⟩, []⟩
  else ⟨0, (wwipe (removeBut all n P) ⟨n, o.e, o.m⟩).2, ⟨n, o.e, o.m⟩, o.out⟩
/-- the greatest segment whose snapshot is whole -/
def openGo (all : List Nat) (P : PS) (B : List ByteArray) : List Nat → OR
  | [] => ⟨8, P, ⟨0, 0, ⟨#[]⟩⟩, []⟩
  | n :: r => match loadP P B n with
    | none => openGo all P B r
    | some o => if o.sealed = false then openGo all P B r else wtake all n o P
def wopen (P : PS) (B : List ByteArray) : OR := if P.off = true then ⟨14, P, ⟨0, 0, ⟨#[]⟩⟩, []⟩ else openGo (segsP P) P B (segsP P)
theorem openGo_none {all : List Nat} {P : PS} {B : List ByteArray} {n : Nat} {r : List Nat} (h : loadP P B n = none) : openGo all P B (n :: r) = openGo all P B r := by
  conv => lhs; unfold openGo
  rw [h]
theorem openGo_open {all : List Nat} {P : PS} {B : List ByteArray} {n : Nat} {r : List Nat} {o : LO} (h : loadP P B n = some o) (hs : o.sealed = false) : openGo all P B (n :: r) = openGo all P B r := by
  conv => lhs; unfold openGo
  rw [h]
  exact if_pos hs
theorem openGo_take {all : List Nat} {P : PS} {B : List ByteArray} {n : Nat} {r : List Nat} {o : LO} (h : loadP P B n = some o) (hs : o.sealed = true) : openGo all P B (n :: r) = wtake all n o P := by
  conv => lhs; unfold openGo
  rw [h]
  exact if_neg (by rw [hs]; decide)
theorem loadGo_le {B : List ByteArray} : ∀ (f : Nat) (o : LO) (l : List UInt8) (N : Nat), o.e + l.length ≤ N → o.m.size ≤ 1000 → (loadGo B f o l).e ≤ N ∧ (loadGo B f o l).m.size ≤ 1000
  | 0, o, l, N, h, hm => ⟨by show o.e ≤ N; omega, hm⟩
  | f + 1, o, l, N, h, hm => by
    cases hn : nextP B o.m l with
    | none => rw [loadGo_end hn]; exact ⟨by omega, hm⟩
    | some sm =>
      obtain ⟨s, m⟩ := sm
      obtain ⟨_, hm2, h1, h2, r, hr⟩ := next_sound hn
      have hl := congrArg List.length hr
      rw [List.length_append, recL_length] at hl
      cases hs : lstep o.sealed s with
      | none => rw [loadGo_stop hn hs]; exact ⟨by omega, hm⟩
      | some st =>
        obtain ⟨sd, t⟩ := st
        rw [loadGo_step hn hs]
        exact loadGo_le f _ _ N (by show o.e + (36 + s.size) + (l.drop (36 + s.size)).length ≤ N; rw [List.length_drop]; omega) (by show m.size ≤ 1000; rw [hm2, markOf_size]; omega)
theorem loadP_ok {q n : Nat} {P : PS} {B : List ByteArray} {o : LO} (hok : OkP q P) (hn : n < 100000000) (h : loadP P B n = some o) : LG.Ok ⟨n, o.e, o.m⟩ := by
  unfold loadP at h
  split at h
  · cases h
  · split at h
    · cases h
    · injection h with h
      have hr := read_small hok (wname n) 0 (P.size (wname n)).1
      have hg := loadGo_le (B := B) ((P.read (wname n) 0 (P.size (wname n)).1).1.size + 1) ⟨0, firstM n, false, []⟩ (P.read (wname n) 0 (P.size (wname n)).1).1.data.toList 2097152 (by show 0 + _ ≤ _; rw [size_list]; omega) (by show (firstM n).size ≤ 1000; rw [firstM_size]; omega)
      rw [h] at hg
      exact ⟨hn, hg.1, hg.2⟩
/-- what Open leaves in memory -/
def Opened (b k mb : Nat) (S : DSt) (B : List ByteArray) (w : World) (R : OR) (e : Ending) (w' : World) : Prop :=
  ∃ S', S'.pl = R.P ∧ RStep (fun _ => False) b k mb S B w S' B w' ∧ ((R.e ≠ 0 ∧ e = .returned (.tuple #[.pointer none, .slice none 0 0, .int .i64 R.e])) ∨ (R.e = 0 ∧ ∃ lg v, w.heap.size ≤ lg ∧ e = .returned (.tuple #[.pointer (some ⟨lg, 0, none⟩), v, .int .i64 0]) ∧ LogAt w' lg b k R.L ∧ w'.ownsRow w.heap.size 9 1 v R.out.length (strVals R.out)))
set_option maxRecDepth 100000 in
set_option maxHeartbeats 3000000 in
theorem open_any (b k mb n : Nat) (S : DSt) (B : List ByteArray) (w : World) (h : Rg w b k mb S B) (hok : OkP n S.pl) (hn : n ≤ 890000000) (hB : B.length ≤ 1000000000) :
    Calls Tryz.prog 34 #[.pointer (some ⟨b, 0, none⟩), .pointer (some ⟨k, 0, none⟩)] w (Opened b k mb S B w (wopen S.pl B)) := by
  have HNo := Lib.hid (walNone_any b k mb B w h.book)
  have H := Lib.hid h
  have HOk := Lib.hid hok
  cases ho : S.off with
  | true =>
    have hR : wopen S.pl B = ⟨14, S.pl, ⟨0, 0, ⟨#[]⟩⟩, []⟩ := if_pos ho
    have HSg := Lib.hid (segments_off b S w h.dev ho)
    rw [hR]
    clear h hok ho hR
    go_enter Tryz.func34, Tryz.ntmps34
    go_wp2_with fail
    refine HNo.out.mono ?_
    rintro e w1 ⟨rfl, rfl⟩
    go_wp2_with fail
    refine HSg.out.mono ?_
    rintro e w1 ⟨rfl, rfl⟩
    go_wp2_with fail
    go_ret3
    exact ⟨S, rfl, RStep.refl H.out, Or.inl ⟨by show (14 : Int) ≠ 0; omega, rfl⟩⟩
  | false =>
    have hno : ¬ (S.pl.off = true) := by show ¬ (S.off = true); rw [ho]; decide
    have HR := Lib.hid (show wopen S.pl B = openGo (segsP S.pl) S.pl B (segsP S.pl) from if_neg hno)
    generalize wopen S.pl B = R at HR
    obtain ⟨_, hl, _⟩ := hok.ready (by omega)
    have HSg := Lib.hid (segments_on b S w h.dev ho hl)
    have hsl : ∀ m ∈ segsP S.pl, m < 100000000 := segsL_lt
    have hss : (segsP S.pl).length ≤ 1000000000 := by
      have h1 := segsL_len (S.pl.files.map PF.name)
      have h2 := hok.flen
      rw [List.length_map] at h1
      unfold segsP
      omega
    generalize segsP S.pl = segs at HR HSg hsl hss
    clear h hok ho hno hl
    go_enter Tryz.func34, Tryz.ntmps34
    go_wp2_with fail
    refine HNo.out.mono ?_
    rintro e w1 ⟨rfl, rfl⟩
    go_wp2_with fail
    refine HSg.out.mono ?_
    rintro e w1 ⟨v, rfl, hrow, hb1⟩
    obtain ⟨ad, cap, rfl⟩ := row_shape hrow
    have HRow := Lib.hid hrow
    have HB1 := Lib.hid hb1
    clear hrow hb1 HSg HNo
    go_wp2_with fail
    go_loopw [30] (fun i wr => ∃ x : Nat, x ≤ segs.length ∧ i = .int .i64 x ∧ Hid (R = openGo segs S.pl B (segs.drop x)) ∧ Hid (Below w.heap.size w wr) ∧ Hid (wr.ownsRow w.heap.size 3 1 (.slice ad segs.length cap) segs.length (intVals segs))) (fun i _ => segs.length - (intOf i).toNat)
    case atStart => exact ⟨0, Nat.zero_le _, rfl, HR, HB1, HRow⟩
    case round =>
      obtain ⟨x, hx, rfl, HRx, HBx, HRw⟩ := hrel
      by_cases hlt : x < segs.length
      · have hxi : (x : Int) < (segs.length : Int) := by omega
        obtain ⟨ad2, cap2, hv, _, _, _, hnil, hsome⟩ := row_open HRw.out
        injection hv with hv1 _ hv2
        subst hv1; subst hv2
        cases ad with
        | none => have := hnil rfl; omega
        | some p =>
          obtain ⟨g, rfl, _, _, hc⟩ := hsome p rfl
          have cs : wr.cell? ⟨g, x, none⟩ = some (.int .i64 (segs[x] : Nat)) := (hc x hlt).trans (intVals_at hlt)
          have hm := hsl segs[x] (List.getElem_mem hlt)
          have HRd : Hid (R = openGo segs S.pl B (segs[x] :: segs.drop (x + 1))) := Lib.hid (by rw [HRx.out, List.drop_eq_getElem_cons hlt])
          generalize segs[x] = m at cs hm HRd
          have HLd := Lib.hid (load_any b k mb m n S B wr (H.out.below HBx.out) HOk.out (by omega) hm hB)
          have HLk := Lib.hid (fun o => loadP_ok (B := B) (o := o) HOk.out hm)
          cases hlp : loadP S.pl B m with
          | none =>
            have HRn : Hid (R = openGo segs S.pl B (segs.drop (x + 1))) := Lib.hid (by rw [HRd.out, openGo_none hlp])
            rw [hlp] at HLd
            clear HRd HRx hlp HLk hc hnil hsome
            unfold Loaded at HLd
            go_wp2_with fail
            refine HLd.out.mono ?_
            rintro e w2 ⟨rfl, hb2⟩
            have HBn := Lib.hid (below_step HBx.out hb2)
            have HRwn := Lib.hid (ownsRow_below HRw.out hb2)
            clear hb2 HLd HBx HRw cs
            go_wp2_with fail
            go_roundw
            case rel => exact ⟨x + 1, by omega, by go_num, HRn, HBn, HRwn⟩
            case measure => simp [intOf]; omega
          | some o =>
            have hLk := HLk.out o hlp
            cases hsd : o.sealed with
            | false =>
              have HRn : Hid (R = openGo segs S.pl B (segs.drop (x + 1))) := Lib.hid (by rw [HRd.out, openGo_open hlp hsd])
              rw [hlp] at HLd
              clear HRd HRx hlp HLk hc hnil hsome hLk
              unfold Loaded at HLd
              simp only [] at HLd
              rw [hsd] at HLd
              go_wp2_with fail
              refine HLd.out.mono ?_
              rintro e w2 ⟨lgn, v, rfl, hlgn, hlo, hro, hb2⟩
              have HBn := Lib.hid (below_step HBx.out hb2)
              have HRwn := Lib.hid (ownsRow_below HRw.out hb2)
              clear hb2 HLd HBx HRw cs hlo hro hlgn
              go_wp2_with fail
              go_roundw
              case rel => exact ⟨x + 1, by omega, by go_num, HRn, HBn, HRwn⟩
              case measure => simp [intOf]; omega
            | true =>
              have HRt : Hid (R = wtake segs m o S.pl) := Lib.hid (by rw [HRd.out, openGo_take hlp hsd])
              rw [hlp] at HLd
              clear HRd HRx hlp HLk hc hnil hsome
              unfold Loaded at HLd
              simp only [] at HLd
              rw [hsd] at HLd
              obtain ⟨wo, rfl⟩ : ∃ wo : World, wo = wr := ⟨_, rfl⟩
              go_wp2_with fail
              refine HLd.out.mono ?_
              rintro e w2 ⟨lgn, v, rfl, hlgn, hlo, hro, hb2⟩
              obtain ⟨oa, oc, rfl⟩ := row_shape hro
              have hwl : w.heap.size ≤ lgn := Nat.le_trans HBx.out.size hlgn
              have HI0 : Hid (∃ S', S'.pl = removeBut (segs.take 0) m S.pl ∧ RStep (fun _ => False) b k mb S B w S' B w2 ∧ LogAt w2 lgn b k ⟨m, o.e, o.m⟩ ∧ w2.ownsRow w.heap.size 9 1 (.slice oa o.out.length oc) o.out.length (strVals o.out) ∧ w2.ownsRow w.heap.size 3 1 (.slice (some ⟨g, 0, none⟩) segs.length cap) segs.length (intVals segs)) := Lib.hid ⟨S, rfl, (RStep.refl H.out).below (below_step HBx.out hb2), hlo, row_base hro HBx.out.size, ownsRow_below HRw.out hb2⟩
              clear hb2 HLd HBx HRw cs hlo hro hlgn
              go_wp2_with fail
              go_loopw [46] (fun i wr => ∃ y : Nat, y ≤ segs.length ∧ i = .int .i64 y ∧ Hid (∃ S', S'.pl = removeBut (segs.take y) m S.pl ∧ RStep (fun _ => False) b k mb S B w S' B wr ∧ LogAt wr lgn b k ⟨m, o.e, o.m⟩ ∧ wr.ownsRow w.heap.size 9 1 (.slice oa o.out.length oc) o.out.length (strVals o.out) ∧ wr.ownsRow w.heap.size 3 1 (.slice (some ⟨g, 0, none⟩) segs.length cap) segs.length (intVals segs))) (fun i _ => segs.length - (intOf i).toNat)
              case atStart => exact ⟨0, Nat.zero_le _, rfl, HI0⟩
              case round =>
                obtain ⟨y, hy, rfl, HI⟩ := hrel
                by_cases hly : y < segs.length
                · have hyi : (y : Int) < (segs.length : Int) := by omega
                  have cs : wr.cell? ⟨g, y, none⟩ = some (.int .i64 (segs[y] : Nat)) := by
                    obtain ⟨S', hp, hs, hl, hr, hi⟩ := HI.out
                    obtain ⟨ad3, cap3, hv3, _, _, _, _, hsome3⟩ := row_open hi
                    injection hv3 with hv3 _ _
                    obtain ⟨g3, e3, _, _, hc3⟩ := hsome3 ⟨g, 0, none⟩ hv3.symm
                    injection e3 with e3 _ _
                    subst e3
                    exact (hc3 y hly).trans (intVals_at hly)
                  have hz := hsl segs[y] (List.getElem_mem hly)
                  have HT : Hid (removeBut (segs.take (y + 1)) m S.pl = if segs[y] ≠ m then ((removeBut (segs.take y) m S.pl).remove (wname segs[y])).2 else removeBut (segs.take y) m S.pl) := Lib.hid (by rw [List.take_succ_eq_append_getElem hly, removeBut_snoc])
                  generalize segs[y] = z at cs hz HT
                  by_cases hzm : z = m
                  · have hb : ((z : Int) != (m : Int)) = false := by subst hzm; simp
                    have HI2 : Hid (∃ S', S'.pl = removeBut (segs.take (y + 1)) m S.pl ∧ RStep (fun _ => False) b k mb S B w S' B wr ∧ LogAt wr lgn b k ⟨m, o.e, o.m⟩ ∧ wr.ownsRow w.heap.size 9 1 (.slice oa o.out.length oc) o.out.length (strVals o.out) ∧ wr.ownsRow w.heap.size 3 1 (.slice (some ⟨g, 0, none⟩) segs.length cap) segs.length (intVals segs)) := Lib.hid (by rw [HT.out, if_neg (fun h => h hzm)]; exact HI.out)
                    clear HI HT hzm
                    go_wp2_with fail
                    go_roundw
                    case rel => exact ⟨y + 1, by omega, by go_num, HI2⟩
                    case measure => simp [intOf]; omega
                  · have hb : ((z : Int) != (m : Int)) = true := by rw [bne_iff_ne]; omega
                    have HN := Lib.hid (fun W => walName_any z W hz)
                    have HT2 : Hid (removeBut (segs.take (y + 1)) m S.pl = ((removeBut (segs.take y) m S.pl).remove (wname z)).2) := Lib.hid (by rw [HT.out, if_pos hzm])
                    clear HT hzm
                    go_wp2_with fail
                    refine (HN.out _).mono ?_
                    rintro e w3 ⟨rfl, hb3⟩
                    have HI3 : Hid (∃ S', S'.pl = removeBut (segs.take y) m S.pl ∧ RStep (fun _ => False) b k mb S B w S' B w3 ∧ LogAt w3 lgn b k ⟨m, o.e, o.m⟩ ∧ w3.ownsRow w.heap.size 9 1 (.slice oa o.out.length oc) o.out.length (strVals o.out) ∧ w3.ownsRow w.heap.size 3 1 (.slice (some ⟨g, 0, none⟩) segs.length cap) segs.length (intVals segs)) := Lib.hid (by
                      obtain ⟨S', hp, hs, hl, hr, hi⟩ := HI.out
                      exact ⟨S', hp, hs.below hb3, Blk.below hl hb3, ownsRow_below hr hb3, ownsRow_below hi hb3⟩)
                    have HRm := Lib.hid (show Calls Tryz.prog 78 #[.pointer (some ⟨b, 0, none⟩), .string (wname z)] w3 fun e w' => (∃ r, e = .returned (.int .i64 r)) ∧ Hid (∃ S', S'.pl = removeBut (segs.take (y + 1)) m S.pl ∧ RStep (fun _ => False) b k mb S B w S' B w' ∧ LogAt w' lgn b k ⟨m, o.e, o.m⟩ ∧ w'.ownsRow w.heap.size 9 1 (.slice oa o.out.length oc) o.out.length (strVals o.out) ∧ w'.ownsRow w.heap.size 3 1 (.slice (some ⟨g, 0, none⟩) segs.length cap) segs.length (intVals segs)) from by
                      obtain ⟨S', hp, hs, hl, hr, hi⟩ := HI3.out
                      have hrm := remove_any b n S' (wname z) w3 hs.at_.dev (by rw [hp]; exact OkP.removeBut (P := S.pl) _ _ HOk.out) (by omega)
                      refine hrm.mono ?_
                      rintro e w' ⟨rfl, S2, hd2, hp2⟩
                      have hst : RStep (fun _ => False) b k mb S' B w3 S2 B w' := hs.at_.step hd2
                      obtain ⟨q1, q2, q3⟩ := LogAt.not_foot hl hs.at_
                      exact ⟨⟨_, rfl⟩, Lib.hid ⟨S2, by rw [hp2, hp, HT2.out], hs.trans hst, hst.blk hl q1 q2 (fun h => h), hst.row hr (fun g hg => ⟨(row_beside hs.at_ hr (by decide) g hg).1, (row_beside hs.at_ hr (by decide) g hg).2, fun h => h⟩), hst.row hi (fun g hg => ⟨(row_beside hs.at_ hi (by decide) g hg).1, (row_beside hs.at_ hi (by decide) g hg).2, fun h => h⟩)⟩⟩)
                    clear HI HI3 hb3 HN cs
                    go_wp2_with fail
                    refine HRm.out.mono ?_
                    rintro e w4 ⟨⟨r, rfl⟩, HI4⟩
                    clear HRm
                    go_wp2_with fail
                    go_roundw
                    case rel => exact ⟨y + 1, by omega, by go_num, HI4⟩
                    case measure => simp [intOf]; omega
                · have hye : y = segs.length := by omega
                  have hyi : ¬ ((y : Int) < (segs.length : Int)) := by omega
                  have HWp := Lib.hid (show Calls Tryz.prog 83 #[.pointer (some ⟨lgn, 0, none⟩)] wr fun e w' => e = .returned (.int .i64 (wwipe (removeBut segs m S.pl) ⟨m, o.e, o.m⟩).1) ∧ Hid (∃ S', S'.pl = (wwipe (removeBut segs m S.pl) ⟨m, o.e, o.m⟩).2 ∧ RStep (fun _ => False) b k mb S B w S' B w' ∧ LogAt w' lgn b k ⟨m, o.e, o.m⟩ ∧ w'.ownsRow w.heap.size 9 1 (.slice oa o.out.length oc) o.out.length (strVals o.out)) from by
                    obtain ⟨S', hp, hs, hl, hr, hi⟩ := HI.out
                    rw [hye, List.take_length] at hp
                    have hw := wipe_any b k mb lgn n S' B ⟨m, o.e, o.m⟩ wr hs.at_ hl hLk (by rw [hp]; exact OkP.removeBut (P := S.pl) _ _ HOk.out) (by omega)
                    rw [hp] at hw
                    refine hw.mono ?_
                    rintro e w' ⟨rfl, S2, hp2, hd2⟩
                    have hst : RStep (fun _ => False) b k mb S' B wr S2 B w' := hs.at_.step hd2
                    obtain ⟨q1, q2, q3⟩ := LogAt.not_foot hl hs.at_
                    exact ⟨rfl, Lib.hid ⟨S2, hp2, hs.trans hst, hst.blk hl q1 q2 (fun h => h), hst.row hr (fun g hg => ⟨(row_beside hs.at_ hr (by decide) g hg).1, (row_beside hs.at_ hr (by decide) g hg).2, fun h => h⟩)⟩⟩)
                  have HRw2 : Hid (R = if (wwipe (removeBut segs m S.pl) ⟨m, o.e, o.m⟩).1 ≠ 0 then ⟨(wwipe (removeBut segs m S.pl) ⟨m, o.e, o.m⟩).1, (wwipe (removeBut segs m S.pl) ⟨m, o.e, o.m⟩).2, ⟨m, o.e, o.m⟩, []⟩ else ⟨0, (wwipe (removeBut segs m S.pl) ⟨m, o.e, o.m⟩).2, ⟨m, o.e, o.m⟩, o.out⟩) := Lib.hid HRt.out
                  generalize wwipe (removeBut segs m S.pl) ⟨m, o.e, o.m⟩ = WW at HWp HRw2
                  clear HI HI0 HRt hye HR
                  by_cases hw0 : WW.1 = 0
                  · have HE : Hid (R = ⟨0, WW.2, ⟨m, o.e, o.m⟩, o.out⟩) := Lib.hid (by rw [HRw2.out, if_neg (fun h => h hw0)])
                    rw [hw0] at HWp
                    clear HRw2 hw0
                    go_wp2_with fail
                    refine HWp.out.mono ?_
                    rintro e w3 ⟨rfl, HF⟩
                    clear HWp
                    go_wp2_with fail
                    go_ret3
                    obtain ⟨S', hp, hs, hl, hr⟩ := HF.out
                    exact ⟨S', by rw [HE.out]; exact hp, hs, Or.inr ⟨by rw [HE.out], lgn, _, hwl, rfl, by rw [HE.out]; exact hl, by rw [HE.out]; exact hr⟩⟩
                  · have HE : Hid (R = ⟨WW.1, WW.2, ⟨m, o.e, o.m⟩, []⟩) := Lib.hid (by rw [HRw2.out, if_pos hw0])
                    have hb : (WW.1 != 0) = true := by rw [bne_iff_ne]; exact hw0
                    have Hw0 := Lib.hid hw0
                    clear HRw2 hw0
                    go_wp2_with fail
                    refine HWp.out.mono ?_
                    rintro e w3 ⟨rfl, HF⟩
                    clear HWp
                    go_wp2_with fail
                    go_ret3
                    obtain ⟨S', hp, hs, hl, hr⟩ := HF.out
                    exact ⟨S', by rw [HE.out]; exact hp, hs, Or.inl ⟨by rw [HE.out]; exact Hw0.out, by rw [HE.out]; rfl⟩⟩
      · have hxe : x = segs.length := by omega
        have hxi : ¬ ((x : Int) < (segs.length : Int)) := by omega
        have HE : Hid (R = ⟨8, S.pl, ⟨0, 0, ⟨#[]⟩⟩, []⟩) := Lib.hid (by rw [HRx.out, hxe, List.drop_length]; rfl)
        clear HRx HRw HR hxe
        go_wp2_with fail
        go_ret3
        exact ⟨S, by rw [HE.out], (RStep.refl H.out).below HBx.out, Or.inl ⟨by rw [HE.out]; show (8 : Int) ≠ 0; omega, by rw [HE.out]; rfl⟩⟩
end Go.Proofs.YtaeklleogniimaaGreatDoor
