/- The messages that CoordServes' coordinator sends are fit; what the document's Clean leaves of the answers. No condition. The walk of the statement's sends: every message is as it must be (printed by wip/mkcsends.py out of XSends). Condition: the messages are fit. -/
import Derived.Test.YtaemlplcjjbamaaGreatDoorBCTk
import Derived.Test.YtaemlplcjjbamaaGreatDoorBCRight
import Derived.Test.YtaemlplcjjbamaaGreatDoorBCLawReply
import Derived.Test.YtaemlplcjjbamaaGreatDoorBCTold
import Derived.Test.YtaemlplcjjbamaaGreatDoorBAsk
import Derived.Deep.RegionHeld3
namespace Go.Proofs.YtaemlplcjjbamaaGreatDoor
open Go Go.RowKit
set_option linter.unusedVariables false
def SentOk (n : Nat) (m : MG) : Prop := FitM m ∧ m.fr = 1 ∧ m.to_ < (n : Int) ∧ (m.k = 9 ∨ (m.k ≠ 9 ∧ m.k ≠ 13 ∧ m.bal = 17))
theorem fitM_of (k : Int) (m : MG) (e : m.k = k) (hfr : m.fr = 1) (v n : Nat) (hto : m.to_ = (v : Int)) (hv : v < n) (hn : n ≤ 9) (kind : IsKind k) (full : (fieldsOf k).toList.isEmpty = false)
    (num : ∀ c, NumL c → (hasB (fieldsOf k) c = true → 0 ≤ m.num c ∧ m.num c ≤ 4611686018427387903) ∧ (hasB (fieldsOf k) c = false → m.num c = 0))
    (mark1 : hasB (fieldsOf k) 77 = true → m.mrk.size = 32) (mark0 : hasB (fieldsOf k) 77 = false → m.mrk = ⟨#[]⟩)
    (part1 : hasB (fieldsOf k) 80 = true → 0 ≤ m.pa ∧ m.pa ≤ 4096 ∧ 0 ≤ m.po ∧ m.po ≤ 4096 ∧ m.pt.size ≤ 1024) (part0 : hasB (fieldsOf k) 80 = false → m.pa = 0 ∧ m.po = 0 ∧ m.pt = ⟨#[]⟩)
    (list : hasB (fieldsOf k) 76 = false) (ll : m.ll = 0) (bal : k = 9 ∨ (k ≠ 9 ∧ k ≠ 13 ∧ m.bal = 17)) : SentOk n m := by
  subst e
  exact ⟨⟨kind, full, by omega, by omega, num, mark1, mark0, part1, part0, list, ll⟩, hfr, by omega, bal⟩
theorem fit_chosen {v n : Nat} {g : Int} {mk : ByteArray} (hv : v < n) (hn : n ≤ 9) (h0 : 0 ≤ g) (h1 : g ≤ 1000000) (hm : mk.size = 32) : SentOk n (chosenM 1 (v : Int) g mk) := by
  refine fitM_of 9 _ rfl rfl v n rfl hv hn (by unfold IsKind; omega) (by rw [ByteArray.toList_eq]; decide) (fun c hc => ?_) (fun _ => hm) (fun h => absurd h (by decide)) (fun h => absurd h (by decide)) (fun _ => ⟨rfl, rfl, rfl⟩) (by decide) rfl (Or.inl rfl)
  rcases hc with rfl | rfl | rfl | rfl | rfl | rfl
  all_goals refine ⟨fun h => ?_, fun h => ?_⟩
  all_goals first | exact absurd h (by decide) | rfl | exact ⟨h0, by show g ≤ _; omega⟩ | exact ⟨by show (0 : Int) ≤ 17; decide, by show (17 : Int) ≤ 4611686018427387903; decide⟩
theorem fit_accept {v n : Nat} {g : Int} {mk : ByteArray} (hv : v < n) (hn : n ≤ 9) (h0 : 0 ≤ g) (h1 : g ≤ 1000000) (hm : mk.size = 32) : SentOk n (acceptM 1 (v : Int) 17 g mk) := by
  refine fitM_of 7 _ rfl rfl v n rfl hv hn (by unfold IsKind; omega) (by rw [ByteArray.toList_eq]; decide) (fun c hc => ?_) (fun _ => hm) (fun h => absurd h (by decide)) (fun h => absurd h (by decide)) (fun _ => ⟨rfl, rfl, rfl⟩) (by decide) rfl (Or.inr ⟨by decide, by decide, rfl⟩)
  rcases hc with rfl | rfl | rfl | rfl | rfl | rfl
  all_goals refine ⟨fun h => ?_, fun h => ?_⟩
  all_goals first | exact absurd h (by decide) | rfl | exact ⟨h0, by show g ≤ _; omega⟩ | exact ⟨by show (0 : Int) ≤ 17; decide, by show (17 : Int) ≤ 4611686018427387903; decide⟩
theorem fit_ask {v n : Nat} {rd : Int} (hv : v < n) (hn : n ≤ 9) (h0 : 0 ≤ rd) (h1 : rd ≤ 1000000) : SentOk n (askM 1 (v : Int) 17 rd) := by
  refine fitM_of 11 _ rfl rfl v n rfl hv hn (by unfold IsKind; omega) (by rw [ByteArray.toList_eq]; decide) (fun c hc => ?_) (fun h => absurd h (by decide)) (fun _ => rfl) (fun h => absurd h (by decide)) (fun _ => ⟨rfl, rfl, rfl⟩) (by decide) rfl (Or.inr ⟨by decide, by decide, rfl⟩)
  rcases hc with rfl | rfl | rfl | rfl | rfl | rfl
  all_goals refine ⟨fun h => ?_, fun h => ?_⟩
  all_goals first | exact absurd h (by decide) | rfl | exact ⟨h0, by show rd ≤ _; omega⟩ | exact ⟨by show (0 : Int) ≤ 17; decide, by show (17 : Int) ≤ 4611686018427387903; decide⟩
theorem fit_part {v n : Nat} {g bas pa po : Int} {mk pt : ByteArray} (hv : v < n) (hn : n ≤ 9) (h0 : 0 ≤ g) (h1 : g ≤ 1000000) (hm : mk.size = 32) (hb0 : 0 ≤ bas) (hb1 : bas ≤ g) (hp0 : 0 ≤ pa) (hp1 : pa < po) (hp2 : po ≤ 30) (hpt : pt.size ≤ 1024) : SentOk n (partM 1 (v : Int) 17 g bas mk pa po pt) := by
  refine fitM_of 4 _ rfl rfl v n rfl hv hn (by unfold IsKind; omega) (by rw [ByteArray.toList_eq]; decide) (fun c hc => ?_) (fun _ => hm) (fun h => absurd h (by decide)) (fun _ => ⟨hp0, by show pa ≤ 4096; omega, by show 0 ≤ po; omega, by show po ≤ 4096; omega, hpt⟩) (fun h => absurd h (by decide)) (by decide) rfl (Or.inr ⟨by decide, by decide, rfl⟩)
  rcases hc with rfl | rfl | rfl | rfl | rfl | rfl
  all_goals refine ⟨fun h => ?_, fun h => ?_⟩
  all_goals first | exact absurd h (by decide) | rfl | exact ⟨h0, by show g ≤ _; omega⟩ | exact ⟨hb0, by show bas ≤ _; omega⟩ | exact ⟨by show (0 : Int) ≤ 17; decide, by show (17 : Int) ≤ 4611686018427387903; decide⟩
def prepM (v : Int) : MG := { MG.zero with k := 1, fr := 1, to_ := v, bal := 17 }
theorem fit_prep {v n : Nat} (hv : v < n) (hn : n ≤ 9) : SentOk n (prepM (v : Int)) := by
  refine fitM_of 1 _ rfl rfl v n rfl hv hn (by unfold IsKind; omega) (by rw [ByteArray.toList_eq]; decide) (fun c hc => ?_) (fun h => absurd h (by decide)) (fun _ => rfl) (fun h => absurd h (by decide)) (fun _ => ⟨rfl, rfl, rfl⟩) (by decide) rfl (Or.inr ⟨by decide, by decide, rfl⟩)
  rcases hc with rfl | rfl | rfl | rfl | rfl | rfl
  all_goals refine ⟨fun h => ?_, fun h => ?_⟩
  all_goals first | exact absurd h (by decide) | rfl | exact ⟨by show (0 : Int) ≤ 17; decide, by show (17 : Int) ≤ 4611686018427387903; decide⟩
theorem clean_9 (m : MG) : cleanTo (answer9 m 1) (fieldsOf 10) (fieldsOf 10).size = ⟨10, m.to_, 1, 0, 0, 0, m.fl, m.gen + 1, 0, ⟨#[]⟩, 0, 0, ⟨#[]⟩, none, 0, 0⟩ := rfl
theorem clean_4 (m : MG) : cleanTo (answer4 m 1) (fieldsOf 5) (fieldsOf 5).size = ⟨5, m.to_, 1, m.bal, m.gen, 0, 0, 0, m.po - 1 - m.pa, m.mrk, 0, 0, ⟨#[]⟩, none, 0, 0⟩ := rfl
theorem clean_7 (m : MG) : cleanTo (answer7 m 1) (fieldsOf 8) (fieldsOf 8).size = ⟨8, m.to_, 1, m.bal, m.gen, 0, 0, 0, 0, m.mrk, 0, 0, ⟨#[]⟩, none, 0, 0⟩ := rfl
theorem clean_11 (m : MG) : cleanTo (answer11 m 1) (fieldsOf 12) (fieldsOf 12).size = ⟨12, m.to_, 1, m.bal, 0, 0, m.fl, 0, m.rd, ⟨#[]⟩, 0, 0, ⟨#[]⟩, none, 0, 0⟩ := rfl
theorem clean_1 (m : MG) : cleanTo (answer1 m 1) (fieldsOf 2) (fieldsOf 2).size = ⟨2, m.to_, 1, m.bal, 0, 0, m.fl, 0, 0, ⟨#[]⟩, 0, 0, ⟨#[]⟩, none, 0, 0⟩ := rfl
end Go.Proofs.YtaemlplcjjbamaaGreatDoor
namespace Go.Proofs.YtaemlplcjjbamaaGreatDoor
open Go Go.RowKit
set_option linter.unusedVariables false
/-- an operation whose guard is false -/
theorem held_skipC {P : Program} {ops : Array Oper} {Q : Exit → Act → World → Prop} {md : Region.Mode} {S : World → Prop} {i : Nat} {oi : Oper} {rest : List Oper} {fuel : Nat} {listed : Array Bool} {a : Act} {w : World} (hi : ops.toList.drop i = oi :: rest)
    (hs : Region.noSelect ops = true) (hf : Region.free md ops listed i = true) (hr : (Region.ready md ops listed).contains i = true)
    (hQ : ∀ c a w, Q (.panic c) (a.put oi.dst undef) w → Q (.panic c) a w) (hw : Region.wanted oi (yielded ops a.tmps) = false) (hS : S w)
    (h : wpAnyH P md ops Q S fuel (listed.setIfInBounds i true) (a.put oi.dst undef) w) : wpAnyH P md ops Q S (fuel + 1) listed a w :=
  wpAnyH_take (at_of_drop hi) hs hf hr hQ (.inr ⟨hw, rfl⟩) hS h
theorem msgsV_at {L : List MG} {k : Nat} {m : MG} (h : L[k]? = some m) (j : Nat) (hj : j < 14) : (msgsV L)[k * 14 + j]? = m.vals[j]? := by
  induction L generalizing k with
  | nil => simp at h
  | cons y L ih =>
    have e : msgsV (y :: L) = y.vals ++ msgsV L := rfl
    have hy : y.vals.length = 14 := rfl
    cases k with
    | zero =>
      simp at h
      subst h
      rw [e, List.getElem?_append_left (by rw [hy]; omega)]
      congr 1
      omega
    | succ k =>
      have h' : L[k]? = some m := by simpa using h
      rw [e, List.getElem?_append_right (by rw [hy]; omega), hy, show (k + 1) * 14 + j - 14 = k * 14 + j by omega]
      exact ih h'
set_option maxRecDepth 100000 in
set_option maxHeartbeats 8000000 in
theorem sends_any (wb c bk B np : Nat) (sa : Option Addr) (sc : Nat) (av : Value) (L : List MG) (S : CSt) (w : World)
    (hW : Blk w wb (worldC c bk S.id (np : Int) (.slice sa L.length sc) av) 43) (hC : CoordAt w c S) (hn : 1 ≤ S.n)
    (hS : w.ownsRow B 30 14 (.slice sa L.length sc) L.length (msgsV L)) (hL : ∀ m ∈ L, FitM m ∧ m.fr = S.id ∧ m.to_ < (np : Int) ∧ (m.k = 9 ∨ (m.k ≠ 9 ∧ m.k ≠ 13 ∧ m.bal = S.ballot))) (hl : L.length ≤ 1000) :
    Calls Tryz.prog 28 #[.pointer (some ⟨wb, 0, none⟩)] w fun e w' => e = .returned (.bool true) ∧ Below w.heap.size w w' := by
  have HW := Lib.hid hW
  have HC := Lib.hid hC
  have HS := Lib.hid hS
  have HLv := Lib.hid hL
  clear hW hC hS hL
  go_enter Tryz.func28, Tryz.ntmps28
  go_wp2
  go_loopw [3, 4, 5] (fun i _ _ wr => ∃ k : Nat, i = .int .i64 k ∧ k ≤ L.length ∧ Below w.heap.size w wr) (fun i _ _ _ => L.length - (intOf i).toNat)
  case atStart => exact ⟨0, rfl, Nat.zero_le _, Below.refl _ _⟩
  case round =>
    obtain ⟨k, rfl, hk, hbr⟩ := hrel
    have hW2 := HW.out.below hbr
    have c4 : wr.cell? ⟨wb, 4, none⟩ = some (.slice sa L.length sc) := hW2.cell 4
    by_cases hlt : k < L.length
    · have hrow := ownsRow_below HS.out hbr
      obtain ⟨g, cap, hsv, hg0, hg, _, _, hcell⟩ := row_some hrow (by omega)
      have hsa : sa = some ⟨g, 0, none⟩ := by injection hsv
      subst hsa
      obtain ⟨m, hm⟩ : ∃ m, L[k]? = some m := ⟨_, List.getElem?_eq_getElem hlt⟩
      have hLm := HLv.out m (List.mem_of_getElem? hm)
      have hx : ∀ j, j < 14 → wr.cell? ⟨g, k * 14 + j, none⟩ = m.vals[j]? := fun j hj => (hcell (k * 14 + j) (by omega)).trans (msgsV_at hm j hj)
      have x0 : wr.cell? ⟨g, k * 14, none⟩ = some (.int .i64 m.k) := hx 0 (by omega)
      have x1 : wr.cell? ⟨g, k * 14 + 1, none⟩ = some (.int .i64 m.fr) := hx 1 (by omega)
      have x2 : wr.cell? ⟨g, k * 14 + 2, none⟩ = some (.int .i64 m.to_) := hx 2 (by omega)
      have x3 : wr.cell? ⟨g, k * 14 + 3, none⟩ = some (.int .i64 m.bal) := hx 3 (by omega)
      have x4 : wr.cell? ⟨g, k * 14 + 4, none⟩ = some (.int .i64 m.gen) := hx 4 (by omega)
      have x5 : wr.cell? ⟨g, k * 14 + 5, none⟩ = some (.int .i64 m.bas) := hx 5 (by omega)
      have x6 : wr.cell? ⟨g, k * 14 + 6, none⟩ = some (.int .i64 m.fl) := hx 6 (by omega)
      have x7 : wr.cell? ⟨g, k * 14 + 7, none⟩ = some (.int .i64 m.tp) := hx 7 (by omega)
      have x8 : wr.cell? ⟨g, k * 14 + 8, none⟩ = some (.int .i64 m.rd) := hx 8 (by omega)
      have x9 : wr.cell? ⟨g, k * 14 + 9, none⟩ = some (.string m.mrk) := hx 9 (by omega)
      have x10 : wr.cell? ⟨g, k * 14 + 10, none⟩ = some (.int .i64 m.pa) := hx 10 (by omega)
      have x11 : wr.cell? ⟨g, k * 14 + 11, none⟩ = some (.int .i64 m.po) := hx 11 (by omega)
      have x12 : wr.cell? ⟨g, k * 14 + 12, none⟩ = some (.string m.pt) := hx 12 (by omega)
      have x13 : wr.cell? ⟨g, k * 14 + 13, none⟩ = some (.slice m.la m.ll m.lc) := hx 13 (by omega)
      have HLm := Lib.hid hLm
      clear hx hcell hrow hsv hm hLm
      have hbA := hbr.alloc hbr.size (.cells #[.int .i64 m.k, .int .i64 m.fr, .int .i64 m.to_, .int .i64 m.bal, .int .i64 m.gen, .int .i64 m.bas, .int .i64 m.fl, .int .i64 m.tp, .int .i64 m.rd, .string m.mrk, .int .i64 m.pa, .int .i64 m.po, .string m.pt, .slice m.la m.ll m.lc] 30)
      have QA := Lib.hid (show Blk (wr.alloc (.cells #[.int .i64 m.k, .int .i64 m.fr, .int .i64 m.to_, .int .i64 m.bal, .int .i64 m.gen, .int .i64 m.bas, .int .i64 m.fl, .int .i64 m.tp, .int .i64 m.rd, .string m.mrk, .int .i64 m.pa, .int .i64 m.po, .string m.pt, .slice m.la m.ll m.lc] 30)) wr.heap.size [.int .i64 m.k, .int .i64 m.fr, .int .i64 m.to_, .int .i64 m.bal, .int .i64 m.gen, .int .i64 m.bas, .int .i64 m.fl, .int .i64 m.tp, .int .i64 m.rd, .string m.mrk, .int .i64 m.pa, .int .i64 m.po, .string m.pt, .slice m.la m.ll m.lc] 30 from Blk.new wr [.int .i64 m.k, .int .i64 m.fr, .int .i64 m.to_, .int .i64 m.bal, .int .i64 m.gen, .int .i64 m.bas, .int .i64 m.fl, .int .i64 m.tp, .int .i64 m.rd, .string m.mrk, .int .i64 m.pa, .int .i64 m.po, .string m.pt, .slice m.la m.ll m.lc] 30)
      have HWA := Lib.hid (hW2.alloc (.cells #[.int .i64 m.k, .int .i64 m.fr, .int .i64 m.to_, .int .i64 m.bal, .int .i64 m.gen, .int .i64 m.bas, .int .i64 m.fl, .int .i64 m.tp, .int .i64 m.rd, .string m.mrk, .int .i64 m.pa, .int .i64 m.po, .string m.pt, .slice m.la m.ll m.lc] 30))
      have HCA := Lib.hid ((HC.out.below hbr).alloc (.cells #[.int .i64 m.k, .int .i64 m.fr, .int .i64 m.to_, .int .i64 m.bal, .int .i64 m.gen, .int .i64 m.bas, .int .i64 m.fl, .int .i64 m.tp, .int .i64 m.rd, .string m.mrk, .int .i64 m.pa, .int .i64 m.po, .string m.pt, .slice m.la m.ll m.lc] 30))
      have hgl : g < wr.heap.size := hg
      rcases HLm.out.2.2.2 with h9 | ⟨h9, h13, hbl⟩
      · have e9 : (m.k == 9) = true := by rw [h9]; rfl
        clear h9
        go_upto_region 6 with fail
        generalize wr.alloc (.cells #[.int .i64 m.k, .int .i64 m.fr, .int .i64 m.to_, .int .i64 m.bal, .int .i64 m.gen, .int .i64 m.bas, .int .i64 m.fl, .int .i64 m.tp, .int .i64 m.rd, .string m.mrk, .int .i64 m.pa, .int .i64 m.po, .string m.pt, .slice m.la m.ll m.lc] 30) = wA at hbA QA HWA HCA ⊢
        generalize wr.heap.size = q at QA hgl ⊢
        have HK := Lib.hid (show ∀ w', Below wA.heap.size wA w' → (w'.cell? ⟨q, 0, none⟩ = some (.int .i64 m.k) ∧ w'.cell? ⟨q, 1, none⟩ = some (.int .i64 m.fr) ∧ w'.cell? ⟨q, 2, none⟩ = some (.int .i64 m.to_) ∧ w'.cell? ⟨q, 3, none⟩ = some (.int .i64 m.bal) ∧ w'.cell? ⟨q, 4, none⟩ = some (.int .i64 m.gen) ∧ w'.cell? ⟨q, 5, none⟩ = some (.int .i64 m.bas) ∧ w'.cell? ⟨q, 6, none⟩ = some (.int .i64 m.fl) ∧ w'.cell? ⟨q, 7, none⟩ = some (.int .i64 m.tp) ∧ w'.cell? ⟨q, 8, none⟩ = some (.int .i64 m.rd) ∧ w'.cell? ⟨q, 9, none⟩ = some (.string m.mrk) ∧ w'.cell? ⟨q, 10, none⟩ = some (.int .i64 m.pa) ∧ w'.cell? ⟨q, 11, none⟩ = some (.int .i64 m.po) ∧ w'.cell? ⟨q, 12, none⟩ = some (.string m.pt) ∧ w'.cell? ⟨q, 13, none⟩ = some (.slice m.la m.ll m.lc) ∧ w'.cell? ⟨wb, 0, none⟩ = some (.pointer (some ⟨c, 0, none⟩)) ∧ w'.cell? ⟨wb, 2, none⟩ = some (.int .i64 S.id) ∧ w'.cell? ⟨wb, 3, none⟩ = some (.int .i64 (np : Int))) from fun w' hb => ⟨(QA.out.below hb).cell 0, (QA.out.below hb).cell 1, (QA.out.below hb).cell 2, (QA.out.below hb).cell 3, (QA.out.below hb).cell 4, (QA.out.below hb).cell 5, (QA.out.below hb).cell 6, (QA.out.below hb).cell 7, (QA.out.below hb).cell 8, (QA.out.below hb).cell 9, (QA.out.below hb).cell 10, (QA.out.below hb).cell 11, (QA.out.below hb).cell 12, (QA.out.below hb).cell 13, (HWA.out.below hb).cell 0, (HWA.out.below hb).cell 2, (HWA.out.below hb).cell 3⟩)
        have HRt := Lib.hid (fun w1 => lawRight_any m HLm.out.1 w1)
        have HBl := Lib.hid (fun w' (hb : Below wA.heap.size wA w') => ballotOf_any c S w' (HCA.out.below hb) hn)
        have hk0 := HK.out wA.drew (Below.refl _ _).drew
        have e1 : (m.fr != S.id) = false := by rw [HLm.out.2.1]; simp
        have hv0 : decide (m.to_ < 0) = false := decide_eq_false (by have := HLm.out.1.to_; omega)
        have hv4 : decide ((np : Int) ≤ m.to_) = false := decide_eq_false (by have := HLm.out.2.2.1; omega)
        clear x0 x1 x2 x3 x4 x5 x6 x7 x8 x9 x10 x11 x12 x13 c4 hW2 hbr hgl QA HWA HCA
        refine wp_region_noPanic ?_
        refine wp_region_held_drew (S := (fun w' => w'.cell? ⟨q, 0, none⟩ = some (.int .i64 m.k) ∧ w'.cell? ⟨q, 1, none⟩ = some (.int .i64 m.fr) ∧ w'.cell? ⟨q, 2, none⟩ = some (.int .i64 m.to_) ∧ w'.cell? ⟨q, 3, none⟩ = some (.int .i64 m.bal) ∧ w'.cell? ⟨q, 4, none⟩ = some (.int .i64 m.gen) ∧ w'.cell? ⟨q, 5, none⟩ = some (.int .i64 m.bas) ∧ w'.cell? ⟨q, 6, none⟩ = some (.int .i64 m.fl) ∧ w'.cell? ⟨q, 7, none⟩ = some (.int .i64 m.tp) ∧ w'.cell? ⟨q, 8, none⟩ = some (.int .i64 m.rd) ∧ w'.cell? ⟨q, 9, none⟩ = some (.string m.mrk) ∧ w'.cell? ⟨q, 10, none⟩ = some (.int .i64 m.pa) ∧ w'.cell? ⟨q, 11, none⟩ = some (.int .i64 m.po) ∧ w'.cell? ⟨q, 12, none⟩ = some (.string m.pt) ∧ w'.cell? ⟨q, 13, none⟩ = some (.slice m.la m.ll m.lc) ∧ w'.cell? ⟨wb, 0, none⟩ = some (.pointer (some ⟨c, 0, none⟩)) ∧ w'.cell? ⟨wb, 2, none⟩ = some (.int .i64 S.id) ∧ w'.cell? ⟨wb, 3, none⟩ = some (.int .i64 (np : Int)))) (by kernel_rfl) ?_ (fun hHeld => ?_)
        · ((try dsimp only); (first | with_reducible exact hk0 | with_reducible exact HK.out _ (by assumption) | go_keep))
        refine held_take (i := 0) (v := ?_) rfl (by kernel_rfl) (by kernel_rfl) (by kernel_rfl) (fun _ _ _ h => h) (by rfl) (fun w hSw => ?_) (by assumption) ?_
        rotate_left
        · ((try dsimp only at hSw); go_simp; (try with_reducible rfl))
        (try simp only [Act.put, List.setIfInBounds_toArray, List.set_cons_zero, List.set_cons_succ])
        refine wpAnyH_ready (rs := [1]) (by kernel_rfl) (by simp) ?_
        refine held_cons rfl (fun K hK => ?_) (AllReadyH.nil)
        go_simp
        ((first
          | (go_at_call 46; refine (HRt.out _).mono ?_; rintro e wR ⟨rfl, hbR⟩; have hbR2 := below_step ((Below.refl wA.heap.size wA).drew) hbR)
          | (go_at_call 30; refine (HBl.out _ (by assumption)).mono ?_; rintro e wB ⟨rfl, rfl⟩)))
        go_wp2_with fail
        refine hK.out _ _ ?_ (fun hHeld => ?_)
        · ((try dsimp only); (first | with_reducible exact hk0 | with_reducible exact HK.out _ (by assumption) | go_keep))
        clear hK K
        (try simp only [Act.put, List.setIfInBounds_toArray, List.set_cons_zero, List.set_cons_succ])
        refine held_take (i := 2) (v := ?_) rfl (by kernel_rfl) (by kernel_rfl) (by kernel_rfl) (fun _ _ _ h => h) (by rfl) (fun w hSw => ?_) (by assumption) ?_
        rotate_left
        · ((try dsimp only at hSw); go_simp; (try with_reducible rfl))
        (try simp only [Act.put, List.setIfInBounds_toArray, List.set_cons_zero, List.set_cons_succ])
        refine held_take (i := 3) (v := ?_) rfl (by kernel_rfl) (by kernel_rfl) (by kernel_rfl) (fun _ _ _ h => h) (by rfl) (fun w hSw => ?_) (by assumption) ?_
        rotate_left
        · ((try dsimp only at hSw); go_simp; (try with_reducible rfl))
        (try simp only [Act.put, List.setIfInBounds_toArray, List.set_cons_zero, List.set_cons_succ])
        refine held_take (i := 4) (v := ?_) rfl (by kernel_rfl) (by kernel_rfl) (by kernel_rfl) (fun _ _ _ h => h) (by rfl) (fun w hSw => ?_) (by assumption) ?_
        rotate_left
        · ((try dsimp only at hSw); go_simp; (try with_reducible rfl))
        (try simp only [Act.put, List.setIfInBounds_toArray, List.set_cons_zero, List.set_cons_succ])
        refine held_take (i := 5) (v := ?_) rfl (by kernel_rfl) (by kernel_rfl) (by kernel_rfl) (fun _ _ _ h => h) (by rfl) (fun w hSw => ?_) (by assumption) ?_
        rotate_left
        · ((try dsimp only at hSw); go_simp; (try with_reducible rfl))
        (try simp only [Act.put, List.setIfInBounds_toArray, List.set_cons_zero, List.set_cons_succ])
        refine held_take (i := 6) (v := ?_) rfl (by kernel_rfl) (by kernel_rfl) (by kernel_rfl) (fun _ _ _ h => h) (by rfl) (fun w hSw => ?_) (by assumption) ?_
        rotate_left
        · ((try dsimp only at hSw); go_simp; (try with_reducible rfl))
        (try simp only [Act.put, List.setIfInBounds_toArray, List.set_cons_zero, List.set_cons_succ])
        refine held_take (i := 7) (v := ?_) rfl (by kernel_rfl) (by kernel_rfl) (by kernel_rfl) (fun _ _ _ h => h) (by rfl) (fun w hSw => ?_) (by assumption) ?_
        rotate_left
        · ((try dsimp only at hSw); go_simp; (try with_reducible rfl))
        (try simp only [Act.put, List.setIfInBounds_toArray, List.set_cons_zero, List.set_cons_succ])
        refine held_take (i := 8) (v := ?_) rfl (by kernel_rfl) (by kernel_rfl) (by kernel_rfl) (fun _ _ _ h => h) (by rfl) (fun w hSw => ?_) (by assumption) ?_
        rotate_left
        · ((try dsimp only at hSw); go_simp; (try with_reducible rfl))
        (try simp only [Act.put, List.setIfInBounds_toArray, List.set_cons_zero, List.set_cons_succ])
        refine held_take (i := 9) (v := ?_) rfl (by kernel_rfl) (by kernel_rfl) (by kernel_rfl) (fun _ _ _ h => h) (by rfl) (fun w hSw => ?_) (by assumption) ?_
        rotate_left
        · ((try dsimp only at hSw); go_simp; (try with_reducible rfl))
        (try simp only [Act.put, List.setIfInBounds_toArray, List.set_cons_zero, List.set_cons_succ])
        refine held_take (i := 10) (v := ?_) rfl (by kernel_rfl) (by kernel_rfl) (by kernel_rfl) (fun _ _ _ h => h) (by rfl) (fun w hSw => ?_) (by assumption) ?_
        rotate_left
        · ((try dsimp only at hSw); go_simp; (try with_reducible rfl))
        (try simp only [Act.put, List.setIfInBounds_toArray, List.set_cons_zero, List.set_cons_succ])
        refine held_take (i := 11) (v := ?_) rfl (by kernel_rfl) (by kernel_rfl) (by kernel_rfl) (fun _ _ _ h => h) (by rfl) (fun w hSw => ?_) (by assumption) ?_
        rotate_left
        · ((try dsimp only at hSw); go_simp; (try with_reducible rfl))
        (try simp only [Act.put, List.setIfInBounds_toArray, List.set_cons_zero, List.set_cons_succ])
        refine held_take (i := 12) (v := ?_) rfl (by kernel_rfl) (by kernel_rfl) (by kernel_rfl) (fun _ _ _ h => h) (by rfl) (fun w hSw => ?_) (by assumption) ?_
        rotate_left
        · ((try dsimp only at hSw); go_simp; (try with_reducible rfl))
        (try simp only [Act.put, List.setIfInBounds_toArray, List.set_cons_zero, List.set_cons_succ])
        refine held_take (i := 13) (v := ?_) rfl (by kernel_rfl) (by kernel_rfl) (by kernel_rfl) (fun _ _ _ h => h) (by rfl) (fun w hSw => ?_) (by assumption) ?_
        rotate_left
        · ((try dsimp only at hSw); go_simp; (try with_reducible rfl))
        (try simp only [Act.put, List.setIfInBounds_toArray, List.set_cons_zero, List.set_cons_succ])
        refine held_take (i := 14) (v := ?_) rfl (by kernel_rfl) (by kernel_rfl) (by kernel_rfl) (fun _ _ _ h => h) (by rfl) (fun w hSw => ?_) (by assumption) ?_
        rotate_left
        · ((try dsimp only at hSw); go_simp; (try with_reducible rfl))
        (try simp only [Act.put, List.setIfInBounds_toArray, List.set_cons_zero, List.set_cons_succ])
        refine held_take (i := 15) (v := ?_) rfl (by kernel_rfl) (by kernel_rfl) (by kernel_rfl) (fun _ _ _ h => h) (by rfl) (fun w hSw => ?_) (by assumption) ?_
        rotate_left
        · ((try dsimp only at hSw); go_simp; (try with_reducible rfl))
        (try simp only [Act.put, List.setIfInBounds_toArray, List.set_cons_zero, List.set_cons_succ])
        refine held_take (i := 16) (v := ?_) rfl (by kernel_rfl) (by kernel_rfl) (by kernel_rfl) (fun _ _ _ h => h) (by rfl) (fun w hSw => ?_) (by assumption) ?_
        rotate_left
        · ((try dsimp only at hSw); go_simp; (try with_reducible rfl))
        (try simp only [Act.put, List.setIfInBounds_toArray, List.set_cons_zero, List.set_cons_succ])
        refine held_take (i := 17) (v := ?_) rfl (by kernel_rfl) (by kernel_rfl) (by kernel_rfl) (fun _ _ _ h => h) (by rfl) (fun w hSw => ?_) (by assumption) ?_
        rotate_left
        · ((try dsimp only at hSw); go_simp; (try with_reducible rfl))
        (try simp only [Act.put, List.setIfInBounds_toArray, List.set_cons_zero, List.set_cons_succ])
        refine held_take (i := 18) (v := ?_) rfl (by kernel_rfl) (by kernel_rfl) (by kernel_rfl) (fun _ _ _ h => h) (by rfl) (fun w hSw => ?_) (by assumption) ?_
        rotate_left
        · ((try dsimp only at hSw); go_simp; (try with_reducible rfl))
        (try simp only [Act.put, List.setIfInBounds_toArray, List.set_cons_zero, List.set_cons_succ])
        refine held_take (i := 19) (v := ?_) rfl (by kernel_rfl) (by kernel_rfl) (by kernel_rfl) (fun _ _ _ h => h) (by rfl) (fun w hSw => ?_) (by assumption) ?_
        rotate_left
        · ((try dsimp only at hSw); go_simp; (try with_reducible rfl))
        (try simp only [Act.put, List.setIfInBounds_toArray, List.set_cons_zero, List.set_cons_succ])
        refine held_take (i := 20) (v := ?_) rfl (by kernel_rfl) (by kernel_rfl) (by kernel_rfl) (fun _ _ _ h => h) (by rfl) (fun w hSw => ?_) (by assumption) ?_
        rotate_left
        · ((try dsimp only at hSw); go_simp; (try with_reducible rfl))
        (try simp only [Act.put, List.setIfInBounds_toArray, List.set_cons_zero, List.set_cons_succ])
        refine held_take (i := 21) (v := ?_) rfl (by kernel_rfl) (by kernel_rfl) (by kernel_rfl) (fun _ _ _ h => h) (by rfl) (fun w hSw => ?_) (by assumption) ?_
        rotate_left
        · ((try dsimp only at hSw); go_simp; (try with_reducible rfl))
        (try simp only [Act.put, List.setIfInBounds_toArray, List.set_cons_zero, List.set_cons_succ])
        refine held_take (i := 22) (v := ?_) rfl (by kernel_rfl) (by kernel_rfl) (by kernel_rfl) (fun _ _ _ h => h) (by rfl) (fun w hSw => ?_) (by assumption) ?_
        rotate_left
        · ((try dsimp only at hSw); go_simp; (try with_reducible rfl))
        (try simp only [Act.put, List.setIfInBounds_toArray, List.set_cons_zero, List.set_cons_succ])
        refine held_take (i := 23) (v := ?_) rfl (by kernel_rfl) (by kernel_rfl) (by kernel_rfl) (fun _ _ _ h => h) (by rfl) (fun w hSw => ?_) (by assumption) ?_
        rotate_left
        · ((try dsimp only at hSw); go_simp; (try with_reducible rfl))
        (try simp only [Act.put, List.setIfInBounds_toArray, List.set_cons_zero, List.set_cons_succ])
        refine held_take (i := 24) (v := ?_) rfl (by kernel_rfl) (by kernel_rfl) (by kernel_rfl) (fun _ _ _ h => h) (by rfl) (fun w hSw => ?_) (by assumption) ?_
        rotate_left
        · ((try dsimp only at hSw); go_simp; (try with_reducible rfl))
        (try simp only [Act.put, List.setIfInBounds_toArray, List.set_cons_zero, List.set_cons_succ])
        refine held_take (i := 25) (v := ?_) rfl (by kernel_rfl) (by kernel_rfl) (by kernel_rfl) (fun _ _ _ h => h) (by rfl) (fun w hSw => ?_) (by assumption) ?_
        rotate_left
        · ((try dsimp only at hSw); go_simp; (try with_reducible rfl))
        (try simp only [Act.put, List.setIfInBounds_toArray, List.set_cons_zero, List.set_cons_succ])
        refine held_take (i := 26) (v := ?_) rfl (by kernel_rfl) (by kernel_rfl) (by kernel_rfl) (fun _ _ _ h => h) (by rfl) (fun w hSw => ?_) (by assumption) ?_
        rotate_left
        · ((try dsimp only at hSw); go_simp; (try with_reducible rfl))
        (try simp only [Act.put, List.setIfInBounds_toArray, List.set_cons_zero, List.set_cons_succ])
        refine held_take (i := 27) (v := ?_) rfl (by kernel_rfl) (by kernel_rfl) (by kernel_rfl) (fun _ _ _ h => h) (by rfl) (fun w hSw => ?_) (by assumption) ?_
        rotate_left
        · ((try dsimp only at hSw); go_simp; (try with_reducible rfl))
        (try simp only [Act.put, List.setIfInBounds_toArray, List.set_cons_zero, List.set_cons_succ])
        refine held_take (i := 28) (v := ?_) rfl (by kernel_rfl) (by kernel_rfl) (by kernel_rfl) (fun _ _ _ h => h) (by rfl) (fun w hSw => ?_) (by assumption) ?_
        rotate_left
        · ((try dsimp only at hSw); go_simp; (try with_reducible rfl))
        (try simp only [Act.put, List.setIfInBounds_toArray, List.set_cons_zero, List.set_cons_succ])
        refine held_take (i := 29) (v := ?_) rfl (by kernel_rfl) (by kernel_rfl) (by kernel_rfl) (fun _ _ _ h => h) (by rfl) (fun w hSw => ?_) (by assumption) ?_
        rotate_left
        · ((try dsimp only at hSw); go_simp; (try with_reducible rfl))
        (try simp only [Act.put, List.setIfInBounds_toArray, List.set_cons_zero, List.set_cons_succ])
        refine held_skipC (i := 30) rfl (by kernel_rfl) (by kernel_rfl) (by kernel_rfl) (fun _ _ _ h => h) (by first | rfl | kernel_rfl) (by assumption) ?_
        (try simp only [Act.put, List.setIfInBounds_toArray, List.set_cons_zero, List.set_cons_succ])
        refine held_skipC (i := 31) rfl (by kernel_rfl) (by kernel_rfl) (by kernel_rfl) (fun _ _ _ h => h) (by first | rfl | kernel_rfl) (by assumption) ?_
        (try simp only [Act.put, List.setIfInBounds_toArray, List.set_cons_zero, List.set_cons_succ])
        refine held_skipC (i := 32) rfl (by kernel_rfl) (by kernel_rfl) (by kernel_rfl) (fun _ _ _ h => h) (by first | rfl | kernel_rfl) (by assumption) ?_
        (try simp only [Act.put, List.setIfInBounds_toArray, List.set_cons_zero, List.set_cons_succ])
        refine held_skipC (i := 33) rfl (by kernel_rfl) (by kernel_rfl) (by kernel_rfl) (fun _ _ _ h => h) (by first | rfl | kernel_rfl) (by assumption) ?_
        (try simp only [Act.put, List.setIfInBounds_toArray, List.set_cons_zero, List.set_cons_succ])
        refine held_skipC (i := 34) rfl (by kernel_rfl) (by kernel_rfl) (by kernel_rfl) (fun _ _ _ h => h) (by first | rfl | kernel_rfl) (by assumption) ?_
        (try simp only [Act.put, List.setIfInBounds_toArray, List.set_cons_zero, List.set_cons_succ])
        refine held_skipC (i := 35) rfl (by kernel_rfl) (by kernel_rfl) (by kernel_rfl) (fun _ _ _ h => h) (by first | rfl | kernel_rfl) (by assumption) ?_
        (try simp only [Act.put, List.setIfInBounds_toArray, List.set_cons_zero, List.set_cons_succ])
        refine wpAnyH_ready (rs := [36]) (by kernel_rfl) (by simp) ?_
        refine held_cons rfl (fun K hK => ?_) (AllReadyH.nil)
        go_simp
        refine hK.out _ _ ?_ (fun hHeld => ?_)
        · ((try dsimp only); (first | with_reducible exact hk0 | with_reducible exact HK.out _ (by assumption) | go_keep))
        clear hK K
        (try simp only [Act.put, List.setIfInBounds_toArray, List.set_cons_zero, List.set_cons_succ])
        refine wpAnyH_ready (rs := [37]) (by kernel_rfl) (by simp) ?_
        refine held_cons rfl (fun K hK => ?_) (AllReadyH.nil)
        go_simp
        refine hK.out _ _ ?_ (fun hHeld => ?_)
        · ((try dsimp only); (first | with_reducible exact hk0 | with_reducible exact HK.out _ (by assumption) | go_keep))
        clear hK K
        (try simp only [Act.put, List.setIfInBounds_toArray, List.set_cons_zero, List.set_cons_succ])
        refine held_take (i := 38) (v := ?_) rfl (by kernel_rfl) (by kernel_rfl) (by kernel_rfl) (fun _ _ _ h => h) (by rfl) (fun w hSw => ?_) (by assumption) ?_
        rotate_left
        · ((try dsimp only at hSw); go_simp; (try with_reducible rfl))
        (try simp only [Act.put, List.setIfInBounds_toArray, List.set_cons_zero, List.set_cons_succ])
        refine held_take (i := 39) (v := ?_) rfl (by kernel_rfl) (by kernel_rfl) (by kernel_rfl) (fun _ _ _ h => h) (by rfl) (fun w hSw => ?_) (by assumption) ?_
        rotate_left
        · ((try dsimp only at hSw); go_simp; (try with_reducible rfl))
        (try simp only [Act.put, List.setIfInBounds_toArray, List.set_cons_zero, List.set_cons_succ])
        refine wpAnyH_done (by kernel_rfl) ?_ _
        all_goals (refine NoPanic.normal ?_)
        all_goals
          have hbr2 := below_step hbA hbR2
          clear hbA hbR2 hbR hk0 HK HRt HBl
          go_wp2_with fail
          go_roundw
          case rel => exact ⟨k + 1, by go_num, by omega, hbr2⟩
          case measure => simp [intOf]; omega
      · have e9 : (m.k == 9) = false := by rw [beq_eq_false_iff_ne]; exact h9
        have e13 : (m.k == 13) = false := by rw [beq_eq_false_iff_ne]; exact h13
        have e2 : (m.bal != S.ballot) = false := by rw [hbl]; simp
        clear h9 h13 hbl
        go_upto_region 6 with fail
        generalize wr.alloc (.cells #[.int .i64 m.k, .int .i64 m.fr, .int .i64 m.to_, .int .i64 m.bal, .int .i64 m.gen, .int .i64 m.bas, .int .i64 m.fl, .int .i64 m.tp, .int .i64 m.rd, .string m.mrk, .int .i64 m.pa, .int .i64 m.po, .string m.pt, .slice m.la m.ll m.lc] 30) = wA at hbA QA HWA HCA ⊢
        generalize wr.heap.size = q at QA hgl ⊢
        have HK := Lib.hid (show ∀ w', Below wA.heap.size wA w' → (w'.cell? ⟨q, 0, none⟩ = some (.int .i64 m.k) ∧ w'.cell? ⟨q, 1, none⟩ = some (.int .i64 m.fr) ∧ w'.cell? ⟨q, 2, none⟩ = some (.int .i64 m.to_) ∧ w'.cell? ⟨q, 3, none⟩ = some (.int .i64 m.bal) ∧ w'.cell? ⟨q, 4, none⟩ = some (.int .i64 m.gen) ∧ w'.cell? ⟨q, 5, none⟩ = some (.int .i64 m.bas) ∧ w'.cell? ⟨q, 6, none⟩ = some (.int .i64 m.fl) ∧ w'.cell? ⟨q, 7, none⟩ = some (.int .i64 m.tp) ∧ w'.cell? ⟨q, 8, none⟩ = some (.int .i64 m.rd) ∧ w'.cell? ⟨q, 9, none⟩ = some (.string m.mrk) ∧ w'.cell? ⟨q, 10, none⟩ = some (.int .i64 m.pa) ∧ w'.cell? ⟨q, 11, none⟩ = some (.int .i64 m.po) ∧ w'.cell? ⟨q, 12, none⟩ = some (.string m.pt) ∧ w'.cell? ⟨q, 13, none⟩ = some (.slice m.la m.ll m.lc) ∧ w'.cell? ⟨wb, 0, none⟩ = some (.pointer (some ⟨c, 0, none⟩)) ∧ w'.cell? ⟨wb, 2, none⟩ = some (.int .i64 S.id) ∧ w'.cell? ⟨wb, 3, none⟩ = some (.int .i64 (np : Int))) from fun w' hb => ⟨(QA.out.below hb).cell 0, (QA.out.below hb).cell 1, (QA.out.below hb).cell 2, (QA.out.below hb).cell 3, (QA.out.below hb).cell 4, (QA.out.below hb).cell 5, (QA.out.below hb).cell 6, (QA.out.below hb).cell 7, (QA.out.below hb).cell 8, (QA.out.below hb).cell 9, (QA.out.below hb).cell 10, (QA.out.below hb).cell 11, (QA.out.below hb).cell 12, (QA.out.below hb).cell 13, (HWA.out.below hb).cell 0, (HWA.out.below hb).cell 2, (HWA.out.below hb).cell 3⟩)
        have HRt := Lib.hid (fun w1 => lawRight_any m HLm.out.1 w1)
        have HBl := Lib.hid (fun w' (hb : Below wA.heap.size wA w') => ballotOf_any c S w' (HCA.out.below hb) hn)
        have hk0 := HK.out wA.drew (Below.refl _ _).drew
        have e1 : (m.fr != S.id) = false := by rw [HLm.out.2.1]; simp
        have hv0 : decide (m.to_ < 0) = false := decide_eq_false (by have := HLm.out.1.to_; omega)
        have hv4 : decide ((np : Int) ≤ m.to_) = false := decide_eq_false (by have := HLm.out.2.2.1; omega)
        clear x0 x1 x2 x3 x4 x5 x6 x7 x8 x9 x10 x11 x12 x13 c4 hW2 hbr hgl QA HWA HCA
        go_region_held3 (fun w' => w'.cell? ⟨q, 0, none⟩ = some (.int .i64 m.k) ∧ w'.cell? ⟨q, 1, none⟩ = some (.int .i64 m.fr) ∧ w'.cell? ⟨q, 2, none⟩ = some (.int .i64 m.to_) ∧ w'.cell? ⟨q, 3, none⟩ = some (.int .i64 m.bal) ∧ w'.cell? ⟨q, 4, none⟩ = some (.int .i64 m.gen) ∧ w'.cell? ⟨q, 5, none⟩ = some (.int .i64 m.bas) ∧ w'.cell? ⟨q, 6, none⟩ = some (.int .i64 m.fl) ∧ w'.cell? ⟨q, 7, none⟩ = some (.int .i64 m.tp) ∧ w'.cell? ⟨q, 8, none⟩ = some (.int .i64 m.rd) ∧ w'.cell? ⟨q, 9, none⟩ = some (.string m.mrk) ∧ w'.cell? ⟨q, 10, none⟩ = some (.int .i64 m.pa) ∧ w'.cell? ⟨q, 11, none⟩ = some (.int .i64 m.po) ∧ w'.cell? ⟨q, 12, none⟩ = some (.string m.pt) ∧ w'.cell? ⟨q, 13, none⟩ = some (.slice m.la m.ll m.lc) ∧ w'.cell? ⟨wb, 0, none⟩ = some (.pointer (some ⟨c, 0, none⟩)) ∧ w'.cell? ⟨wb, 2, none⟩ = some (.int .i64 S.id) ∧ w'.cell? ⟨wb, 3, none⟩ = some (.int .i64 (np : Int)))
          (first | with_reducible exact hk0 | with_reducible exact HK.out _ (by assumption) | go_keep)
          (first
          | (go_at_call 46; refine (HRt.out _).mono ?_; rintro e wR ⟨rfl, hbR⟩; have hbR2 := below_step ((Below.refl wA.heap.size wA).drew) hbR)
          | (go_at_call 30; refine (HBl.out _ (by assumption)).mono ?_; rintro e wB ⟨rfl, rfl⟩))
        all_goals
          have hbr2 := below_step hbA hbR2
          clear hbA hbR2 hbR hk0 HK HRt HBl
          go_wp2_with fail
          go_roundw
          case rel => exact ⟨k + 1, by go_num, by omega, hbr2⟩
          case measure => simp [intOf]; omega
    · go_wp2_with fail
      go_ret
      exact ⟨rfl, hbr⟩
end Go.Proofs.YtaemlplcjjbamaaGreatDoor
