/- A coordinator's peers in memory, and the walk of far. No condition. -/
import Derived.Test.YtmmnaieikfekfaaGreatDoorTick
import Derived.Deep.AppendLies
namespace Go.Proofs.YtmmnaieikfekfaaGreatDoor
open Go.RowKit

structure Peer where
  told : Bool
  floor : Int
  top : Int
  has : Int
  mark : ByteArray
  whole : Bool
  cursor : Int
  pack : Value
def Peer.vals (p : Peer) : List Value := [.bool p.told, .int .i64 p.floor, .int .i64 p.top, .int .i64 p.has, .string p.mark, .bool p.whole, .int .i64 p.cursor, p.pack]
def peersVals (ps : List Peer) : List Value := ps.flatMap Peer.vals
theorem peersVals_length (ps : List Peer) : (peersVals ps).length = ps.length * 8 := by
  induction ps with
  | nil => rfl
  | cons p ps ih =>
    have e : peersVals (p :: ps) = p.vals ++ peersVals ps := rfl
    rw [e, List.length_append, ih]
    simp [Peer.vals]; omega
theorem peersVals_at (ps : List Peer) (v : Nat) (hv : v < ps.length) (j : Nat) (hj : j < 8) : (peersVals ps)[v * 8 + j]? = ps[v].vals[j]? := by
  induction ps generalizing v with
  | nil => simp at hv
  | cons p ps ih =>
    have e : peersVals (p :: ps) = p.vals ++ peersVals ps := rfl
    have hl : p.vals.length = 8 := rfl
    rw [e]
    cases v with
    | zero => rw [List.getElem?_append_left (by omega)]; simp
    | succ v =>
      rw [List.getElem?_append_right (by omega), hl, show (v + 1) * 8 + j - 8 = v * 8 + j by omega]
      exact ih v (by simpa using hv)
theorem peersVals_set (ps : List Peer) (v : Nat) (hv : v < ps.length) (j : Nat) (hj : j < 8) (x : Value) (p' : Peer) (h : p'.vals = ps[v].vals.set j x) : (peersVals ps).set (v * 8 + j) x = peersVals (ps.set v p') := by
  induction ps generalizing v with
  | nil => simp at hv
  | cons p ps ih =>
    have e : ∀ q qs, peersVals (q :: qs) = q.vals ++ peersVals qs := fun _ _ => rfl
    have hl : p.vals.length = 8 := rfl
    rw [e]
    cases v with
    | zero =>
      rw [List.set_cons_zero, e, List.set_append_left _ _ (by omega), h]
      simp
    | succ v =>
      rw [List.set_cons_succ, e, List.set_append_right _ _ (by omega), hl, show (v + 1) * 8 + j - 8 = v * 8 + j by omega]
      rw [ih v (by simpa using hv) (by simpa using h)]

theorem CoordAt.peer {w : World} {b : Nat} {c : CSt} {ps : List Peer} (h : CoordAt w b c) (hp : c.peers = peersVals ps) (v : Nat) (hv : v < ps.length) (j : Nat) (hj : j < 8) : w.cell? ⟨b, 12 + v * 8 + j, none⟩ = ps[v].vals[j]? := by
  have h12 : c.head.length = 12 := rfl
  have hpl := peersVals_length ps
  rw [h.1.cell, CSt.cells, List.getElem?_append_right (by omega), List.getElem?_append_left (by rw [hp]; omega), hp, h12, show 12 + v * 8 + j - 12 = v * 8 + j by omega]
  exact peersVals_at ps v hv j hj
/-- a peer's field is written -/
theorem CoordAt.setPeer {w : World} {b : Nat} {c : CSt} {ps : List Peer} (h : CoordAt w b c) (hp : c.peers = peersVals ps) (v : Nat) (hv : v < ps.length) (j : Nat) (hj : j < 8) (x : Value) (p' : Peer) (hx : p'.vals = ps[v].vals.set j x) :
    CoordAt (w.setCell ⟨b, 12 + v * 8 + j, none⟩ x) b { c with peers := peersVals (ps.set v p') } := by
  have h12 : c.head.length = 12 := rfl
  have hpl := peersVals_length ps
  refine ⟨?_, ?_⟩
  · have hb := h.1.set (12 + v * 8 + j) x
    rw [CSt.cells, List.set_append_right _ _ (by omega), List.set_append_left _ _ (by rw [hp]; omega), hp, h12, show 12 + v * 8 + j - 12 = v * 8 + j by omega, peersVals_set ps v hv j hj x p' hx] at hb
    exact hb
  · show (peersVals (ps.set v p')).length = 72
    have := h.2
    rw [hp] at this
    rw [peersVals_length, List.length_set, ← hpl]
    exact this
/-- the same, the peer told apart -/
theorem CoordAt.setPeer2 {w : World} {b : Nat} {c : CSt} {ps : List Peer} {v : Nat} {p : Peer} (h : CoordAt w b { c with peers := peersVals (ps.set v p) }) (hv : v < ps.length) (j : Nat) (hj : j < 8) (x : Value) (p' : Peer) (hx : p'.vals = p.vals.set j x) :
    CoordAt (w.setCell ⟨b, 12 + v * 8 + j, none⟩ x) b { c with peers := peersVals (ps.set v p') } := by
  have hv' : v < (ps.set v p).length := by rw [List.length_set]; exact hv
  have h2 := CoordAt.setPeer (c := { c with peers := peersVals (ps.set v p) }) (ps := ps.set v p) h rfl v hv' j hj x p' (by rw [List.getElem_set_self]; exact hx)
  rw [List.set_set] at h2
  exact h2
theorem CoordAt.asPeers {w : World} {b : Nat} {c : CSt} {ps : List Peer} (h : CoordAt w b c) (hp : c.peers = peersVals ps) (v : Nat) (hv : v < ps.length) : CoordAt w b { c with peers := peersVals (ps.set v ps[v]) } := by
  rw [List.set_getElem_self]
  rw [← hp]
  exact h
def farPeer (p : Peer) (fl tp : Int) : Peer :=
  if p.told = false ∨ p.top < tp then { p with told := true, top := tp, pack := .pointer none, whole := false, floor := max p.floor fl } else { p with told := true, floor := max p.floor fl }

theorem far_sets5 {w1 : World} {b : Nat} {c : CSt} {ps : List Peer} {v : Nat} {p : Peer} (fl tp : Int) (h : CoordAt w1 b c) (hp : c.peers = peersVals ps) (hvl : v < ps.length) (hpv : p = ps[v]) (ht : p.told = false ∨ p.top < tp) :
    CoordAt (((((w1.setCell ⟨b, 12 + v * 8 + 2, none⟩ (.int .i64 tp)).setCell ⟨b, 12 + v * 8 + 7, none⟩ (.pointer none)).setCell ⟨b, 12 + v * 8 + 5, none⟩ (.bool false)).setCell ⟨b, 12 + v * 8, none⟩ (.bool true)).setCell ⟨b, 12 + v * 8 + 1, none⟩ (.int .i64 (max p.floor fl))) b { c with peers := peersVals (ps.set v (farPeer p fl tp)) } := by
  have q1 := h.asPeers hp v hvl
  rw [← hpv] at q1
  have q2 := q1.setPeer2 hvl 2 (by omega) (.int .i64 tp) { p with top := tp } rfl
  have q3 := q2.setPeer2 hvl 7 (by omega) (.pointer none) { p with top := tp, pack := .pointer none } rfl
  have q4 := q3.setPeer2 hvl 5 (by omega) (.bool false) { p with top := tp, pack := .pointer none, whole := false } rfl
  have q5 := q4.setPeer2 hvl 0 (by omega) (.bool true) { p with top := tp, pack := .pointer none, whole := false, told := true } rfl
  have q6 := q5.setPeer2 hvl 1 (by omega) (.int .i64 (max p.floor fl)) { p with top := tp, pack := .pointer none, whole := false, told := true, floor := max p.floor fl } rfl
  have hfp : farPeer p fl tp = { p with top := tp, pack := .pointer none, whole := false, told := true, floor := max p.floor fl } := by unfold farPeer; rw [if_pos ht]
  rw [hfp]
  exact q6
theorem far_sets2 {w1 : World} {b : Nat} {c : CSt} {ps : List Peer} {v : Nat} {p : Peer} (fl tp : Int) (h : CoordAt w1 b c) (hp : c.peers = peersVals ps) (hvl : v < ps.length) (hpv : p = ps[v]) (ht : ¬ (p.told = false ∨ p.top < tp)) :
    CoordAt ((w1.setCell ⟨b, 12 + v * 8, none⟩ (.bool true)).setCell ⟨b, 12 + v * 8 + 1, none⟩ (.int .i64 (max p.floor fl))) b { c with peers := peersVals (ps.set v (farPeer p fl tp)) } := by
  have q1 := h.asPeers hp v hvl
  rw [← hpv] at q1
  have q5 := q1.setPeer2 hvl 0 (by omega) (.bool true) { p with told := true } rfl
  have q6 := q5.setPeer2 hvl 1 (by omega) (.int .i64 (max p.floor fl)) { p with told := true, floor := max p.floor fl } rfl
  have hfp : farPeer p fl tp = { p with told := true, floor := max p.floor fl } := by unfold farPeer; rw [if_neg ht]
  rw [hfp]
  exact q6
theorem CoordAt.drew {w : World} {b : Nat} {c : CSt} (h : CoordAt w b c) : CoordAt w.drew b c := h
theorem CoordAt.drewN {w : World} {b : Nat} {c : CSt} (h : CoordAt w b c) (n : Nat) : CoordAt (w.drewN n) b c := h
theorem CoordAt.alloc {w : World} {b : Nat} {c : CSt} (h : CoordAt w b c) (o : Obj) : CoordAt (w.alloc o) b c := ⟨h.1.alloc o, h.2⟩

theorem touchOne_set {a w : World} {b o : Nat} (h : Touch (fun k => k = b) a w) (v : Value) : Touch (fun k => k = b) a (w.setCell ⟨b, o, none⟩ v) := h.set (p := ⟨b, o, none⟩) (Or.inl rfl) v

set_option maxRecDepth 100000 in
set_option maxHeartbeats 4000000 in
theorem far_any (b : Nat) (c : CSt) (ps : List Peer) (v : Nat) (kind to' bal gen basis fl tp rd pa po : Int) (mk pt : ByteArray) (ls : Value) (w : World) (h : CoordAt w b c) (hp : c.peers = peersVals ps) (hps : ps.length = 9) (hv : v < 9) :
    Calls Tryz.prog 47 #[.pointer (some ⟨b, 0, none⟩), .agg #[.int .i64 kind, .int .i64 (v : Int), .int .i64 to', .int .i64 bal, .int .i64 gen, .int .i64 basis, .int .i64 fl, .int .i64 tp, .int .i64 rd, .string mk, .int .i64 pa, .int .i64 po, .string pt, ls]] w fun e w' =>
      e = .returned (.tuple #[]) ∧ CoordAt w' b { c with peers := peersVals (ps.set v (farPeer (ps[v]'(by omega)) fl tp)) } ∧ Touch (fun k => k = b) w w' := by
  have hbl := h.1.lt
  obtain ⟨p, hpv⟩ : ∃ p, p = ps[v]'(by omega) := ⟨_, rfl⟩
  rw [← hpv]
  have c0 : w.cell? ⟨b, 12 + v * 8, none⟩ = some (.bool p.told) := by rw [hpv]; exact h.peer hp v (by omega) 0 (by omega)
  have c1 : w.cell? ⟨b, 12 + v * 8 + 1, none⟩ = some (.int .i64 p.floor) := by rw [hpv]; exact h.peer hp v (by omega) 1 (by omega)
  have c2 : w.cell? ⟨b, 12 + v * 8 + 2, none⟩ = some (.int .i64 p.top) := by rw [hpv]; exact h.peer hp v (by omega) 2 (by omega)
  have c5 : w.cell? ⟨b, 12 + v * 8 + 5, none⟩ = some (.bool p.whole) := by rw [hpv]; exact h.peer hp v (by omega) 5 (by omega)
  have c7 : w.cell? ⟨b, 12 + v * 8 + 7, none⟩ = some p.pack := by rw [hpv]; exact h.peer hp v (by omega) 7 (by omega)
  have f0 := h.1.free (12 + v * 8)
  have f1 := h.1.free (12 + v * 8 + 1)
  have f2 := h.1.free (12 + v * 8 + 2)
  have f5 := h.1.free (12 + v * 8 + 5)
  have f7 := h.1.free (12 + v * 8 + 7)
  have hv1 : (0 : Int) ≤ (v : Int) := by omega
  have hv2 : (v : Int) < 9 := by omega
  have H := Lib.hid h
  have Hp := Lib.hid hp
  have Hpv := Lib.hid hpv
  clear h hp hpv
  cases ht : p.told with
  | false =>
    rw [ht] at c0
    go_enter Tryz.func47, Tryz.ntmps47
    go_wp2
    go_quiet (fail)
    go_wp2
    go_quiet (fail)
    go_wp2
    go_region
    all_goals go_wp2
    all_goals go_end0
    all_goals
      refine ⟨rfl, ?_, ?_⟩
      · refine CoordAt.drew ?_
        refine far_sets5 fl tp ?_ Hp.out (by omega) Hpv.out (Or.inl ht)
        exact (H.out.alloc _).drewN _
      · refine Touch.drew ?_
        refine touchOne_set ?_ _
        refine touchOne_set ?_ _
        refine touchOne_set ?_ _
        refine touchOne_set ?_ _
        refine touchOne_set ?_ _
        exact ((Touch.refl _ _).alloc _).drewN _
  | true =>
    rw [ht] at c0
    by_cases htp : p.top < tp
    · go_enter Tryz.func47, Tryz.ntmps47
      go_wp2
      go_quiet (fail)
      go_wp2
      go_quiet (fail)
      go_wp2
      go_region
      all_goals go_wp2
      all_goals go_end0
      all_goals
        refine ⟨rfl, ?_, ?_⟩
        · refine CoordAt.drew ?_
          refine far_sets5 fl tp ?_ Hp.out (by omega) Hpv.out (Or.inr htp)
          exact (H.out.alloc _).drewN _
        · refine Touch.drew ?_
          refine touchOne_set ?_ _
          refine touchOne_set ?_ _
          refine touchOne_set ?_ _
          refine touchOne_set ?_ _
          refine touchOne_set ?_ _
          exact ((Touch.refl _ _).alloc _).drewN _
    · go_enter Tryz.func47, Tryz.ntmps47
      go_wp2
      go_quiet (fail)
      go_wp2
      go_quiet (fail)
      go_wp2
      go_region
      all_goals go_wp2
      all_goals go_end0
      all_goals
        refine ⟨rfl, ?_, ?_⟩
        · refine CoordAt.drew ?_
          refine far_sets2 fl tp ?_ Hp.out (by omega) Hpv.out (by rw [ht]; simp; omega)
          exact (H.out.alloc _).drewN _
        · refine Touch.drew ?_
          refine touchOne_set ?_ _
          refine touchOne_set ?_ _
          exact ((Touch.refl _ _).alloc _).drewN _
end Go.Proofs.YtmmnaieikfekfaaGreatDoor
