/- A coordinator's peers in memory, and the walk of far. No condition. The walks of code.Num and of the document's Num and Bytes: a number's bytes. No condition. The plain words of a reader of bytes: a number's bytes are read back. No condition. The walks of code's reader: Read, Err, Left, Byte, Num, Raw, Count, End. No condition but the sizes. Images that are at hand, as cells. No condition. -/
import Derived.Test.YtaemlplcjjbamaaGreatDoorBTick
import Derived.Deep.AppendLies
import Derived.Test.YtaemlplcjjbamaaGreatDoorProg
import Derived.Test.YtaemlplcjjbamaaGreatDoorBHeld
import Derived.Lib.AppendStr
import Derived.Laws.BitsAllLaws
import Derived.Laws.Bits128
namespace Go.Proofs.YtaemlplcjjbamaaGreatDoor
open Go.RowKit
structure Peer where
  told : Bool
  floor : Int
  top : Int
  has : Int
  mark : ByteArray
  whole : Bool
  cursor : Int
  pack : Value
def Peer.vals (p : Peer) : List Value := [.bool p.told, .int .i64 p.floor, .int .i64 p.top, .int .i64 p.has, .string p.mark, .bool p.whole, .int .i64 p.cursor, p.pack]
def peersVals (ps : List Peer) : List Value := ps.flatMap Peer.vals
theorem peersVals_length (ps : List Peer) : (peersVals ps).length = ps.length * 8 := by
  induction ps with
  | nil => rfl
  | cons p ps ih =>
    have e : peersVals (p :: ps) = p.vals ++ peersVals ps := rfl
    rw [e, List.length_append, ih]
    simp [Peer.vals]; omega
theorem peersVals_at (ps : List Peer) (v : Nat) (hv : v < ps.length) (j : Nat) (hj : j < 8) : (peersVals ps)[v * 8 + j]? = ps[v].vals[j]? := by
  induction ps generalizing v with
  | nil => simp at hv
  | cons p ps ih =>
    have e : peersVals (p :: ps) = p.vals ++ peersVals ps := rfl
    have hl : p.vals.length = 8 := rfl
    rw [e]
    cases v with
    | zero => rw [List.getElem?_append_left (by omega)]; simp
    | succ v =>
      rw [List.getElem?_append_right (by omega), hl, show (v + 1) * 8 + j - 8 = v * 8 + j by omega]
      exact ih v (by simpa using hv)
theorem peersVals_set (ps : List Peer) (v : Nat) (hv : v < ps.length) (j : Nat) (hj : j < 8) (x : Value) (p' : Peer) (h : p'.vals = ps[v].vals.set j x) : (peersVals ps).set (v * 8 + j) x = peersVals (ps.set v p') := by
  induction ps generalizing v with
  | nil => simp at hv
  | cons p ps ih =>
    have e : ∀ q qs, peersVals (q :: qs) = q.vals ++ peersVals qs := fun _ _ => rfl
    have hl : p.vals.length = 8 := rfl
    rw [e]
    cases v with
    | zero =>
      rw [List.set_cons_zero, e, List.set_append_left _ _ (by omega), h]
      simp
    | succ v =>
      rw [List.set_cons_succ, e, List.set_append_right _ _ (by omega), hl, show (v + 1) * 8 + j - 8 = v * 8 + j by omega]
      rw [ih v (by simpa using hv) (by simpa using h)]
theorem CoordAt.peer {w : World} {b : Nat} {c : CSt} {ps : List Peer} (h : CoordAt w b c) (hp : c.peers = peersVals ps) (v : Nat) (hv : v < ps.length) (j : Nat) (hj : j < 8) : w.cell? ⟨b, 12 + v * 8 + j, none⟩ = ps[v].vals[j]? := by
  have h12 : c.head.length = 12 := rfl
  have hpl := peersVals_length ps
  rw [h.1.cell, CSt.cells, List.getElem?_append_right (by omega), List.getElem?_append_left (by rw [hp]; omega), hp, h12, show 12 + v * 8 + j - 12 = v * 8 + j by omega]
  exact peersVals_at ps v hv j hj
/-- a peer's field is written -/
theorem CoordAt.setPeer {w : World} {b : Nat} {c : CSt} {ps : List Peer} (h : CoordAt w b c) (hp : c.peers = peersVals ps) (v : Nat) (hv : v < ps.length) (j : Nat) (hj : j < 8) (x : Value) (p' : Peer) (hx : p'.vals = ps[v].vals.set j x) :
    CoordAt (w.setCell ⟨b, 12 + v * 8 + j, none⟩ x) b { c with peers := peersVals (ps.set v p') } := by
  have h12 : c.head.length = 12 := rfl
  have hpl := peersVals_length ps
  refine ⟨?_, ?_⟩
  · have hb := h.1.set (12 + v * 8 + j) x
    rw [CSt.cells, List.set_append_right _ _ (by omega), List.set_append_left _ _ (by rw [hp]; omega), hp, h12, show 12 + v * 8 + j - 12 = v * 8 + j by omega, peersVals_set ps v hv j hj x p' hx] at hb
    exact hb
  · show (peersVals (ps.set v p')).length = 72
    have := h.2
    rw [hp] at this
    rw [peersVals_length, List.length_set, ← hpl]
    exact this
/-- the same, the peer told apart -/
theorem CoordAt.setPeer2 {w : World} {b : Nat} {c : CSt} {ps : List Peer} {v : Nat} {p : Peer} (h : CoordAt w b { c with peers := peersVals (ps.set v p) }) (hv : v < ps.length) (j : Nat) (hj : j < 8) (x : Value) (p' : Peer) (hx : p'.vals = p.vals.set j x) :
    CoordAt (w.setCell ⟨b, 12 + v * 8 + j, none⟩ x) b { c with peers := peersVals (ps.set v p') } := by
  have hv' : v < (ps.set v p).length := by rw [List.length_set]; exact hv
  have h2 := CoordAt.setPeer (c := { c with peers := peersVals (ps.set v p) }) (ps := ps.set v p) h rfl v hv' j hj x p' (by rw [List.getElem_set_self]; exact hx)
  rw [List.set_set] at h2
  exact h2
theorem CoordAt.asPeers {w : World} {b : Nat} {c : CSt} {ps : List Peer} (h : CoordAt w b c) (hp : c.peers = peersVals ps) (v : Nat) (hv : v < ps.length) : CoordAt w b { c with peers := peersVals (ps.set v ps[v]) } := by
  rw [List.set_getElem_self]
  rw [← hp]
  exact h
def farPeer (p : Peer) (fl tp : Int) : Peer :=
  if p.told = false ∨ p.top < tp then { p with told := true, top := tp, pack := .pointer none, whole := false, floor := max p.floor fl } else { p with told := true, floor := max p.floor fl }
theorem far_sets5 {w1 : World} {b : Nat} {c : CSt} {ps : List Peer} {v : Nat} {p : Peer} (fl tp : Int) (h : CoordAt w1 b c) (hp : c.peers = peersVals ps) (hvl : v < ps.length) (hpv : p = ps[v]) (ht : p.told = false ∨ p.top < tp) :
    CoordAt (((((w1.setCell ⟨b, 12 + v * 8 + 2, none⟩ (.int .i64 tp)).setCell ⟨b, 12 + v * 8 + 7, none⟩ (.pointer none)).setCell ⟨b, 12 + v * 8 + 5, none⟩ (.bool false)).setCell ⟨b, 12 + v * 8, none⟩ (.bool true)).setCell ⟨b, 12 + v * 8 + 1, none⟩ (.int .i64 (max p.floor fl))) b { c with peers := peersVals (ps.set v (farPeer p fl tp)) } := by
  have q1 := h.asPeers hp v hvl
  rw [← hpv] at q1
  have q2 := q1.setPeer2 hvl 2 (by omega) (.int .i64 tp) { p with top := tp } rfl
  have q3 := q2.setPeer2 hvl 7 (by omega) (.pointer none) { p with top := tp, pack := .pointer none } rfl
  have q4 := q3.setPeer2 hvl 5 (by omega) (.bool false) { p with top := tp, pack := .pointer none, whole := false } rfl
  have q5 := q4.setPeer2 hvl 0 (by omega) (.bool true) { p with top := tp, pack := .pointer none, whole := false, told := true } rfl
  have q6 := q5.setPeer2 hvl 1 (by omega) (.int .i64 (max p.floor fl)) { p with top := tp, pack := .pointer none, whole := false, told := true, floor := max p.floor fl } rfl
  have hfp : farPeer p fl tp = { p with top := tp, pack := .pointer none, whole := false, told := true, floor := max p.floor fl } := by unfold farPeer; rw [if_pos ht]
  rw [hfp]
  exact q6
theorem far_sets2 {w1 : World} {b : Nat} {c : CSt} {ps : List Peer} {v : Nat} {p : Peer} (fl tp : Int) (h : CoordAt w1 b c) (hp : c.peers = peersVals ps) (hvl : v < ps.length) (hpv : p = ps[v]) (ht : ¬ (p.told = false ∨ p.top < tp)) :
    CoordAt ((w1.setCell ⟨b, 12 + v * 8, none⟩ (.bool true)).setCell ⟨b, 12 + v * 8 + 1, none⟩ (.int .i64 (max p.floor fl))) b { c with peers := peersVals (ps.set v (farPeer p fl tp)) } := by
  have q1 := h.asPeers hp v hvl
  rw [← hpv] at q1
  have q5 := q1.setPeer2 hvl 0 (by omega) (.bool true) { p with told := true } rfl
  have q6 := q5.setPeer2 hvl 1 (by omega) (.int .i64 (max p.floor fl)) { p with told := true, floor := max p.floor fl } rfl
  have hfp : farPeer p fl tp = { p with told := true, floor := max p.floor fl } := by unfold farPeer; rw [if_neg ht]
  rw [hfp]
  exact q6
theorem CoordAt.drew {w : World} {b : Nat} {c : CSt} (h : CoordAt w b c) : CoordAt w.drew b c := h
theorem CoordAt.drewN {w : World} {b : Nat} {c : CSt} (h : CoordAt w b c) (n : Nat) : CoordAt (w.drewN n) b c := h
theorem CoordAt.alloc {w : World} {b : Nat} {c : CSt} (h : CoordAt w b c) (o : Obj) : CoordAt (w.alloc o) b c := ⟨h.1.alloc o, h.2⟩
theorem touchOne_set {a w : World} {b o : Nat} (h : Touch (fun k => k = b) a w) (v : Value) : Touch (fun k => k = b) a (w.setCell ⟨b, o, none⟩ v) := h.set (p := ⟨b, o, none⟩) (Or.inl rfl) v
set_option maxRecDepth 100000 in
set_option maxHeartbeats 4000000 in
theorem far_any (b : Nat) (c : CSt) (ps : List Peer) (v : Nat) (kind to' bal gen basis fl tp rd pa po : Int) (mk pt : ByteArray) (ls : Value) (w : World) (h : CoordAt w b c) (hp : c.peers = peersVals ps) (hps : ps.length = 9) (hv : v < 9) :
    Calls Tryz.prog 81 #[.pointer (some ⟨b, 0, none⟩), .agg #[.int .i64 kind, .int .i64 (v : Int), .int .i64 to', .int .i64 bal, .int .i64 gen, .int .i64 basis, .int .i64 fl, .int .i64 tp, .int .i64 rd, .string mk, .int .i64 pa, .int .i64 po, .string pt, ls]] w fun e w' =>
      e = .returned (.tuple #[]) ∧ CoordAt w' b { c with peers := peersVals (ps.set v (farPeer (ps[v]'(by omega)) fl tp)) } ∧ Touch (fun k => k = b) w w' := by
  have hbl := h.1.lt
  obtain ⟨p, hpv⟩ : ∃ p, p = ps[v]'(by omega) := ⟨_, rfl⟩
  rw [← hpv]
  have c0 : w.cell? ⟨b, 12 + v * 8, none⟩ = some (.bool p.told) := by rw [hpv]; exact h.peer hp v (by omega) 0 (by omega)
  have c1 : w.cell? ⟨b, 12 + v * 8 + 1, none⟩ = some (.int .i64 p.floor) := by rw [hpv]; exact h.peer hp v (by omega) 1 (by omega)
  have c2 : w.cell? ⟨b, 12 + v * 8 + 2, none⟩ = some (.int .i64 p.top) := by rw [hpv]; exact h.peer hp v (by omega) 2 (by omega)
  have c5 : w.cell? ⟨b, 12 + v * 8 + 5, none⟩ = some (.bool p.whole) := by rw [hpv]; exact h.peer hp v (by omega) 5 (by omega)
  have c7 : w.cell? ⟨b, 12 + v * 8 + 7, none⟩ = some p.pack := by rw [hpv]; exact h.peer hp v (by omega) 7 (by omega)
  have f0 := h.1.free (12 + v * 8)
  have f1 := h.1.free (12 + v * 8 + 1)
  have f2 := h.1.free (12 + v * 8 + 2)
  have f5 := h.1.free (12 + v * 8 + 5)
  have f7 := h.1.free (12 + v * 8 + 7)
  have hv1 : (0 : Int) ≤ (v : Int) := by omega
  have hv2 : (v : Int) < 9 := by omega
  have H := Lib.hid h
  have Hp := Lib.hid hp
  have Hpv := Lib.hid hpv
  clear h hp hpv
  cases ht : p.told with
  | false =>
    rw [ht] at c0
    go_enter Tryz.func81, Tryz.ntmps81
    go_wp2
    go_quiet (fail)
    go_wp2
    go_quiet (fail)
    go_wp2
    go_region
    all_goals go_wp2
    all_goals go_end0
    all_goals
      refine ⟨rfl, ?_, ?_⟩
      · refine CoordAt.drew ?_
        refine far_sets5 fl tp ?_ Hp.out (by omega) Hpv.out (Or.inl ht)
        exact (H.out.alloc _).drewN _
      · refine Touch.drew ?_
        refine touchOne_set ?_ _
        refine touchOne_set ?_ _
        refine touchOne_set ?_ _
        refine touchOne_set ?_ _
        refine touchOne_set ?_ _
        exact ((Touch.refl _ _).alloc _).drewN _
  | true =>
    rw [ht] at c0
    by_cases htp : p.top < tp
    · go_enter Tryz.func81, Tryz.ntmps81
      go_wp2
      go_quiet (fail)
      go_wp2
      go_quiet (fail)
      go_wp2
      go_region
      all_goals go_wp2
      all_goals go_end0
      all_goals
        refine ⟨rfl, ?_, ?_⟩
        · refine CoordAt.drew ?_
          refine far_sets5 fl tp ?_ Hp.out (by omega) Hpv.out (Or.inr htp)
          exact (H.out.alloc _).drewN _
        · refine Touch.drew ?_
          refine touchOne_set ?_ _
          refine touchOne_set ?_ _
          refine touchOne_set ?_ _
          refine touchOne_set ?_ _
          refine touchOne_set ?_ _
          exact ((Touch.refl _ _).alloc _).drewN _
    · go_enter Tryz.func81, Tryz.ntmps81
      go_wp2
      go_quiet (fail)
      go_wp2
      go_quiet (fail)
      go_wp2
      go_region
      all_goals go_wp2
      all_goals go_end0
      all_goals
        refine ⟨rfl, ?_, ?_⟩
        · refine CoordAt.drew ?_
          refine far_sets2 fl tp ?_ Hp.out (by omega) Hpv.out (by rw [ht]; simp; omega)
          exact (H.out.alloc _).drewN _
        · refine Touch.drew ?_
          refine touchOne_set ?_ _
          refine touchOne_set ?_ _
          exact ((Touch.refl _ _).alloc _).drewN _
end Go.Proofs.YtaemlplcjjbamaaGreatDoor
namespace Go.Proofs.YtaemlplcjjbamaaGreatDoor
open Go Go.RowKit
set_option linter.unusedVariables false
/-- a number's bytes: seven bits each, the lowest first -/
def cnL (n : Nat) : List UInt8 := if n < 128 then [UInt8.ofNat n] else UInt8.ofNat (n % 128 + 128) :: cnL (n / 128)
termination_by n
decreasing_by omega
theorem cnL_small {n : Nat} (h : n < 128) : cnL n = [UInt8.ofNat n] := by rw [cnL, if_pos h]
theorem cnL_big {n : Nat} (h : ¬ n < 128) : cnL n = UInt8.ofNat (n % 128 + 128) :: cnL (n / 128) := by rw [cnL, if_neg h]
theorem cnL_len : ∀ (k n : Nat), n < 128 ^ (k + 1) → (cnL n).length ≤ k + 1
  | 0, n, h => by rw [cnL_small (by omega)]; simp
  | k + 1, n, h => by
    by_cases h1 : n < 128
    · rw [cnL_small h1]; simp
    · rw [cnL_big h1, List.length_cons]
      have := cnL_len k (n / 128) (by
        rw [Nat.pow_succ] at h
        omega)
      omega
theorem cnL_le {n : Nat} (h : n ≤ 4611686018427387903) : (cnL n).length ≤ 9 := cnL_len 8 n (by omega)
def cnT (n : Nat) : ByteArray := ⟨(cnL n).toArray⟩
theorem cnT_size {n : Nat} (h : n ≤ 4611686018427387903) : (cnT n).size ≤ 9 := by
  have := cnL_le h
  show (cnL n).toArray.size ≤ 9
  simpa using this
theorem low_and (n : Nat) (h : n ≤ 4611686018427387903) : bits .and .i64 (n : Int) 127 = ((n % 128 : Nat) : Int) := by
  have := i64_and_nat n 127 (by omega) (by omega)
  rw [show n &&& 127 = n % 128 from Nat.and_two_pow_sub_one_eq_mod n 7] at this
  exact this
theorem low_bits (n : Nat) : bits .or .i64 ((n % 128 : Nat) : Int) 128 = ((n % 128 + 128 : Nat) : Int) := by
  have := i64_join 7 (n % 128) 1 (by omega) (by omega) (by omega)
  exact this
theorem info_u8 : (Tryz.prog.info? 5).map (fun i => (i.zero, i.size, i.bytes)) = some (some (.int .u8 0), 1, 1) := by kernel_rfl
def u8s (l : List UInt8) : List Value := l.map fun b => Value.int .u8 (b.toNat : Int)
theorem u8s_snoc (l : List UInt8) (b : UInt8) : u8s (l ++ [b]) = u8s l ++ [.int .u8 (b.toNat : Int)] := by simp [u8s]
theorem u8s_length (l : List UInt8) : (u8s l).length = l.length := by simp [u8s]
theorem conv_u8s {w : World} {base : Nat} {v : Value} {l : List UInt8} (h : w.ownsRow base 5 1 v l.length (u8s l)) (h0 : 0 < l.length) :
    (convert 108 9 v).run Tryz.prog w = .ok (.string ⟨l.toArray⟩) w := by
  obtain ⟨g, cap, rfl, _, _, _, _, hc⟩ := row_some h h0
  refine run_convert_bytes_back w 108 9 5 ⟨g, 0, none⟩ cap l Tryz.underlying108 Tryz.underlying5 Tryz.underlying9 ?_
  intro j hj
  rw [addr_add, hc j (by omega)]
  simp [u8s, hj]
theorem u8_of (n : Nat) (h : n < 256) : ((UInt8.ofNat n).toNat : Int) = (n : Int) := by
  rw [UInt8.toNat_ofNat', Nat.mod_eq_of_lt h]
set_option maxRecDepth 100000 in
set_option maxHeartbeats 2000000 in
theorem codeNum_any (n : Nat) (w : World) (hn : n ≤ 4611686018427387903) :
    Calls Tryz.prog 67 #[.int .i64 (n : Int)] w fun e w' => e = .returned (.tuple #[.string (cnT n), .int .i64 0]) ∧ Below w.heap.size w w' := by
  have hl9 := cnL_le hn
  go_enter Tryz.func67, Tryz.ntmps67
  go_wp2
  go_loopw [0, 4] (fun nv bv wr => ∃ (r : Nat) (D : List UInt8), nv = .int .i64 (r : Int) ∧ r ≤ n ∧ D.length ≤ 9 ∧ Hid (D ++ cnL r = cnL n) ∧ Hid (wr.ownsRow w.heap.size 5 1 bv D.length (u8s D)) ∧ Below w.heap.size w wr) (fun nv _ _ => (intOf nv).toNat)
  case atStart => exact ⟨n, [], rfl, Nat.le_refl _, by simp, Lib.hid rfl, Lib.hid (World.ownsRow_nil _ _ _ _), Below.refl _ _⟩
  case round =>
    obtain ⟨r, D, rfl, hr, hD, Hd, Hown, hbr⟩ := hrel
    have hown := Hown.out
    have hsz := hbr.size
    by_cases h1 : r < 128
    · have hd := Lib.hid (show D ++ [UInt8.ofNat r] = cnL n by rw [← Hd.out, cnL_small h1])
      have hw := u8_of r (by omega)
      have hcv := fun (w3 : World) (v : Value) (h : w3.ownsRow w.heap.size 5 1 v (D.length + 1) (u8s D ++ [.int .u8 (r : Int)])) => conv_u8s (w := w3) (base := w.heap.size) (v := v) (l := D ++ [UInt8.ofNat r]) (by rw [u8s_snoc, hw, List.length_append]; exact h) (by simp)
      have Hcv := Lib.hid hcv
      clear hcv hw
      go_wp2_with (at_builtin; refine append_at rfl _ _ 108 rfl w.heap.size 5 1 1 Tryz.underlying108 _ info_u8 rfl (by decide) _ _ _ rfl hown _ rfl [.int .u8 (r : Int)] rfl rfl (by simp [Value.oneCell']) ?c1 ?c2 ?c3 ?_)
      case c1 => unfold maxLen; omega
      case c2 => omega
      case c3 => exact hsz
      intro v' w3 hown3 hb3
      have hcv := Hcv.out w3 v' hown3
      clear Hcv
      rw [hd.out] at hcv
      go_wp2
      go_ret2
      exact ⟨rfl, hbr.trans hb3⟩
    · have hbyte := Lib.hid (show bits .or .i64 (bits .and .i64 (r : Int) 127) 128 % 256 = ((UInt8.ofNat (r % 128 + 128)).toNat : Int) by
        rw [low_and r (by omega), low_bits, u8_of _ (by omega)]; omega)
      have hd := Lib.hid (show (D ++ [UInt8.ofNat (r % 128 + 128)]) ++ cnL (r / 128) = cnL n by rw [← Hd.out, cnL_big h1, List.append_assoc]; rfl)
      have hl := Lib.hid (show D.length + 1 ≤ 9 by
        have := congrArg List.length hd.out
        rw [List.length_append, List.length_append] at this
        simp at this
        omega)
      go_wp2_with (at_builtin; rw [hbyte.out]; refine append_at rfl _ _ 108 rfl w.heap.size 5 1 1 Tryz.underlying108 _ info_u8 rfl (by decide) _ _ _ rfl hown _ rfl [.int .u8 ((UInt8.ofNat (r % 128 + 128)).toNat : Int)] rfl rfl (by simp [Value.oneCell']) ?c1 ?c2 ?c3 ?_)
      case c1 => unfold maxLen; omega
      case c2 => omega
      case c3 => exact hsz
      intro v' w3 hown3 hb3
      have Hown3 := Lib.hid (show w3.ownsRow w.heap.size 5 1 v' (D ++ [UInt8.ofNat (r % 128 + 128)]).length (u8s (D ++ [UInt8.ofNat (r % 128 + 128)])) by rw [u8s_snoc, List.length_append]; exact hown3)
      clear hown3
      go_wp2
      go_roundw
      case rel => exact ⟨r / 128, _, by go_num, by omega, by rw [List.length_append]; exact hl.out, hd, Hown3, hbr.trans hb3⟩
      case measure => simp [intOf]; omega
set_option maxRecDepth 100000 in
set_option maxHeartbeats 2000000 in
theorem refNum_any (n : Nat) (w : World) (hn : n ≤ 4611686018427387903) :
    Calls Tryz.prog 43 #[.int .i64 (n : Int)] w fun e w' => e = .returned (.tuple #[.string (cnT n), .int .i64 0]) ∧ Below w.heap.size w w' := by
  have hl9 := cnL_le hn
  go_enter Tryz.func43, Tryz.ntmps43
  go_wp2
  go_loopw [0, 4] (fun nv bv wr => ∃ (r : Nat) (D : List UInt8), nv = .int .i64 (r : Int) ∧ r ≤ n ∧ D.length ≤ 9 ∧ Hid (D ++ cnL r = cnL n) ∧ Hid (wr.ownsRow w.heap.size 5 1 bv D.length (u8s D)) ∧ Below w.heap.size w wr) (fun nv _ _ => (intOf nv).toNat)
  case atStart => exact ⟨n, [], rfl, Nat.le_refl _, by simp, Lib.hid rfl, Lib.hid (World.ownsRow_nil _ _ _ _), Below.refl _ _⟩
  case round =>
    obtain ⟨r, D, rfl, hr, hD, Hd, Hown, hbr⟩ := hrel
    have hown := Hown.out
    have hsz := hbr.size
    by_cases h1 : r < 128
    · have hd := Lib.hid (show D ++ [UInt8.ofNat r] = cnL n by rw [← Hd.out, cnL_small h1])
      have hw := u8_of r (by omega)
      have hcv := fun (w3 : World) (v : Value) (h : w3.ownsRow w.heap.size 5 1 v (D.length + 1) (u8s D ++ [.int .u8 (r : Int)])) => conv_u8s (w := w3) (base := w.heap.size) (v := v) (l := D ++ [UInt8.ofNat r]) (by rw [u8s_snoc, hw, List.length_append]; exact h) (by simp)
      have Hcv := Lib.hid hcv
      clear hcv hw
      go_wp2_with (at_builtin; refine append_at rfl _ _ 108 rfl w.heap.size 5 1 1 Tryz.underlying108 _ info_u8 rfl (by decide) _ _ _ rfl hown _ rfl [.int .u8 (r : Int)] rfl rfl (by simp [Value.oneCell']) ?c1 ?c2 ?c3 ?_)
      case c1 => unfold maxLen; omega
      case c2 => omega
      case c3 => exact hsz
      intro v' w3 hown3 hb3
      have hcv := Hcv.out w3 v' hown3
      clear Hcv
      rw [hd.out] at hcv
      go_wp2
      go_ret2
      exact ⟨rfl, hbr.trans hb3⟩
    · have hbyte := Lib.hid (show (r : Int) % 128 + 128 = ((UInt8.ofNat (r % 128 + 128)).toNat : Int) by
        rw [u8_of _ (by omega)]; omega)
      have hd := Lib.hid (show (D ++ [UInt8.ofNat (r % 128 + 128)]) ++ cnL (r / 128) = cnL n by rw [← Hd.out, cnL_big h1, List.append_assoc]; rfl)
      have hl := Lib.hid (show D.length + 1 ≤ 9 by
        have := congrArg List.length hd.out
        rw [List.length_append, List.length_append] at this
        simp at this
        omega)
      go_wp2_with (at_builtin; rw [hbyte.out]; refine append_at rfl _ _ 108 rfl w.heap.size 5 1 1 Tryz.underlying108 _ info_u8 rfl (by decide) _ _ _ rfl hown _ rfl [.int .u8 ((UInt8.ofNat (r % 128 + 128)).toNat : Int)] rfl rfl (by simp [Value.oneCell']) ?c1 ?c2 ?c3 ?_)
      case c1 => unfold maxLen; omega
      case c2 => omega
      case c3 => exact hsz
      intro v' w3 hown3 hb3
      have Hown3 := Lib.hid (show w3.ownsRow w.heap.size 5 1 v' (D ++ [UInt8.ofNat (r % 128 + 128)]).length (u8s (D ++ [UInt8.ofNat (r % 128 + 128)])) by rw [u8s_snoc, List.length_append]; exact hown3)
      clear hown3
      go_wp2
      go_roundw
      case rel => exact ⟨r / 128, _, by go_num, by omega, by rw [List.length_append]; exact hl.out, hd, Hown3, hbr.trans hb3⟩
      case measure => simp [intOf]; omega
set_option maxRecDepth 100000 in
theorem refBytes_any (n : Nat) (w : World) (hn : n ≤ 4611686018427387903) :
    Calls Tryz.prog 23 #[.int .i64 (n : Int)] w fun e w' => e = .returned (.string (cnT n)) ∧ Below w.heap.size w w' := by
  have H := Lib.hid (refNum_any n w hn)
  go_enter Tryz.func23, Tryz.ntmps23
  go_wp2_with fail
  refine H.out.mono ?_
  rintro e w1 ⟨rfl, hb⟩
  go_wp2_with fail
  go_ret
  exact ⟨rfl, hb⟩
set_option maxRecDepth 100000 in
theorem refText_any (s : ByteArray) (w : World) (hs : s.size ≤ 1048576) :
    Calls Tryz.prog 24 #[.string s] w fun e w' => e = .returned (.tuple #[.string (cnT s.size ++ s), .int .i64 0]) ∧ Below w.heap.size w w' := by
  have H := Lib.hid (refBytes_any s.size w (by omega))
  have hz := cnT_size (n := s.size) (by omega)
  go_enter Tryz.func24, Tryz.ntmps24
  go_wp2_with fail
  refine H.out.mono ?_
  rintro e w1 ⟨rfl, hb⟩
  go_wp2_with fail
  go_ret2
  exact ⟨rfl, hb⟩
end Go.Proofs.YtaemlplcjjbamaaGreatDoor
namespace Go.Proofs.YtaemlplcjjbamaaGreatDoor
set_option linter.unusedVariables false
/-- a reader: what is left, and its first error -/
structure Rr where
  l : List UInt8
  e : Int
def rnum : List UInt8 → Nat → Nat → Nat × Rr
  | [], _, _ => (0, ⟨[], 3⟩)
  | c :: r, i, acc =>
    if (i = 8 ∧ 63 < c.toNat) ∨ (0 < i ∧ c.toNat = 0) then (0, ⟨r, 5⟩)
    else if c.toNat < 128 then (acc + c.toNat % 128 * 128 ^ i, ⟨r, 0⟩)
    else rnum r (i + 1) (acc + c.toNat % 128 * 128 ^ i)
def Rr.num (R : Rr) : Nat × Rr := if R.e = 0 then rnum R.l 0 0 else (0, R)
def Rr.count (R : Rr) (most : Nat) : Nat × Rr := if R.num.2.e = 0 ∧ most < R.num.1 then (0, ⟨R.num.2.l, 4⟩) else R.num
def Rr.fin (R : Rr) : Rr := if R.e = 0 ∧ R.l ≠ [] then ⟨R.l, 4⟩ else R
end Go.Proofs.YtaemlplcjjbamaaGreatDoor
namespace Go.Proofs.YtaemlplcjjbamaaGreatDoor
open Go Go.RowKit
set_option linter.unusedVariables false
def ba (l : List UInt8) : ByteArray := ⟨l.toArray⟩
theorem ba_size (l : List UInt8) : (ba l).size = l.length := by show l.toArray.size = _; simp
theorem ba_get {S r : List UInt8} {a : Nat} {c : UInt8} (h : S.drop a = c :: r) (ha : a < (ba S).size) : (ba S)[a]'ha = c := by
  have ha' : a < S.length := by rw [ba_size] at ha; exact ha
  have h1 : S[a]? = some c := by
    have := congrArg (fun l => l[0]?) h
    simpa [List.getElem?_drop] using this
  have h2 : (ba S)[a]'ha = S[a]'ha' := rfl
  rw [h2]
  rw [List.getElem?_eq_getElem ha'] at h1
  exact Option.some.inj h1
theorem wrap64_u8 (c : UInt8) : RowKit.wrap64 ((c.toNat : Nat) : Int) = ((c.toNat : Nat) : Int) := by
  have := c.toNat_lt
  unfold RowKit.wrap64
  omega
/-- a reader of S in block b: R is what is left -/
structure RdAt (w : World) (b : Nat) (S : List UInt8) (R : Rr) : Prop where
  blk : Blk w b [.string (ba S), .int .i64 ((S.length - R.l.length : Nat) : Int), .int .i64 R.e] 229
  le : R.l.length ≤ S.length
  rest : S.drop (S.length - R.l.length) = R.l
theorem RdAt.below {w w' : World} {b : Nat} {S : List UInt8} {R : Rr} (h : RdAt w b S R) (hb : Below w.heap.size w w') : RdAt w' b S R := ⟨h.blk.below hb, h.le, h.rest⟩
theorem RdAt.touch {w w' : World} {b : Nat} {S : List UInt8} {R : Rr} {T : Nat → Prop} (h : RdAt w b S R) (ht : Touch T w w') (hT : ¬ T b) : RdAt w' b S R := ⟨h.blk.touch ht hT, h.le, h.rest⟩
theorem RdAt.cells {w : World} {b : Nat} {S : List UInt8} {R : Rr} (h : RdAt w b S R) : w.cell? ⟨b, 0, none⟩ = some (.string (ba S)) ∧ w.cell? ⟨b, 1, none⟩ = some (.int .i64 ((S.length - R.l.length : Nat) : Int)) ∧ w.cell? ⟨b, 2, none⟩ = some (.int .i64 R.e) := ⟨h.blk.cell 0, h.blk.cell 1, h.blk.cell 2⟩
theorem touchB {a w : World} {b o : Nat} (h : Touch (fun k => k = b) a w) (v : Value) : Touch (fun k => k = b) a (w.setCell ⟨b, o, none⟩ v) := h.set (p := ⟨b, o, none⟩) (Or.inl rfl) v
/-- the next byte -/
def Rr.byte (R : Rr) : Nat × Rr := if R.e = 0 then (match R.l with | [] => (0, ⟨[], 3⟩) | c :: r => (c.toNat, ⟨r, 0⟩)) else (0, R)
/-- where a reader stands -/
theorem RdAt.at {w : World} {b : Nat} {S : List UInt8} {R : Rr} (h : RdAt w b S R) : ∃ a : Nat, a + R.l.length = S.length ∧ S.drop a = R.l ∧ w.cell? ⟨b, 0, none⟩ = some (.string (ba S)) ∧ w.cell? ⟨b, 1, none⟩ = some (.int .i64 (a : Int)) ∧ w.cell? ⟨b, 2, none⟩ = some (.int .i64 R.e) ∧
    (∀ (w' : World) (l : List UInt8) (a' : Nat), Blk w' b [.string (ba S), .int .i64 (a' : Int), .int .i64 R.e] 229 → a' + l.length = S.length → S.drop a' = l → RdAt w' b S ⟨l, R.e⟩) ∧ Blk w b [.string (ba S), .int .i64 (a : Int), .int .i64 R.e] 229 := by
  have hle := h.le
  refine ⟨S.length - R.l.length, by omega, h.rest, h.cells.1, h.cells.2.1, h.cells.2.2, fun w' l a' hB hl hd => ⟨?_, by show l.length ≤ S.length; omega, ?_⟩, h.blk⟩
  · show Blk w' b [.string (ba S), .int .i64 ((S.length - l.length : Nat) : Int), .int .i64 R.e] _
    rw [show S.length - l.length = a' by omega]; exact hB
  · show S.drop (S.length - l.length) = l
    rw [show S.length - l.length = a' by omega]; exact hd
end Go.Proofs.YtaemlplcjjbamaaGreatDoor
namespace Go.Proofs.YtaemlplcjjbamaaGreatDoor
open Go Go.RowKit
set_option linter.unusedVariables false
def knV (l : List (Int × List UInt8)) : List Value := l.flatMap fun x => [.int .i64 x.1, .string (ba x.2)]
theorem knV_snoc (l : List (Int × List UInt8)) (x : Int × List UInt8) : knV (l ++ [x]) = knV l ++ [.int .i64 x.1, .string (ba x.2)] := by unfold knV; rw [List.flatMap_append]; simp
theorem knV_at {l : List (Int × List UInt8)} {j : Nat} {x : Int × List UInt8} (h : l[j]? = some x) : (knV l)[j * 2]? = some (.int .i64 x.1) ∧ (knV l)[j * 2 + 1]? = some (.string (ba x.2)) := by
  induction l generalizing j with
  | nil => simp at h
  | cons y l ih =>
    have e : knV (y :: l) = [.int .i64 y.1, .string (ba y.2)] ++ knV l := rfl
    cases j with
    | zero =>
      simp at h
      subst h
      rw [e]
      exact ⟨rfl, rfl⟩
    | succ j =>
      have h' : l[j]? = some x := by simpa using h
      rw [e, List.getElem?_append_right (by simp; omega), List.getElem?_append_right (by simp; omega)]
      simp only [List.length_cons, List.length_nil]
      rw [show (j + 1) * 2 - (0 + 1 + 1) = j * 2 by omega, show (j + 1) * 2 + 1 - (0 + 1 + 1) = j * 2 + 1 by omega]
      exact ih h'
end Go.Proofs.YtaemlplcjjbamaaGreatDoor
