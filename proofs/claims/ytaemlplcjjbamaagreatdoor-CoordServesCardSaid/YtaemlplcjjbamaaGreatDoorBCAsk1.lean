/- The statement's handle at an answer to a leading coordinator: what it leaves (printed by wip/mkclaw.py). Condition: the message is from a peer. The walk of a coordinator's serve: the parts of what is being proposed. Condition: nothing is sent to the vault yet; it has not got it. The walk of a coordinator's asks at a list's call that nobody was asked about yet. Condition: all vaults have told how far they are; nothing is proposed. -/
import Derived.Test.YtaemlplcjjbamaaGreatDoorBCHandle3
import Derived.Test.YtaemlplcjjbamaaGreatDoorBCParts
import Derived.Test.YtaemlplcjjbamaaGreatDoorBPRow
namespace Go.Proofs.YtaemlplcjjbamaaGreatDoor
open Go Go.RowKit
set_option linter.unusedVariables false
/-- only what is above the start may have turned -/
def Abv (w0 w w' : World) : Prop := Touch (fun k => w0.heap.size ≤ k) w w'
theorem Abv.trans {w0 a b c : World} (h : Abv w0 a b) (k : Abv w0 b c) : Abv w0 a c := Touch.trans h k
theorem Abv.of_below {w0 w w' : World} (h : Below w.heap.size w w') : Abv w0 w w' := Touch.of_below h
theorem Abv.of_touch {w0 w w' : World} {S : Nat → Prop} (h : Touch S w w') (hS : ∀ q, q < w.heap.size → S q → w0.heap.size ≤ q) : Abv w0 w w' := h.mono hS
theorem Abv.below {w0 w w' : World} (h : Below w0.heap.size w0 w) (a : Abv w0 w w') : Below w0.heap.size w0 w' := h.trans (Touch.below a h.size (fun k hk hs => by omega))
theorem Wst.step {Ts : List TypeId} {w0 : World} {c wb kb n K : Nat} {sv : Value} {w w' : World} (h : Wst w0 c wb kb n K sv w) (k : KeepT Ts w w') (a : Abv w0 w w') (h1 : ¬ 43 ∈ Ts) (h2 : ¬ 57 ∈ Ts) : Wst w0 c wb kb n K sv w' := h.keep k (a.below h.below) h1 h2
theorem calls_arg {f : Nat} {R : Ending → World → Prop} {w : World} (g : Int → Int → Array Value) {a b a' b' : Int} (ha : a = a') (hb : b = b') (h : Calls Tryz.prog f (g a b) w R) : Calls Tryz.prog f (g a' b') w R := by subst ha hb; exact h
set_option maxHeartbeats 2000000 in
/-- a message of the coordinator's own ballot is kept as told -/
theorem told_own {R : World → Prop} (w0 : World) (c wb kb n K v : Nat) (sv : Value) (S : CSt) (kd bl gen basis fl tp rd pa po : Int) (mk pt : ByteArray) (la : Option Addr) (ll lc : Nat) (w : World) (h : Wst w0 c wb kb n K sv w) (hC : CoordAt w c S) (hn : 1 ≤ S.n) (hb : S.ballot = bl) (hK : K ≤ 900000) (hv : v < n) (hll : ll ≤ 64)
    (hH : ∀ w1, Wst w0 c wb kb n (K + 1) sv w1 → Keep [43, 57] w w1 → Calls Tryz.prog 47 #[.pointer (some ⟨c, 0, none⟩), .agg #[.int .i64 kd, .int .i64 (v : Int), .int .i64 1, .int .i64 bl, .int .i64 gen, .int .i64 basis, .int .i64 fl, .int .i64 tp, .int .i64 rd, .string mk, .int .i64 pa, .int .i64 po, .string pt, .slice la ll lc]] w1 fun e w' => e = .returned (.tuple #[]) ∧ R w') :
    Calls Tryz.prog 29 #[.pointer (some ⟨wb, 0, none⟩), .agg #[.int .i64 kd, .int .i64 (v : Int), .int .i64 1, .int .i64 bl, .int .i64 gen, .int .i64 basis, .int .i64 fl, .int .i64 tp, .int .i64 rd, .string mk, .int .i64 pa, .int .i64 po, .string pt, .slice la ll lc]] w fun e w' => e = .returned (.tuple #[]) ∧ R w' := by
  obtain ⟨av, k, xs, hW, hA, hk⟩ := h.world
  have hsz := h.below.size
  have hwb0 := h.wb0
  refine wHandle_any wb c kb v k w0.heap.size n 1 bl kd gen basis fl tp rd pa po mk pt la ll lc sv av xs S w hW hC hn hb hA hsz (by omega) hv hll (fun w1 av' hT hW1 hA1 hav => ?_)
  have hty : ∀ q, q < w.heap.size → InToldC wb av q → Tyd [43, 57] w q := fun q _ hq => by
    rcases hq with e | e
    · subst e; exact Tyd.blk hW (by simp)
    · exact Tyd.row hA (by simp) e
  have hab : Abv w0 w w1 := Abv.of_touch hT (fun q _ hq => by
    rcases hq with e | e
    · omega
    · exact (row_lt hA e).1)
  exact hH w1 ⟨⟨av', k + 1, _, hW1, hA1, by omega⟩, hab.below h.below, h.wb0, h.c0⟩ (Keep.of_touch hT hty (by decide))
set_option maxRecDepth 100000 in
set_option maxHeartbeats 4000000 in
/-- a message of another ballot is not -/
theorem told_other {R : World → Prop} (w0 : World) (c wb kb n K v : Nat) (sv : Value) (S : CSt) (kd bl gen basis fl tp rd pa po : Int) (mk pt : ByteArray) (la : Option Addr) (ll lc : Nat) (w : World) (h : Wst w0 c wb kb n K sv w) (hC : CoordAt w c S) (hn : 1 ≤ S.n) (hb : (bl == S.ballot) = false) (hv : v < n) (hll : ll ≤ 64)
    (hH : ∀ w1, Wst w0 c wb kb n (K + 1) sv w1 → Keep [43, 57] w w1 → Calls Tryz.prog 47 #[.pointer (some ⟨c, 0, none⟩), .agg #[.int .i64 kd, .int .i64 (v : Int), .int .i64 1, .int .i64 bl, .int .i64 gen, .int .i64 basis, .int .i64 fl, .int .i64 tp, .int .i64 rd, .string mk, .int .i64 pa, .int .i64 po, .string pt, .slice la ll lc]] w1 fun e w' => e = .returned (.tuple #[]) ∧ R w') :
    Calls Tryz.prog 29 #[.pointer (some ⟨wb, 0, none⟩), .agg #[.int .i64 kd, .int .i64 (v : Int), .int .i64 1, .int .i64 bl, .int .i64 gen, .int .i64 basis, .int .i64 fl, .int .i64 tp, .int .i64 rd, .string mk, .int .i64 pa, .int .i64 po, .string pt, .slice la ll lc]] w fun e w' => e = .returned (.tuple #[]) ∧ R w' := by
  obtain ⟨av, k, xs, hW, hA, hk⟩ := h.world
  have hwl := hW.lt
  have c0 : w.cell? ⟨wb, 0, none⟩ = some (.pointer (some ⟨c, 0, none⟩)) := hW.cell 0
  have c2 : w.cell? ⟨wb, 2, none⟩ = some (.int .i64 1) := hW.cell 2
  have c3 : w.cell? ⟨wb, 3, none⟩ = some (.int .i64 (n : Int)) := hW.cell 3
  have Hb0 := Lib.hid (fun n => ballotOf_any c S ((w.alloc (.cells #[.int .i64 kd, .int .i64 (v : Int), .int .i64 1, .int .i64 bl, .int .i64 gen, .int .i64 basis, .int .i64 fl, .int .i64 tp, .int .i64 rd, .string mk, .int .i64 pa, .int .i64 po, .string pt, .slice la ll lc] 30)).drewN n) ((hC.alloc _).drewN n) hn)
  have hv0 : (0 : Int) ≤ (v : Int) := by omega
  have hv3 : (v : Int) < (n : Int) := by omega
  have hl64 : ¬ (64 : Int) < (ll : Int) := by omega
  have HH := Lib.hid hH
  have Hw := Lib.hid h
  have HB := Lib.hid ((Below.refl w.heap.size w).alloc (Nat.le_refl _) (.cells #[.int .i64 kd, .int .i64 (v : Int), .int .i64 1, .int .i64 bl, .int .i64 gen, .int .i64 basis, .int .i64 fl, .int .i64 tp, .int .i64 rd, .string mk, .int .i64 pa, .int .i64 po, .string pt, .slice la ll lc] 30))
  clear hW hC hA hH h hn
  go_enter Tryz.func29, Tryz.ntmps29
  go_wp2
  go_quiet ((go_at_call 30; first | exact quiet_left (Hb0.out _) | exact quiet_add_left (Hb0.out _)))
  go_upto_region 5 with fail
  have M3 := (Blk.new w [.int .i64 kd, .int .i64 (v : Int), .int .i64 1, .int .i64 bl, .int .i64 gen, .int .i64 basis, .int .i64 fl, .int .i64 tp, .int .i64 rd, .string mk, .int .i64 pa, .int .i64 po, .string pt, .slice la ll lc] 30).drewN nq
  have hbb := below_drewN HB.out nq
  have c05 : ((w.alloc (.cells #[.int .i64 kd, .int .i64 (v : Int), .int .i64 1, .int .i64 bl, .int .i64 gen, .int .i64 basis, .int .i64 fl, .int .i64 tp, .int .i64 rd, .string mk, .int .i64 pa, .int .i64 po, .string pt, .slice la ll lc] 30)).drewN nq).cell? ⟨wb, 0, none⟩ = some (.pointer (some ⟨c, 0, none⟩)) := (HB.out.cell (p := ⟨wb, 0, none⟩) hwl).trans c0
  have HH5 := Lib.hid (HH.out _ ((Hw.out.mono (Nat.le_succ K)).step (Ts := []) (KeepT.of_below hbb.drew) (Abv.of_below hbb.drew) (by simp) (by simp)) (Keep.of_below hbb.drew))
  clear c0 c2 c3 Hb0
  generalize (w.alloc (.cells #[.int .i64 kd, .int .i64 (v : Int), .int .i64 1, .int .i64 bl, .int .i64 gen, .int .i64 basis, .int .i64 fl, .int .i64 tp, .int .i64 rd, .string mk, .int .i64 pa, .int .i64 po, .string pt, .slice la ll lc] 30)).drewN nq = w3 at M3 HH5 c05 ⊢
  generalize w.heap.size = q at M3 ⊢
  have n0 : w3.cell? ⟨q, 0, none⟩ = some (.int .i64 kd) := M3.cell 0
  have n1 : w3.cell? ⟨q, 1, none⟩ = some (.int .i64 (v : Int)) := M3.cell 1
  have n2 : w3.cell? ⟨q, 2, none⟩ = some (.int .i64 1) := M3.cell 2
  have n3 : w3.cell? ⟨q, 3, none⟩ = some (.int .i64 bl) := M3.cell 3
  have n4 : w3.cell? ⟨q, 4, none⟩ = some (.int .i64 gen) := M3.cell 4
  have n5 : w3.cell? ⟨q, 5, none⟩ = some (.int .i64 basis) := M3.cell 5
  have n6 : w3.cell? ⟨q, 6, none⟩ = some (.int .i64 fl) := M3.cell 6
  have n7 : w3.cell? ⟨q, 7, none⟩ = some (.int .i64 tp) := M3.cell 7
  have n8 : w3.cell? ⟨q, 8, none⟩ = some (.int .i64 rd) := M3.cell 8
  have n9 : w3.cell? ⟨q, 9, none⟩ = some (.string mk) := M3.cell 9
  have n10 : w3.cell? ⟨q, 10, none⟩ = some (.int .i64 pa) := M3.cell 10
  have n11 : w3.cell? ⟨q, 11, none⟩ = some (.int .i64 po) := M3.cell 11
  have n12 : w3.cell? ⟨q, 12, none⟩ = some (.string pt) := M3.cell 12
  have n13 : w3.cell? ⟨q, 13, none⟩ = some (.slice la ll lc) := M3.cell 13
  clear HB hbb HH
  go_still_tail 5, (by kernel_rfl)
  change wpList _ _ _ _ _ w3.drew
  generalize w3.drew = w6 at HH5 ⊢
  clear n0 n1 n2 n3 n4 n5 n6 n7 n8 n9 n10 n11 n12 n13 c05 M3
  go_wp2_with fail
  refine HH5.out.mono ?_
  rintro e w7 ⟨rfl, hR⟩
  have HR7 := Lib.hid hR
  clear hR
  go_wp2_with fail
  go_end0
  exact ⟨rfl, HR7.out⟩
/-- the statement's struct, its coordinator that leads, and what was sent last -/
structure StL (w0 : World) (c wb kb mb n K : Nat) (sv : Value) (L : List MG) (l : List Ent) (I : List (Int × List UInt8)) (ps : List Peer) (S : CSt) (Bk : List ByteArray) (w : World) : Prop where
  ws : Wst w0 c wb kb n K sv w
  ld : Ld w0 c kb mb n l I ps S Bk w
  sn : w.ownsRow w0.heap.size 30 14 sv L.length (msgsV L)
theorem StL.below {w0 : World} {c wb kb mb n K : Nat} {sv : Value} {L : List MG} {l : List Ent} {I : List (Int × List UInt8)} {ps : List Peer} {S : CSt} {Bk : List ByteArray} {w w' : World} (h : StL w0 c wb kb mb n K sv L l I ps S Bk w) (hb : Below w.heap.size w w') : StL w0 c wb kb mb n K sv L l I ps S Bk w' :=
  ⟨h.ws.step (Ts := []) (KeepT.of_below hb) (Abv.of_below hb) (by simp) (by simp), h.ld.below hb, ownsRow_below h.sn hb⟩
theorem StL.mono {w0 : World} {c wb kb mb n K K' : Nat} {sv : Value} {L : List MG} {l : List Ent} {I : List (Int × List UInt8)} {ps : List Peer} {S : CSt} {Bk : List ByteArray} {w : World} (h : StL w0 c wb kb mb n K sv L l I ps S Bk w) (hK : K ≤ K') : StL w0 c wb kb mb n K' sv L l I ps S Bk w := ⟨h.ws.mono hK, h.ld, h.sn⟩
/-- the types that an answer turns, other than tallies and entries -/
def tyH : List TypeId := [43, 57, 78]
set_option maxHeartbeats 2000000 in
theorem law_far (w0 : World) (c wb kb mb n K v : Nat) (sv : Value) (L : List MG) (l : List Ent) (I : List (Int × List UInt8)) (ps : List Peer) (S : CSt) (Bk : List ByteArray) (bl gen basis fl tp rd pa po : Int) (mk pt : ByteArray) (la : Option Addr) (ll lc : Nat) (w : World) (h : StL w0 c wb kb mb n K sv L l I ps S Bk w) (hv : v < n) (hn9 : n ≤ 9) (hbl : (bl == 17) = false) (hll : ll ≤ 64) (hvp : v < ps.length) :
    Calls Tryz.prog 29 #[.pointer (some ⟨wb, 0, none⟩), .agg #[.int .i64 10, .int .i64 (v : Int), .int .i64 1, .int .i64 bl, .int .i64 gen, .int .i64 basis, .int .i64 fl, .int .i64 tp, .int .i64 rd, .string mk, .int .i64 pa, .int .i64 po, .string pt, .slice la ll lc]] w fun e w' => e = .returned (.tuple #[]) ∧ (StL w0 c wb kb mb n (K + 1) sv L l I (ps.set v (farPeer ps[v] fl tp)) { S with peers := peersVals (ps.set v (farPeer ps[v] fl tp)) } Bk w' ∧ Keep tyH w w') := by
  have hln := h.ld.len
  refine told_other w0 c wb kb n K v sv S 10 bl gen basis fl tp rd pa po mk pt la ll lc w h.ws h.ld.at_ (by rw [h.ld.n_]; omega) (by rw [h.ld.bal]; exact hbl) hv hll (fun w1 hW1 hk1 => ?_)
  have hL1 := h.ld.keep hk1 (by decide) (by decide) (by decide)
  have hs1 := hk1.1.2 _ _ _ _ _ _ (by decide) h.sn
  have hH := handle_far c v n S gen basis bl fl tp rd pa po mk pt la ll lc w1 (fun w' => StL w0 c wb kb mb n (K + 1) sv L l I (ps.set v (farPeer ps[v] fl tp)) { S with peers := peersVals (ps.set v (farPeer ps[v] fl tp)) } Bk w' ∧ Keep tyH w w') hL1.at_ hL1.n_ hL1.ph hv hn9 (fun w2 hC2 hb2 => ?_)
  · exact calls_arg (fun i b => #[.pointer (some ⟨c, 0, none⟩), .agg #[.int .i64 10, .int .i64 (v : Int), .int .i64 i, .int .i64 b, .int .i64 gen, .int .i64 basis, .int .i64 fl, .int .i64 tp, .int .i64 rd, .string mk, .int .i64 pa, .int .i64 po, .string pt, .slice la ll lc]]) h.ld.id_ rfl hH
  · have hL2 := hL1.below hb2
    refine (far_any c S ps v 10 S.id bl gen basis fl tp rd pa po mk pt (.slice la ll lc) w2 hC2 hL2.prs hL2.len (by omega)).mono ?_
    rintro e w3 ⟨rfl, hC3, hT3⟩
    have hk3 := keep_coord hC2 hT3
    have hc0 := h.ws.c0
    have hab3 : Abv w0 w2 w3 := Abv.of_touch hT3 (fun q _ e => by omega)
    have hW2 := hW1.step (Ts := []) (KeepT.of_below hb2) (Abv.of_below hb2) (by simp) (by simp)
    exact ⟨rfl, ⟨hW2.step hk3.1 hab3 (by decide) (by decide), hL2.setPeers hC3 (by rw [List.length_set]; exact hln) hk3, hk3.1.2 _ _ _ _ _ _ (by decide) (ownsRow_below hs1 hb2)⟩, (hk1.mono (by decide)).trans ((Keep.of_below hb2).trans (hk3.mono (by decide)))⟩
set_option maxHeartbeats 2000000 in
theorem law_got (w0 : World) (c wb kb mb n K v : Nat) (sv : Value) (L : List MG) (l : List Ent) (I : List (Int × List UInt8)) (ps : List Peer) (S : CSt) (Bk : List ByteArray) (gen basis fl tp rd pa po : Int) (mk pt : ByteArray) (la : Option Addr) (ll lc : Nat) (w : World) (h : StL w0 c wb kb mb n K sv L l I ps S Bk w) (hv : v < n) (hn9 : n ≤ 9) (hK : K ≤ 900000) (hll : ll ≤ 64) (hvp : v < ps.length) (ht : ps[v].told = true) (htp : tp ≤ ps[v].top) :
    Calls Tryz.prog 29 #[.pointer (some ⟨wb, 0, none⟩), .agg #[.int .i64 5, .int .i64 (v : Int), .int .i64 1, .int .i64 17, .int .i64 gen, .int .i64 basis, .int .i64 fl, .int .i64 tp, .int .i64 rd, .string mk, .int .i64 pa, .int .i64 po, .string pt, .slice la ll lc]] w fun e w' => e = .returned (.tuple #[]) ∧ (StL w0 c wb kb mb n (K + 1) sv L l I (ps.set v (gotPeer ps[v] gen rd mk)) { S with peers := peersVals (ps.set v (gotPeer ps[v] gen rd mk)) } Bk w' ∧ Keep tyH w w') := by
  have hln := h.ld.len
  refine told_own w0 c wb kb n K v sv S 5 17 gen basis fl tp rd pa po mk pt la ll lc w h.ws h.ld.at_ (by rw [h.ld.n_]; omega) h.ld.bal hK hv hll (fun w1 hW1 hk1 => ?_)
  have hL1 := h.ld.keep hk1 (by decide) (by decide) (by decide)
  have hs1 := hk1.1.2 _ _ _ _ _ _ (by decide) h.sn
  have hH := handle_got c v n S gen basis fl tp rd pa po mk pt la ll lc w1 (fun w' => StL w0 c wb kb mb n (K + 1) sv L l I (ps.set v (gotPeer ps[v] gen rd mk)) { S with peers := peersVals (ps.set v (gotPeer ps[v] gen rd mk)) } Bk w' ∧ Keep tyH w w') hL1.at_ hL1.n_ hL1.ph hv hn9 (fun w2 hC2 hb2 => ?_)
  · exact calls_arg (fun i b => #[.pointer (some ⟨c, 0, none⟩), .agg #[.int .i64 5, .int .i64 (v : Int), .int .i64 i, .int .i64 b, .int .i64 gen, .int .i64 basis, .int .i64 fl, .int .i64 tp, .int .i64 rd, .string mk, .int .i64 pa, .int .i64 po, .string pt, .slice la ll lc]]) h.ld.id_ h.ld.bal hH
  · have hL2 := hL1.below hb2
    refine (got_any c S ps v 5 S.id S.ballot gen basis fl tp rd pa po mk pt (.slice la ll lc) w2 hC2 hL2.prs hL2.len (by omega) ht htp).mono ?_
    rintro e w3 ⟨rfl, hC3, hT3⟩
    have hk3 := keep_coord hC2 hT3
    have hc0 := h.ws.c0
    have hab3 : Abv w0 w2 w3 := Abv.of_touch hT3 (fun q _ e => by omega)
    have hW2 := hW1.step (Ts := []) (KeepT.of_below hb2) (Abv.of_below hb2) (by simp) (by simp)
    exact ⟨rfl, ⟨hW2.step hk3.1 hab3 (by decide) (by decide), hL2.setPeers hC3 (by rw [List.length_set]; exact hln) hk3, hk3.1.2 _ _ _ _ _ _ (by decide) (ownsRow_below hs1 hb2)⟩, (hk1.mono (by decide)).trans ((Keep.of_below hb2).trans (hk3.mono (by decide)))⟩
set_option maxHeartbeats 2000000 in
/-- a promise that comes late -/
theorem law_two (w0 : World) (c wb kb mb n K v : Nat) (sv : Value) (L : List MG) (l : List Ent) (I : List (Int × List UInt8)) (ps : List Peer) (S : CSt) (Bk : List ByteArray) (gen basis fl tp rd pa po : Int) (mk pt : ByteArray) (la : Option Addr) (ll lc : Nat) (w : World) (h : StL w0 c wb kb mb n K sv L l I ps S Bk w) (hv : v < n) (hn9 : n ≤ 9) (hK : K ≤ 900000) (hll : ll ≤ 64) (hvp : v < ps.length) :
    Calls Tryz.prog 29 #[.pointer (some ⟨wb, 0, none⟩), .agg #[.int .i64 2, .int .i64 (v : Int), .int .i64 1, .int .i64 17, .int .i64 gen, .int .i64 basis, .int .i64 fl, .int .i64 tp, .int .i64 rd, .string mk, .int .i64 pa, .int .i64 po, .string pt, .slice la ll lc]] w fun e w' => e = .returned (.tuple #[]) ∧ (StL w0 c wb kb mb n (K + 1) sv L l I (ps.set v (farPeer ps[v] fl tp)) { S with peers := peersVals (ps.set v (farPeer ps[v] fl tp)) } Bk w' ∧ Keep tyH w w') := by
  have hln := h.ld.len
  have hc0 := h.ws.c0
  refine told_own w0 c wb kb n K v sv S 2 17 gen basis fl tp rd pa po mk pt la ll lc w h.ws h.ld.at_ (by rw [h.ld.n_]; omega) h.ld.bal hK hv hll (fun w1 hW1 hk1 => ?_)
  have hL1 := h.ld.keep hk1 (by decide) (by decide) (by decide)
  have hs1 := hk1.1.2 _ _ _ _ _ _ (by decide) h.sn
  have hH := handle_two c v n S gen basis fl tp rd pa po mk pt la ll lc w1 (fun w' => StL w0 c wb kb mb n (K + 1) sv L l I (ps.set v (farPeer ps[v] fl tp)) { S with peers := peersVals (ps.set v (farPeer ps[v] fl tp)) } Bk w' ∧ Keep tyH w w') hL1.at_ hL1.n_ hL1.ph hv hn9 (fun w2 hC2 hb2 => ?_) (fun w2 w3 hQ hb => ⟨hQ.1.below hb, hQ.2.trans (Keep.of_below hb)⟩)
  · exact calls_arg (fun i b => #[.pointer (some ⟨c, 0, none⟩), .agg #[.int .i64 2, .int .i64 (v : Int), .int .i64 i, .int .i64 b, .int .i64 gen, .int .i64 basis, .int .i64 fl, .int .i64 tp, .int .i64 rd, .string mk, .int .i64 pa, .int .i64 po, .string pt, .slice la ll lc]]) h.ld.id_ h.ld.bal hH
  · have hL2 := hL1.below hb2
    refine (far_any c S ps v 2 S.id S.ballot gen basis fl tp rd pa po mk pt (.slice la ll lc) w2 hC2 hL2.prs hL2.len (by omega)).mono ?_
    rintro e w3 ⟨rfl, hC3, hT3⟩
    have hk3 := keep_coord hC2 hT3
    have hab3 : Abv w0 w2 w3 := Abv.of_touch hT3 (fun q _ e => by omega)
    have hW2 := hW1.step (Ts := []) (KeepT.of_below hb2) (Abv.of_below hb2) (by simp) (by simp)
    exact ⟨rfl, ⟨⟨hW2.step hk3.1 hab3 (by decide) (by decide), hL2.setPeers hC3 (by rw [List.length_set]; exact hln) hk3, hk3.1.2 _ _ _ _ _ _ (by decide) (ownsRow_below hs1 hb2)⟩, (hk1.mono (by decide)).trans ((Keep.of_below hb2).trans (hk3.mono (by decide)))⟩, hT3⟩
set_option maxHeartbeats 2000000 in
theorem law_yes (w0 : World) (c wb kb mb n K v t : Nat) (sv : Value) (L : List MG) (l : List Ent) (I : List (Int × List UInt8)) (ps : List Peer) (S : CSt) (Bk : List ByteArray) (M : List Bool) (gen basis fl tp rd pa po : Int) (mk pt : ByteArray) (la : Option Addr) (ll lc : Nat) (w : World) (h : StL w0 c wb kb mb n K sv L l I ps S Bk w) (hv : v < n) (hn9 : n ≤ 9) (hK : K ≤ 900000) (hll : ll ≤ 64) (hvp : v < ps.length) (hrd : S.read = rd) (hy : S.yes = .pointer (some ⟨t, 0, none⟩)) (hta : TallyAt w t n M) (ht0 : w0.heap.size ≤ t) :
    Calls Tryz.prog 29 #[.pointer (some ⟨wb, 0, none⟩), .agg #[.int .i64 12, .int .i64 (v : Int), .int .i64 1, .int .i64 17, .int .i64 gen, .int .i64 basis, .int .i64 fl, .int .i64 tp, .int .i64 rd, .string mk, .int .i64 pa, .int .i64 po, .string pt, .slice la ll lc]] w fun e w' => e = .returned (.tuple #[]) ∧ (StL w0 c wb kb mb n (K + 1) sv L l I (ps.set v (farPeer ps[v] fl tp)) { S with peers := peersVals (ps.set v (farPeer ps[v] fl tp)) } Bk w' ∧ TallyAt w' t n (addTo M (v : Int) n) ∧ Keep (115 :: tyH) w w') := by
  have hln := h.ld.len
  have hc0 := h.ws.c0
  subst hrd
  refine told_own w0 c wb kb n K v sv S 12 17 gen basis fl tp S.read pa po mk pt la ll lc w h.ws h.ld.at_ (by rw [h.ld.n_]; omega) h.ld.bal hK hv hll (fun w1 hW1 hk1 => ?_)
  have hL1 := h.ld.keep hk1 (by decide) (by decide) (by decide)
  have hs1 := hk1.1.2 _ _ _ _ _ _ (by decide) h.sn
  have ht1 : TallyAt w1 t n M := hta.keep hk1.1 (by decide)
  have hH := handle_yes c v n t S ps M gen basis fl tp pa po mk pt la ll lc w1 hL1.at_ hL1.prs hL1.len hL1.n_ hL1.ph hv hn9 hy ht1
  refine (calls_arg (fun i b => #[.pointer (some ⟨c, 0, none⟩), .agg #[.int .i64 12, .int .i64 (v : Int), .int .i64 i, .int .i64 b, .int .i64 gen, .int .i64 basis, .int .i64 fl, .int .i64 tp, .int .i64 S.read, .string mk, .int .i64 pa, .int .i64 po, .string pt, .slice la ll lc]]) h.ld.id_ h.ld.bal hH).mono ?_
  rintro e w3 ⟨rfl, hC3, hta3, hT3⟩
  have hk3 : Keep [115, 78] w1 w3 := Keep.of_touch hT3 (fun q _ hq => by
    rcases hq with e | e
    · subst e; exact Tyd.blk hL1.at_.1 (by simp)
    · subst e; exact Tyd.blk ht1.1 (by simp)) (by decide)
  have hab3 : Abv w0 w1 w3 := Abv.of_touch hT3 (fun q _ e => by rcases e with e | e <;> omega)
  exact ⟨rfl, ⟨hW1.step hk3.1 hab3 (by decide) (by decide), ⟨hC3, hL1.id_, hL1.n_, hL1.bk_, hL1.bal, hL1.ph, hL1.fl, hL1.top, hL1.again, hL1.fetch, rfl, by rw [List.length_set]; exact hln, hk3.1.2 _ _ _ _ _ _ (by decide) hL1.cho, hk3.1.2 _ _ _ _ _ _ (by decide) hL1.img, hk3.2 _ _ _ hL1.bok⟩, hk3.1.2 _ _ _ _ _ _ (by decide) hs1⟩, hta3, (hk1.mono (by decide)).trans (hk3.mono (by decide))⟩
end Go.Proofs.YtaemlplcjjbamaaGreatDoor
namespace Go.Proofs.YtaemlplcjjbamaaGreatDoor
open Go Go.RowKit
set_option linter.unusedVariables false
set_option maxRecDepth 100000 in
set_option maxHeartbeats 4000000 in
theorem serve_parts (b B kb mb j n v : Nat) (c : CSt) (ps : List Peer) (I : List (Int × List UInt8)) (Bk : List ByteArray) (gen bal : Int) (mk img : ByteArray) (T : List UInt8) (ta tf : Nat) (cl old : Bool) (m : List Bool) (w : World) (h : CoordAt w b c) (hp : c.peers = peersVals ps) (hps : ps.length = 9) (hvn : v < n) (hn9 : n ≤ 9) (hbk : c.book = .pointer (some ⟨kb, 0, none⟩))
    (ht : (ps[v]'(by omega)).told = true) (hwh : (ps[v]'(by omega)).whole = false) (hpk : (ps[v]'(by omega)).pack = .pointer none) (hfl : c.floor ≤ (ps[v]'(by omega)).floor) (htp : c.top ≤ (ps[v]'(by omega)).top) (hj : c.job = .pointer (some ⟨j, 0, none⟩))
    (hJ : Blk w j (jobVals gen bal mk img ta tf cl old) 104) (hT : TallyAt w ta n m) (hm : m.getD v false = false) (hno : (ps[v]'(by omega)).mark ≠ mk ∨ (ps[v]'(by omega)).has ≠ gen)
    (hr : w.ownsRow B 151 2 c.images I.length (knV I)) (hl : I.length ≤ 8) (hO : ∀ x ∈ I, x.2.length ≤ 30000) (hTl : T.length ≤ 30000) (hk : knF I gen = some T) (hK : BookIs w kb mb Bk) (hBl : Bk.length ≤ 600000000) :
    Calls Tryz.prog 38 #[.pointer (some ⟨b, 0, none⟩), .int .i64 (v : Int)] w (PartsSays b kb mb v c ps (ps[v]'(by omega)) Bk gen mk w) := by
  have HG := Lib.hid (fun k => goal_job b j c ps n v gen bal mk img ta tf cl old m (w.drewN k) (h.drewN k) hp hps hvn hn9 ht htp hj (hJ.drewN k) (hT.drewN k) hm)
  have HKn := Lib.hid (fun w' (hb : Below w.heap.size w w') => cknown_any b B c I gen w' (h.below hb) (ownsRow_below hr hb) (by omega))
  rw [hk] at HKn
  have HPa := Lib.hid (fun w' (hb : Below w.heap.size w w') => parts_any b B kb mb v c ps I Bk gen mk T w' (h.below hb) hp hps (by omega) hbk ht hwh hpk (ownsRow_below hr hb) hl hO hTl (hK.below hb) hBl)
  obtain ⟨p, hpv⟩ : ∃ p, p = ps[v]'(by omega) := ⟨_, rfl⟩
  rw [← hpv] at ht hfl hno HPa ⊢
  have c0 : w.cell? ⟨b, 12 + v * 8, none⟩ = some (.bool true) := by rw [← ht, hpv]; exact h.peer hp v (by omega) 0 (by omega)
  have c1 : w.cell? ⟨b, 12 + v * 8 + 1, none⟩ = some (.int .i64 p.floor) := by rw [hpv]; exact h.peer hp v (by omega) 1 (by omega)
  have HP3 := Lib.hid (fun w' (hb : Below w.heap.size w w') => (show w'.cell? ⟨b, 12 + v * 8 + 3, none⟩ = some (.int .i64 p.has) by rw [hpv]; exact (h.below hb).peer hp v (by omega) 3 (by omega)))
  have HP4 := Lib.hid (fun w' (hb : Below w.heap.size w w') => (show w'.cell? ⟨b, 12 + v * 8 + 4, none⟩ = some (.string p.mark) by rw [hpv]; exact (h.below hb).peer hp v (by omega) 4 (by omega)))
  have c5 : w.cell? ⟨b, 5, none⟩ = some (.int .i64 c.floor) := h.hd 5 (by omega)
  have hv1 : (0 : Int) ≤ (v : Int) := by omega
  have hv2 : (v : Int) < 9 := by omega
  have hnt : ¬ p.floor < c.floor := by omega
  generalize c.floor = cf at c5 hnt
  generalize p.floor = pf at c1 hnt
  generalize p.has = ph at HP3 hno
  generalize p.mark = pm at HP4 hno
  have Hno := Lib.hid hno
  clear h hp hpv ht htp hfl hJ hT hm hj hbk hwh hpk hr hO hk hK hno
  go_enter Tryz.func38, Tryz.ntmps38
  go_wp2
  go_quiet (fail)
  go_wp2_with fail
  refine (HG.out _).mono ?_
  rintro e w1 ⟨rfl, hb1⟩
  have hB1 := below_step (below_drewN (Below.refl w.heap.size w) _) hb1
  have HB1 := Lib.hid hB1
  have p3 := HP3.out w1 hB1
  have p4 := HP4.out w1 hB1
  have HKn1 := Lib.hid (HKn.out w1 hB1)
  clear hb1 hB1 HP3 HP4 HG HKn c0 c1 c5
  by_cases hm1 : pm = mk
  · have hmb : (pm.toList == mk.toList) = true := by rw [hm1]; simp
    have hhb : (ph == gen) = false := by rw [beq_eq_false_iff_ne]; exact Hno.out.resolve_left (fun x => x hm1)
    clear hm1
    go_wp2_with fail
    refine HKn1.out.mono ?_
    rintro e w2 ⟨rfl, hb2⟩
    have HB2 := Lib.hid (below_step HB1.out hb2)
    have HPa2 := Lib.hid (HPa.out w2 HB2.out)
    clear hb2 HB1 HKn1 p3 p4 HPa hmb hhb
    go_wp2_with fail
    refine HPa2.out.mono ?_
    rintro e w3 ⟨x, bas, s, pk, Bk', rfl, h1, h2, h3, h4, h5, h6⟩
    have HF := Lib.hid (And.intro h1 (And.intro h2 (And.intro h3 (And.intro h4 (And.intro h5 h6)))))
    clear h1 h2 h3 h4 h5 h6 HPa2
    obtain ⟨xa, xc, rfl⟩ := row_shape HF.out.2.1
    go_wp2_with fail
    go_ret
    exact ⟨_, bas, s, pk, Bk', rfl, HF.out.1, row_base HF.out.2.1 HB2.out.size, HF.out.2.2.1, HF.out.2.2.2.1, HF.out.2.2.2.2.1, (Touch.of_below HB2.out).trans HF.out.2.2.2.2.2⟩
  · have hmb : (pm.toList == mk.toList) = false := by rw [strEq_any]; exact decide_eq_false hm1
    clear hm1
    go_wp2_with fail
    refine HKn1.out.mono ?_
    rintro e w2 ⟨rfl, hb2⟩
    have HB2 := Lib.hid (below_step HB1.out hb2)
    have HPa2 := Lib.hid (HPa.out w2 HB2.out)
    clear hb2 HB1 HKn1 p3 p4 HPa hmb
    go_wp2_with fail
    refine HPa2.out.mono ?_
    rintro e w3 ⟨x, bas, s, pk, Bk', rfl, h1, h2, h3, h4, h5, h6⟩
    have HF := Lib.hid (And.intro h1 (And.intro h2 (And.intro h3 (And.intro h4 (And.intro h5 h6)))))
    clear h1 h2 h3 h4 h5 h6 HPa2
    obtain ⟨xa, xc, rfl⟩ := row_shape HF.out.2.1
    go_wp2_with fail
    go_ret
    exact ⟨_, bas, s, pk, Bk', rfl, HF.out.1, row_base HF.out.2.1 HB2.out.size, HF.out.2.2.1, HF.out.2.2.2.1, HF.out.2.2.2.2.1, (Touch.of_below HB2.out).trans HF.out.2.2.2.2.2⟩
end Go.Proofs.YtaemlplcjjbamaaGreatDoor
namespace Go.Proofs.YtaemlplcjjbamaaGreatDoor
open Go Go.RowKit
set_option linter.unusedVariables false
def askM (id v bal rd : Int) : MG := { MG.zero with k := 11, fr := id, to_ := v, bal := bal, rd := rd }
def asksL (id bal rd : Int) (n : Nat) : List MG := (List.range n).map fun (i : Nat) => askM id (i : Int) bal rd
theorem asksL_succ (id bal rd : Int) (k : Nat) : asksL id bal rd (k + 1) = asksL id bal rd k ++ [askM id (k : Int) bal rd] := by
  unfold asksL
  rw [List.range_succ, List.map_append]
  rfl
theorem asksL_length (id bal rd : Int) (k : Nat) : (asksL id bal rd k).length = k := by simp [asksL]
def Ask1Says (b n : Nat) (c : CSt) (w : World) (e : Ending) (w' : World) : Prop :=
  ∃ x t, e = .returned x ∧ w'.ownsRow w.heap.size 30 14 x n (msgsV (asksL c.id c.ballot (c.read + 1) n)) ∧ CoordAt w' b { c with read := c.read + 1, yes := .pointer (some ⟨t, 0, none⟩) } ∧ TallyAt w' t n (List.replicate 9 false) ∧ w.heap.size ≤ t ∧ Touch (fun k => k = b) w w'
set_option maxRecDepth 100000 in
set_option maxHeartbeats 8000000 in
theorem asks_first (b kc n cc : Nat) (aa : Option Addr) (c : CSt) (ps : List Peer) (cs : List Value) (w : World) (h : CoordAt w b c) (hp : c.peers = peersVals ps) (hps : ps.length = 9) (hcn : c.n = (n : Int)) (hn1 : 1 ≤ n) (hn9 : n ≤ 9) (hall : ∀ v, (hv : v < n) → (ps[v]'(by omega)).told = true ∧ c.floor ≤ (ps[v]'(by omega)).floor)
    (hcl : c.call = .pointer (some ⟨kc, 0, none⟩)) (hq : Blk w kc (.int .i64 4 :: cs) 33) (ha : c.again = .slice aa 0 cc) (hj : c.job = .pointer none) (hy : c.yes = .pointer none) (hrd : 0 ≤ c.read ∧ c.read ≤ 1000000) :
    Calls Tryz.prog 39 #[.pointer (some ⟨b, 0, none⟩)] w (Ask1Says b n c w) := by
  have hbl := h.1.lt
  have c86 : w.cell? ⟨b, 86, none⟩ = some (.pointer (some ⟨kc, 0, none⟩)) := by have := h.ft 2; rw [← hcl]; exact this
  have c11 : w.cell? ⟨b, 11, none⟩ = some (.slice aa 0 cc) := by rw [← ha]; exact h.hd 11 (by omega)
  have c84 : w.cell? ⟨b, 84, none⟩ = some (.pointer none) := by have := h.ft 0; rw [← hj]; exact this
  have k0 : w.cell? ⟨kc, 0, none⟩ = some (.int .i64 4) := hq.cell 0
  have HS := Lib.hid (settled_all b n c ps w h hp hps hcn hn1 hn9 hall)
  have H0 := Lib.hid h
  have Hcn := Lib.hid hcn
  have Hy := Lib.hid hy
  have hcl2 : clip (n : Int) = n := by unfold clip; rw [if_neg (by omega), if_neg (by omega)]; omega
  have Hcl := Lib.hid hcl2
  have hr1 := hrd.1
  have hr2 := hrd.2
  clear h hp hcn hall hcl hq ha hj hy hrd hcl2
  go_enter Tryz.func39, Tryz.ntmps39
  go_wp2_with fail
  refine HS.out.mono ?_
  rintro e w1 ⟨rfl, hb1⟩
  have C1 := H0.out.below hb1
  have d89 : w1.cell? ⟨b, 89, none⟩ = some (.pointer none) := by rw [← Hy.out]; exact C1.ft 5
  have d88 : w1.cell? ⟨b, 88, none⟩ = some (.int .i64 c.read) := C1.ft 4
  have d1 : w1.cell? ⟨b, 1, none⟩ = some (.int .i64 (n : Int)) := by rw [← Hcn.out]; exact C1.hd 1 (by omega)
  have f88 := C1.1.free 88
  have hl1 := C1.1.lt
  have C2 : CoordAt (w1.setCell ⟨b, 88, none⟩ (.int .i64 (c.read + 1))) b { c with read := c.read + 1 } := C1.setFt 4 _ _ rfl rfl rfl
  have T2 : Touch (fun k => k = b) w (w1.setCell ⟨b, 88, none⟩ (.int .i64 (c.read + 1))) := touchOne_set (Touch.of_below hb1) _
  have HC2 := Lib.hid C2
  have HT2 := Lib.hid T2
  clear C1 C2 T2 hb1 HS c86 c11 c84 k0
  go_wp2_with fail
  generalize w1.setCell ⟨b, 88, none⟩ (.int .i64 (c.read + 1)) = w2 at HC2 HT2 ⊢
  clear d89 d88 d1 f88 hl1
  refine (newTally_any (n : Int) w2).mono ?_
  rintro e w3 ⟨t, rfl, hts, hta, hb3⟩
  rw [Hcl.out] at hta
  have C3 := HC2.out.below hb3
  have d89 : w3.cell? ⟨b, 89, none⟩ = some (.pointer none) := by rw [← Hy.out]; exact C3.ft 5
  have f89 := C3.1.free 89
  have hl3 := C3.1.lt
  have htb : t ≠ b := hta.1.ne C3.1 (by decide)
  have C4 : CoordAt (w3.setCell ⟨b, 89, none⟩ (.pointer (some ⟨t, 0, none⟩))) b { c with read := c.read + 1, yes := .pointer (some ⟨t, 0, none⟩) } := C3.setFt 5 _ _ rfl rfl rfl
  have A4 : TallyAt (w3.setCell ⟨b, 89, none⟩ (.pointer (some ⟨t, 0, none⟩))) t n (List.replicate 9 false) := ⟨hta.1.set_other (a := ⟨b, 89, none⟩) htb _, hta.2⟩
  have T4 : Touch (fun k => k = b) w (w3.setCell ⟨b, 89, none⟩ (.pointer (some ⟨t, 0, none⟩))) := touchOne_set (HT2.out.trans (Touch.of_below hb3)) _
  have hts2 : w.heap.size ≤ t := Nat.le_trans HT2.out.size hts
  have HC4 := Lib.hid C4
  have HA4 := Lib.hid A4
  have HT4 := Lib.hid T4
  clear C3 hta hb3 C4 A4 T4 HC2 HT2
  go_wp2_with fail
  generalize w3.setCell ⟨b, 89, none⟩ (.pointer (some ⟨t, 0, none⟩)) = w4 at HC4 HA4 HT4 ⊢
  clear d89 f89 hl3 hts
  have e89 : w4.cell? ⟨b, 89, none⟩ = some (.pointer (some ⟨t, 0, none⟩)) := HC4.out.ft 5
  try (go_wp2_with fail)
  have HW := won_any t n (List.replicate 9 false) w4 HA4.out
  rw [zeroM_won n (by omega)] at HW
  have HWn := Lib.hid HW
  clear HW
  refine HWn.out.mono ?_
  rintro e w5 ⟨rfl, k, rfl⟩
  have HC5 := Lib.hid (HC4.out.drewN k)
  have HA5 := Lib.hid (HA4.out.drewN k)
  have HT5 := Lib.hid (HT4.out.drewN k)
  clear HC4 HA4 HT4 HWn e89
  generalize w4.drewN k = w5 at HC5 HA5 HT5 ⊢
  have e1 : w5.cell? ⟨b, 1, none⟩ = some (.int .i64 (n : Int)) := by rw [← Hcn.out]; exact HC5.out.hd 1 (by omega)
  go_wp2_with fail
  go_loopw [3, 91] (fun ov iv wr => ∃ v : Nat, iv = .int .i64 (v : Int) ∧ v ≤ n ∧ Hid (wr.ownsRow w.heap.size 30 14 ov v (msgsV (asksL c.id c.ballot (c.read + 1) v))) ∧ Hid (CoordAt wr b { c with read := c.read + 1, yes := .pointer (some ⟨t, 0, none⟩) }) ∧ Hid (TallyAt wr t n (List.replicate 9 false)) ∧ Hid (Touch (fun k => k = b) w wr)) (fun _ iv _ => n - (intOf iv).toNat)
  case atStart => exact ⟨0, rfl, Nat.zero_le _, Lib.hid (World.ownsRow_nil _ _ _ _), HC5, HA5, HT5⟩
  case round =>
    obtain ⟨v, rfl, hv, HV, HC, HA, HT⟩ := hrel
    clear HC5 HA5 HT5 e1
    by_cases hlt : v < n
    · have e89 : wr.cell? ⟨b, 89, none⟩ = some (.pointer (some ⟨t, 0, none⟩)) := HC.out.ft 5
      have HH := Lib.hid (show Calls Tryz.prog 51 #[.pointer (some ⟨t, 0, none⟩), .int .i64 (v : Int)] wr fun e w' => e = .returned (.bool false) ∧ wr = w' from (has_in t n (List.replicate 9 false) v wr HA.out hlt).mono (fun e w' hx => ⟨by rw [hx.1, zero_getD], hx.2⟩))
      have HTo := Lib.hid (to_any b _ (v : Int) 11 wr HC.out)
      have hszr := HT.out.size
      go_wp2_with fail
      refine HH.out.mono ?_
      rintro e wx ⟨rfl, rfl⟩
      go_wp2_with fail
      refine HTo.out.mono ?_
      rintro e w6 ⟨rfl, hb6⟩
      have C6 := HC.out.below hb6
      have x88 : w6.cell? ⟨b, 88, none⟩ = some (.int .i64 (c.read + 1)) := C6.ft 4
      have HC6 := Lib.hid C6
      have HV6 := Lib.hid (ownsRow_below HV.out hb6)
      have HA6 := Lib.hid (tallyAt_below HA.out hb6)
      have HT6 := Lib.hid (HT.out.trans (Touch.of_below hb6))
      have hl6 := C6.1.lt
      have hsz6 := HT6.out.size
      clear C6 hb6 HC HV HA HT HH HTo e89
      simp only [msgArr]
      obtain ⟨oa, oc, rfl⟩ := row_shape HV6.out
      have HVa := Lib.hid (HV6.out.alloc (.cells (askM c.id v c.ballot (c.read + 1)).vals.toArray 30))
      go_wp2_with (at_builtin; refine append_own1 rfl _ _ 40 rfl w.heap.size 30 14 144 Tryz.underlying40 _ info_msg rfl (by decide) _ _ _ rfl HVa.out (w6.heap.size + 1) (by simp) (askM c.id v c.ballot (c.read + 1)).vals rfl rfl (MG.vals_one _) ?c1 ?c2 ?c3 ?_)
      case c1 => unfold maxLen; omega
      case c2 => omega
      case c3 => first | omega | (simp; omega)
      intro v7 w7 hown hgr
      have hlt7 := fun g' (hg' : (Value.slice oa v oc).ownBlock = some g') => row_lt HV6.out hg'
      have V7 : w7.ownsRow w.heap.size 30 14 v7 (v + 1) (msgsV (asksL c.id c.ballot (c.read + 1) (v + 1))) := by
        rw [asksL_succ, msgsV_append]
        have e : msgsV [askM c.id (v : Int) c.ballot (c.read + 1)] = (askM c.id v c.ballot (c.read + 1)).vals := by unfold msgsV; simp
        rw [e]
        exact hown
      have o1 : Obj := .cells (askM c.id v c.ballot (c.read + 1)).vals.toArray 30
      have C7 : CoordAt w7 b _ := ⟨blk_grown ((HC6.out.1.alloc (.cells (askM c.id v c.ballot (c.read + 1)).vals.toArray 30)).alloc (.cells (askM c.id v c.ballot (c.read + 1)).vals.toArray 30)) hgr (row_ne HV6.out HC6.out.1 (by decide)), HC6.out.2⟩
      have A7 : TallyAt w7 t n (List.replicate 9 false) := ⟨blk_grown ((HA6.out.1.alloc (.cells (askM c.id v c.ballot (c.read + 1)).vals.toArray 30)).alloc (.cells (askM c.id v c.ballot (c.read + 1)).vals.toArray 30)) hgr (row_ne HV6.out HA6.out.1 (by decide)), HA6.out.2⟩
      have T7 : Touch (fun k => k = b) w w7 := touch_grown ((HT6.out.alloc (.cells (askM c.id v c.ballot (c.read + 1)).vals.toArray 30)).alloc (.cells (askM c.id v c.ballot (c.read + 1)).vals.toArray 30)) hgr (fun g' hg' => Or.inr (hlt7 g' hg').1)
      have HV7 := Lib.hid V7
      have HC7 := Lib.hid C7
      have HA7 := Lib.hid A7
      have HT7 := Lib.hid T7
      clear V7 C7 A7 T7 hown hgr hlt7 HV6 HVa HC6 HA6 HT6 x88 o1
      go_wp2_with fail
      go_roundw
      case rel => exact ⟨v + 1, by go_num, by omega, HV7, HC7, HA7, HT7⟩
      case measure => simp [intOf]; omega
    · obtain rfl : v = n := by omega
      go_wp2_with fail
      go_ret
      exact ⟨_, t, rfl, HV.out, HC.out, HA.out, hts2, HT.out⟩
end Go.Proofs.YtaemlplcjjbamaaGreatDoor
