/- The walk of a coordinator's Tick while it leads and a call waits, over what its parts do. Condition: the call does not fail yet. Plain laws of tallies: who has said it, and how many. No condition. The walks of a coordinator's fetches, settled and asks while all vaults are as far as it is. Condition: nothing is fetched; nothing is proposed when it asks. The walk of plan.Merge. Condition: the promises' tops are at most 2^61. The cells of a row of promises. No condition. -/
import Derived.Test.YtaemlplcjjbamaaGreatDoorBAsk
import Derived.Test.YtaemlplcjjbamaaGreatDoorBTick
import Derived.Test.YtaemlplcjjbamaaGreatDoorBCGot
import Derived.Test.YtaemlplcjjbamaaGreatDoorBHeld
import Derived.Lib.MinMax
namespace Go.Proofs.YtaemlplcjjbamaaGreatDoor
open Go Go.RowKit
set_option linter.unusedVariables false
/-- rows of messages stay -/
def KeepRows (w w' : World) : Prop := ∀ B ov k xs, w.ownsRow B 30 14 ov k xs → w'.ownsRow B 30 14 ov k xs
theorem KeepRows.of_below {w w' : World} (h : Below w.heap.size w w') : KeepRows w w' := fun B ov k xs hr => ownsRow_below hr h
structure TickParts (b n : Nat) (c : CSt) (w : World) (Inv : Nat → List MG → World → Prop) (Fin : List MG → World → Prop) : Prop where
  next : ∀ w1, CoordAt w1 b { c with left := c.left - 1 } → Touch (fun k => k = b) w w1 → Calls Tryz.prog 37 #[.pointer (some ⟨b, 0, none⟩)] w1 fun e w2 => e = .returned (.tuple #[]) ∧ Inv 0 [] w2
  serve : ∀ v L w1, v < n → Inv v L w1 → Calls Tryz.prog 38 #[.pointer (some ⟨b, 0, none⟩), .int .i64 (v : Int)] w1 fun e w2 => ∃ sv l, e = .returned sv ∧ w2.ownsRow w1.heap.size 30 14 sv l.length (msgsV l) ∧ Inv (v + 1) (L ++ l) w2 ∧ KeepRows w1 w2
  asks : ∀ L w1, Inv n L w1 → Calls Tryz.prog 39 #[.pointer (some ⟨b, 0, none⟩)] w1 fun e w2 => ∃ sv l, e = .returned sv ∧ w2.ownsRow w1.heap.size 30 14 sv l.length (msgsV l) ∧ Fin (L ++ l) w2 ∧ KeepRows w1 w2
  fetches : ∀ L w1, Fin L w1 → Calls Tryz.prog 40 #[.pointer (some ⟨b, 0, none⟩)] w1 fun e w2 => e = .returned (.slice none 0 0) ∧ w1 = w2
  grown : ∀ v L w1 w2 ov k xs, Inv v L w1 → w1.ownsRow w.heap.size 30 14 ov k xs → w1.grownBy w2 ov.ownBlock → Inv v L w2
  fin : ∀ L w1 w2 ov k xs, Fin L w1 → w1.ownsRow w.heap.size 30 14 ov k xs → w1.grownBy w2 ov.ownBlock → Fin L w2
  n_ : ∀ w1, Inv 0 [] w1 → w1.cell? ⟨b, 1, none⟩ = some (.int .i64 (n : Int))
  small : ∀ v L w1, Inv v L w1 → L.length ≤ 1000
  smallF : ∀ L w1, Fin L w1 → L.length ≤ 1000
  size : ∀ v L w1, Inv v L w1 → w.heap.size ≤ w1.heap.size
  sizeF : ∀ L w1, Fin L w1 → w.heap.size ≤ w1.heap.size
def TickSays (Fin : List MG → World → Prop) (w : World) (e : Ending) (w' : World) : Prop := ∃ v L, e = .returned v ∧ w'.ownsRow w.heap.size 30 14 v L.length (msgsV L) ∧ Fin L w'
set_option maxRecDepth 100000 in
set_option maxHeartbeats 8000000 in
theorem ctick_any (b n kc : Nat) (c : CSt) (w : World) (Inv : Nat → List MG → World → Prop) (Fin : List MG → World → Prop) (h : CoordAt w b c) (hcn : c.n = (n : Int)) (hn1 : 1 ≤ n) (hn9 : n ≤ 9) (hph : c.phase = 2) (hcl : c.call = .pointer (some ⟨kc, 0, none⟩)) (hlf : 2 ≤ c.left ∧ c.left ≤ 1000) (P : TickParts b n c w Inv Fin) :
    Calls Tryz.prog 17 #[.pointer (some ⟨b, 0, none⟩)] w (TickSays Fin w) := by
  have hbl := h.1.lt
  have c4 : w.cell? ⟨b, 4, none⟩ = some (.int .i64 2) := by rw [← hph]; exact h.hd 4 (by omega)
  have c86 : w.cell? ⟨b, 86, none⟩ = some (.pointer (some ⟨kc, 0, none⟩)) := by have := h.ft 2; rw [← hcl]; exact this
  have c87 : w.cell? ⟨b, 87, none⟩ = some (.int .i64 c.left) := h.ft 3
  have f87 := h.1.free 87
  have hl1 := hlf.1
  have hl2 := hlf.2
  have HN := Lib.hid (none_any b c w h (by omega))
  have C1 : CoordAt (w.setCell ⟨b, 87, none⟩ (.int .i64 (c.left - 1))) b { c with left := c.left - 1 } := h.setFt 3 _ _ rfl rfl rfl
  have T1 : Touch (fun k => k = b) w (w.setCell ⟨b, 87, none⟩ (.int .i64 (c.left - 1))) := touchOne_set (Touch.refl _ _) _
  have HC1 := Lib.hid C1
  have HT1 := Lib.hid T1
  have HP := Lib.hid P
  have hne : ¬ (c.left - 1 ≤ 0) := by omega
  clear h hcn hph hcl C1 T1 P hlf
  go_enter Tryz.func17, Tryz.ntmps17
  go_wp2_with fail
  refine HN.out.mono ?_
  rintro e wx ⟨rfl, rfl⟩
  go_wp2_with fail
  have HNx := Lib.hid (HP.out.next _ HC1.out HT1.out)
  generalize w.setCell ⟨b, 87, none⟩ (.int .i64 (c.left - 1)) = w1 at HNx ⊢
  refine HNx.out.mono ?_
  rintro e w2 ⟨rfl, hI⟩
  have HI := Lib.hid hI
  have d1 := HP.out.n_ w2 hI
  clear hI HNx HN HC1 HT1 c4 c86 c87 f87
  go_wp2_with fail
  go_loopw [3, 47] (fun ov iv wr => ∃ (v : Nat) (L : List MG), iv = .int .i64 (v : Int) ∧ v ≤ n ∧ Hid (wr.ownsRow w.heap.size 30 14 ov L.length (msgsV L)) ∧ Hid (Inv v L wr)) (fun _ iv _ => n - (intOf iv).toNat)
  case atStart => exact ⟨0, [], rfl, Nat.zero_le _, Lib.hid (World.ownsRow_nil _ _ _ _), HI⟩
  case round =>
    obtain ⟨v, L, rfl, hv, HV, HIv⟩ := hrel
    clear HI d1
    by_cases hlt : v < n
    · have HSv := Lib.hid (HP.out.serve v L wr hlt HIv.out)
      have hlL := HP.out.small _ _ _ HIv.out
      have hs0 := HP.out.size _ _ _ HIv.out
      go_wp2_with fail
      refine HSv.out.mono ?_
      rintro e w3 ⟨sv, l, rfl, hrow, hI3, hk3⟩
      have HI3 := Lib.hid hI3
      have HV3 := Lib.hid (hk3 _ _ _ _ HV.out)
      have HS3 := Lib.hid hrow
      have hl3 := HP.out.small _ _ _ hI3
      have hs3 := HP.out.size _ _ _ hI3
      rw [List.length_append] at hl3
      clear hI3 hk3 hrow HSv HV HIv
      obtain ⟨oa, oc, rfl⟩ := row_shape HV3.out
      obtain ⟨sa, sc, rfl⟩ := row_shape HS3.out
      go_wp2_with (at_builtin; refine wpList_append_rowsT rfl _ _ 40 rfl 30 _ 14 144 Tryz.underlying40 info_msg rfl (by decide) w.heap.size _ _ _ _ _ (L.length + l.length) _ _ rfl rfl HV3.out HS3.out (msgsV_one _) rfl ?c1 ?c2 ?c3 ?_)
      case c1 => unfold maxLen; omega
      case c2 => omega
      case c3 => omega
      intro va cap w4 hown hgr _ _
      have HI4 := Lib.hid (HP.out.grown _ _ _ _ _ _ _ HI3.out HV3.out hgr)
      have HV4 := Lib.hid (show w4.ownsRow w.heap.size 30 14 (.slice va (L.length + l.length) cap) (L ++ l).length (msgsV (L ++ l)) by rw [List.length_append, msgsV_append]; exact hown)
      clear hown hgr HI3 HV3 HS3
      go_wp2_with fail
      go_roundw
      case rel => exact ⟨v + 1, L ++ l, by go_num, by omega, HV4, HI4⟩
      case measure => simp [intOf]; omega
    · obtain rfl : v = n := by omega
      have HAs := Lib.hid (HP.out.asks L wr HIv.out)
      have hlL := HP.out.small _ _ _ HIv.out
      have hs0 := HP.out.size _ _ _ HIv.out
      go_wp2_with fail
      refine HAs.out.mono ?_
      rintro e w3 ⟨sv, l, rfl, hrow, hI3, hk3⟩
      have HI3 := Lib.hid hI3
      have HV3 := Lib.hid (hk3 _ _ _ _ HV.out)
      have HS3 := Lib.hid hrow
      have hl3 := HP.out.smallF _ _ hI3
      have hs3 := HP.out.sizeF _ _ hI3
      rw [List.length_append] at hl3
      clear hI3 hk3 hrow HAs HV HIv
      obtain ⟨oa, oc, rfl⟩ := row_shape HV3.out
      obtain ⟨sa, sc, rfl⟩ := row_shape HS3.out
      go_wp2_with (at_builtin; refine wpList_append_rowsT rfl _ _ 40 rfl 30 _ 14 144 Tryz.underlying40 info_msg rfl (by decide) w.heap.size _ _ _ _ _ (L.length + l.length) _ _ rfl rfl HV3.out HS3.out (msgsV_one _) rfl ?c1 ?c2 ?c3 ?_)
      case c1 => unfold maxLen; omega
      case c2 => omega
      case c3 => omega
      intro va cap w4 hown hgr _ _
      have HI4 := Lib.hid (HP.out.fin _ _ _ _ _ _ HI3.out HV3.out hgr)
      have HV4 := Lib.hid hown
      have HFt := Lib.hid (HP.out.fetches _ _ HI4.out)
      have hs4 := HP.out.sizeF _ _ HI4.out
      clear hown hgr HI3 HV3 HS3
      go_wp2_with fail
      refine HFt.out.mono ?_
      rintro e w5 ⟨rfl, rfl⟩
      go_wp2_with (at_builtin; refine wpList_append_rowsT rfl _ _ 40 rfl 30 _ 14 144 Tryz.underlying40 info_msg rfl (by decide) w.heap.size 0 _ _ _ 0 (L.length + l.length) _ [] rfl rfl HV4.out (World.ownsRow_nil _ _ _ _) (fun u hu => by cases hu) rfl ?c1 ?c2 ?c3 ?_)
      case c1 => unfold maxLen; omega
      case c2 => omega
      case c3 => omega
      intro vb cap2 w6 hown2 hgr2 _ _
      have HI6 := Lib.hid (HP.out.fin _ _ _ _ _ _ HI4.out HV4.out hgr2)
      have HV6 := Lib.hid (show w6.ownsRow w.heap.size 30 14 (.slice vb (L.length + l.length) cap2) (L ++ l).length (msgsV (L ++ l)) by rw [List.length_append, msgsV_append]; first | exact hown2 | (rw [List.append_nil] at hown2; exact hown2))
      clear hown2 hgr2 HI4 HV4 HFt
      go_wp2_with fail
      go_ret
      exact ⟨_, L ++ l, rfl, HV6.out, HI6.out⟩
end Go.Proofs.YtaemlplcjjbamaaGreatDoor
namespace Go.Proofs.YtaemlplcjjbamaaGreatDoor
open Go.RowKit
/-- nobody is in it whose place is not below the number -/
def Tidy (m : List Bool) (o : Nat) : Prop := ∀ i, m.getD i false = true → i < o
theorem zero_getD (i : Nat) : (List.replicate 9 false).getD i false = false := by
  rw [List.getD, List.getElem?_replicate]; split <;> rfl
end Go.Proofs.YtaemlplcjjbamaaGreatDoor
namespace Go.Proofs.YtaemlplcjjbamaaGreatDoor
open Go Go.RowKit
set_option linter.unusedVariables false
set_option maxRecDepth 100000 in
theorem fetches_none (b : Nat) (c : CSt) (w : World) (h : CoordAt w b c) (hf : c.fetch = .pointer none) :
    Calls Tryz.prog 40 #[.pointer (some ⟨b, 0, none⟩)] w fun e w' => e = .returned (.slice none 0 0) ∧ w = w' := by
  have c85 : w.cell? ⟨b, 85, none⟩ = some (.pointer none) := by have := h.ft 1; rw [← hf]; exact this
  clear h hf
  go_enter Tryz.func40, Tryz.ntmps40
  go_wp2
  go_ret
  exact ⟨rfl, rfl⟩
set_option maxRecDepth 100000 in
set_option maxHeartbeats 2000000 in
theorem asks_backup (b kc : Nat) (c : CSt) (cs : List Value) (w : World) (h : CoordAt w b c) (hcl : c.call = .pointer (some ⟨kc, 0, none⟩)) (hq : Blk w kc (.int .i64 1 :: cs) 33) :
    Calls Tryz.prog 39 #[.pointer (some ⟨b, 0, none⟩)] w fun e w' => e = .returned (.slice none 0 0) ∧ w = w' := by
  have c86 : w.cell? ⟨b, 86, none⟩ = some (.pointer (some ⟨kc, 0, none⟩)) := by have := h.ft 2; rw [← hcl]; exact this
  have k0 : w.cell? ⟨kc, 0, none⟩ = some (.int .i64 1) := hq.cell 0
  clear h hcl hq
  go_enter Tryz.func39, Tryz.ntmps39
  go_wp2
  go_ret
  exact ⟨rfl, rfl⟩
/-- the first so many of nine -/
def fullM (v : Nat) : List Bool := (List.range 9).map fun i => decide (i < v)
theorem fullM_zero : fullM 0 = List.replicate 9 false := by decide
theorem fullM_add : ∀ n, n < 10 → ∀ v, v < n → addTo (fullM v) (v : Int) n = fullM (v + 1) := by decide
theorem fullM_won : ∀ n, n < 10 → 1 ≤ n → wonT (fullM n) n = true := by decide
theorem zeroM_won : ∀ n, n < 10 → wonT (List.replicate 9 false) n = false := by decide
set_option maxRecDepth 100000 in
set_option maxHeartbeats 4000000 in
theorem settled_all (b n : Nat) (c : CSt) (ps : List Peer) (w : World) (h : CoordAt w b c) (hp : c.peers = peersVals ps) (hps : ps.length = 9) (hcn : c.n = (n : Int)) (hn1 : 1 ≤ n) (hn9 : n ≤ 9) (hall : ∀ v, (hv : v < n) → (ps[v]'(by omega)).told = true ∧ c.floor ≤ (ps[v]'(by omega)).floor) :
    Calls Tryz.prog 60 #[.pointer (some ⟨b, 0, none⟩)] w fun e w' => e = .returned (.bool true) ∧ Below w.heap.size w w' := by
  have HC := Lib.hid h
  have Hp := Lib.hid hp
  have Hall := Lib.hid hall
  have c1 : w.cell? ⟨b, 1, none⟩ = some (.int .i64 (n : Int)) := by rw [← hcn]; exact h.hd 1 (by omega)
  have hcl : clip (n : Int) = n := by unfold clip; rw [if_neg (by omega), if_neg (by omega)]; omega
  have Hcl := Lib.hid hcl
  have Hcn := Lib.hid hcn
  clear h hp hcn hall hcl
  go_enter Tryz.func60, Tryz.ntmps60
  go_wp2_with fail
  refine (newTally_any (n : Int) w).mono ?_
  rintro e w1 ⟨t, rfl, hts, hta, hb1⟩
  rw [Hcl.out, ← fullM_zero] at hta
  have HT1 := Lib.hid hta
  have HB1 := Lib.hid hb1
  have d1 : w1.cell? ⟨b, 1, none⟩ = some (.int .i64 (n : Int)) := by rw [← Hcn.out]; exact (HC.out.below hb1).hd 1 (by omega)
  clear hta hb1 c1
  go_wp2_with fail
  go_loopw [15] (fun iv wr => ∃ v : Nat, iv = .int .i64 (v : Int) ∧ v ≤ n ∧ Hid (TallyAt wr t n (fullM v)) ∧ Hid (Below w.heap.size w wr)) (fun iv _ => n - (intOf iv).toNat)
  case atStart => exact ⟨0, rfl, Nat.zero_le _, HT1, HB1⟩
  case round =>
    obtain ⟨v, rfl, hv, HT, HB⟩ := hrel
    clear HT1 HB1 d1
    by_cases hlt : v < n
    · have hCr := HC.out.below HB.out
      have hvv := Hall.out v hlt
      have p0 : wr.cell? ⟨b, 12 + v * 8, none⟩ = some (.bool true) := by rw [← hvv.1]; exact hCr.peer Hp.out v (by omega) 0 (by omega)
      have p1 : wr.cell? ⟨b, 12 + v * 8 + 1, none⟩ = some (.int .i64 (ps[v]'(by omega)).floor) := hCr.peer Hp.out v (by omega) 1 (by omega)
      have c5 : wr.cell? ⟨b, 5, none⟩ = some (.int .i64 c.floor) := hCr.hd 5 (by omega)
      have hge := hvv.2
      generalize (ps[v]'(by omega)).floor = pf at p1 hge
      generalize c.floor = cf at c5 hge
      have hv1 : (0 : Int) ≤ (v : Int) := by omega
      have hv2 : (v : Int) < 9 := by omega
      have HAd := Lib.hid (fun k => add_any t n (fullM v) (v : Int) (wr.drewN k) (HT.out.drewN k))
      rw [fullM_add n (by omega) v hlt] at HAd
      clear hCr hvv
      go_wp2
      go_quiet (fail)
      go_wp2_with fail
      refine (HAd.out _).mono ?_
      rintro e w3 ⟨rfl, hT3, ht3⟩
      have HT3 := Lib.hid hT3
      have HB3 := Lib.hid (show Below w.heap.size w w3 from (below_drewN HB.out _).trans (ht3.below (show w.heap.size ≤ (wr.drewN _).heap.size from HB.out.size) (fun j hj (e : j = t) => by omega)))
      clear hT3 ht3 HAd
      go_wp2_with fail
      go_roundw
      case rel => exact ⟨v + 1, by go_num, by omega, HT3, HB3⟩
      case measure => simp [intOf]; omega
    · obtain rfl : v = n := by omega
      have HW := won_any t v (fullM v) wr HT.out
      rw [fullM_won v (by omega) hn1] at HW
      have HWn := Lib.hid HW
      clear HW
      go_wp2_with fail
      refine HWn.out.mono ?_
      rintro e w3 ⟨rfl, k, rfl⟩
      go_wp2_with fail
      go_ret
      exact ⟨rfl, below_drewN HB.out k⟩
end Go.Proofs.YtaemlplcjjbamaaGreatDoor
namespace Go.Proofs.YtaemlplcjjbamaaGreatDoor
open Go.RowKit
theorem info_entry : (Tryz.prog.info? 102).map (fun i => (i.zero, i.size, i.bytes)) = some (some (entAgg zEnt), 3, 32) := by kernel_rfl
def floorFrom (a : Int) (ps : List Prom) : Int := ps.foldl (fun a p => max a p.floor) a
def topFrom (a : Int) (ps : List Prom) : Int := ps.foldl (fun a p => max a p.top) a
def topOf (ps : List Prom) : Int := topFrom 0 ps
def floorOf (ps : List Prom) : Int := min (floorFrom 0 ps) (topOf ps)
def chosenFrom (ps : List Prom) : Nat → Int → List Ent
  | 0, _ => []
  | n + 1, g => (match knownOf ps g with | some m => [⟨g, 0, m⟩] | none => []) ++ chosenFrom ps n (g + 1)
def againFrom (ps : List Prom) : Nat → Int → List Ent
  | 0, _ => []
  | n + 1, g => match greatOf ps g with | some x => x :: againFrom ps n (g + 1) | none => []
def chosenOf (ps : List Prom) : List Ent := chosenFrom ps (min (topOf ps - floorOf ps).toNat 64) (floorOf ps)
def againOf (ps : List Prom) : List Ent := againFrom ps 16 (topOf ps)
theorem drop_step {α : Type} (ps : List α) (i : Nat) (hi : i < ps.length) : ps.drop i = ps[i] :: ps.drop (i + 1) := List.drop_eq_getElem_cons hi
theorem entsVals_snoc (l : List Ent) (x : Ent) : entsVals (l ++ [x]) = entsVals l ++ entVals x := by simp [entsVals]
def MergeSays (ps : List Prom) (w : World) (e : Ending) (w' : World) : Prop :=
  ∃ v1 v2, e = .returned (.tuple #[.int .i64 (floorOf ps), .int .i64 (topOf ps), v1, v2]) ∧ w'.ownsRow w.heap.size 102 3 v1 (chosenOf ps).length (entsVals (chosenOf ps)) ∧ w'.ownsRow w.heap.size 102 3 v2 (againOf ps).length (entsVals (againOf ps)) ∧ Below w.heap.size w w'
set_option maxRecDepth 100000 in
set_option maxHeartbeats 4000000 in
theorem merge_any (ad : Option Addr) (cap : Nat) (ps : List Prom) (w : World) (hl : ps.length ≤ 1000000) (hll : ∀ p ∈ ps, p.list.length ≤ 1000000) (ht : ∀ p ∈ ps, p.top ≤ 2305843009213693952) (h : PromsAt w ad ps) :
    Calls Tryz.prog 102 #[.slice ad ps.length cap] w (MergeSays ps w) := by
  have H := Lib.hid h
  have Hll := Lib.hid hll
  have Ht := Lib.hid ht
  clear h hll ht
  go_enter Tryz.func102, Tryz.ntmps102
  go_wp2
  go_loopw [2, 3, 16] (fun f t i wr => ∃ (k : Nat) (a b : Int), i = .int .i64 k ∧ k ≤ ps.length ∧ f = .int .i64 a ∧ t = .int .i64 b ∧ Hid (floorFrom 0 ps = floorFrom a (ps.drop k)) ∧ Hid (topOf ps = topFrom b (ps.drop k)) ∧ 0 ≤ a ∧ 0 ≤ b ∧ b ≤ 2305843009213693952 ∧ Below w.heap.size w wr) (fun _ _ i _ => ps.length - (intOf i).toNat)
  case atStart => exact ⟨0, 0, 0, rfl, Nat.zero_le _, rfl, rfl, Lib.hid rfl, Lib.hid rfl, by omega, by omega, by omega, Below.refl _ _⟩
  case round =>
    obtain ⟨i, a, b, rfl, hi, rfl, rfl, ha, hb, ha0, hb0, hb1, hbr⟩ := hrel
    by_cases hlt : i < ps.length
    · obtain ⟨bl, off, la, lc, rfl, hbs, c0, c1, c2, _⟩ := promsAt_get H.out i hlt
      replace c0 := (hbr.cell (p := ⟨bl, off + i * 3, none⟩) hbs).trans c0
      replace c1 := (hbr.cell (p := ⟨bl, off + i * 3 + 1, none⟩) hbs).trans c1
      replace c2 := (hbr.cell (p := ⟨bl, off + i * 3 + 2, none⟩) hbs).trans c2
      have hps := Lib.hid (drop_step ps i hlt)
      have htp := Ht.out _ (List.getElem_mem hlt)
      obtain ⟨p, hp⟩ : ∃ p, p = ps[i] := ⟨_, rfl⟩
      rw [← hp] at c0 c1 c2 hps htp
      have Ha := Lib.hid (show floorFrom 0 ps = floorFrom (max a p.floor) (ps.drop (i + 1)) by rw [ha.out, hps.out]; rfl)
      have Hb := Lib.hid (show topOf ps = topFrom (max b p.top) (ps.drop (i + 1)) by rw [hb.out, hps.out]; rfl)
      clear hp hps
      have hbr2 := hbr.alloc hbr.size (.cells #[.int .i64 p.floor, .int .i64 p.top, .slice la p.list.length lc] 171)
      go_wp2
      go_quiet (fail)
      go_wp2
      go_roundw
      case rel => exact ⟨i + 1, max a p.floor, max b p.top, by go_num, by omega, rfl, rfl, Ha, Hb, by omega, by omega, by omega, below_drewN hbr2 _⟩
      case measure => simp [intOf]; omega
    · have hi' : i = ps.length := by omega
      subst hi'
      have hfa : floorFrom 0 ps = a := by rw [ha.out, List.drop_length]; rfl
      have hta : topOf ps = b := by rw [hb.out, List.drop_length]; rfl
      obtain ⟨F, hF⟩ : ∃ F, F = min a b := ⟨_, rfl⟩
      have hFo : floorOf ps = F := by unfold floorOf; rw [hfa, hta, hF]
      obtain ⟨n, hn⟩ : ∃ n, n = min (b - F).toNat 64 := ⟨_, rfl⟩
      have hch := Lib.hid (show chosenOf ps = [] ++ chosenFrom ps n F by unfold chosenOf; rw [hFo, hta, ← hn]; rfl)
      have hF0 : 0 ≤ F := by omega
      have hFb : F ≤ b := by omega
      have hnF : F + (n : Int) ≤ b := by omega
      have hn64 : n ≤ 64 := by omega
      have hnd : (n : Int) < 64 → F + (n : Int) = b := by omega
      have HFo := Lib.hid hFo
      have Hta := Lib.hid hta
      have HF := Lib.hid hF
      clear hfa hta hFo hF hn ha hb hlt hi
      obtain ⟨wo, rfl⟩ : ∃ wo : World, wo = wr := ⟨_, rfl⟩
      go_wp2
      rw [← HF.out]
      go_loopw [4, 8] (fun v g wr => ∃ (k : Nat) (L : List Ent), g = .int .i64 (F + (k : Int)) ∧ k ≤ n ∧ L.length ≤ k ∧ Hid (chosenOf ps = L ++ chosenFrom ps (n - k) (F + (k : Int))) ∧ Hid (wr.ownsRow w.heap.size 102 3 v L.length (entsVals L)) ∧ Below w.heap.size w wr) (fun _ g _ => (F + (n : Int) - intOf g).toNat)
      case atStart => exact ⟨0, [], by simp, Nat.zero_le _, Nat.le_refl _, by simpa using hch, Lib.hid (World.ownsRow_nil _ _ _ _), hbr⟩
      case round =>
        obtain ⟨k, L, rfl, hk, hL, hc, hown, hbw⟩ := hrel
        by_cases hlt : k < n
        · have h1 : F + (k : Int) < b := by omega
          have h2 : F + (k : Int) - F < 64 := by omega
          obtain ⟨r, hr⟩ : ∃ r, n - k = r + 1 := ⟨n - k - 1, by omega⟩
          have hstep := hc.out
          rw [hr, chosenFrom] at hstep
          have hr2 : n - (k + 1) = r := by omega
          have hg2 : F + (k : Int) + 1 = F + ((k + 1 : Nat) : Int) := by omega
          rw [← hr2, hg2] at hstep
          have hpw := Lib.hid (promsAt_below H.out hbw)
          clear hr hr2 hg2 hc
          go_wp2_with fail
          refine (known_any ad cap ps (F + (k : Int)) _ hl Hll.out hpw.out).mono ?_
          rintro e w1 ⟨rfl, hb1⟩
          have hown1 := Lib.hid (ownsRow_below hown.out hb1)
          have hbw1 := below_step hbw hb1
          clear hb1 hown hbw hpw
          cases hkn : knownOf ps (F + (k : Int)) with
          | none =>
            rw [hkn] at hstep
            have Hstep := Lib.hid (show chosenOf ps = L ++ chosenFrom ps (n - (k + 1)) (F + ((k + 1 : Nat) : Int)) from hstep)
            clear hstep hkn
            simp only [knownAgg]
            have hb2 := hbw1.alloc hbw1.size (.cells #[.int .i64 0, .int .i64 0, .string ⟨#[]⟩] 102)
            have hown2 := Lib.hid (hown1.out.alloc (.cells #[.int .i64 0, .int .i64 0, .string ⟨#[]⟩] 102))
            go_wp2_with fail
            go_roundw
            case rel => exact ⟨k + 1, L, by go_num, by omega, by omega, Hstep, hown2, hb2⟩
            case measure => simp [intOf]; omega
          | some m =>
            rw [hkn] at hstep
            have Hstep := Lib.hid (show chosenOf ps = (L ++ [(⟨F + (k : Int), 0, m⟩ : Ent)]) ++ chosenFrom ps (n - (k + 1)) (F + ((k + 1 : Nat) : Int)) by rw [hstep, List.append_assoc])
            clear hstep hkn
            simp only [knownAgg]
            have hb2 := hbw1.alloc hbw1.size (.cells #[.int .i64 (F + (k : Int)), .int .i64 0, .string m] 102)
            have hown2 := hown1.out.alloc (.cells #[.int .i64 (F + (k : Int)), .int .i64 0, .string m] 102)
            have hL64 : L.length ≤ 64 := by omega
            go_wp2_with (at_builtin; refine append_at rfl _ _ 28 rfl w.heap.size 102 3 32 Tryz.underlying28 _ info_entry rfl (by decide) _ _ _ rfl hown2 _ (by simp) [.int .i64 (F + (k : Int)), .int .i64 0, .string m] rfl rfl (by simp [Value.oneCell']) ?c1 ?c2 ?c3 ?_)
            case c1 => unfold maxLen; omega
            case c2 => omega
            case c3 => exact hb2.size
            intro v' w3 hown3 hb3
            have Hown3 : Hid (w3.ownsRow w.heap.size 102 3 v' (L ++ [(⟨F + (k : Int), 0, m⟩ : Ent)]).length (entsVals (L ++ [(⟨F + (k : Int), 0, m⟩ : Ent)]))) := by
              show w3.ownsRow w.heap.size 102 3 v' (L ++ [(⟨F + (k : Int), 0, m⟩ : Ent)]).length _
              rw [entsVals_snoc, List.length_append]
              exact hown3
            clear hown3 hown2 hown1
            go_wp2
            go_roundw
            case rel => exact ⟨k + 1, L ++ [(⟨F + (k : Int), 0, m⟩ : Ent)], by go_num, by omega, by simp; omega, Hstep, Hown3, hb2.trans hb3⟩
            case measure => simp [intOf]; omega
        · obtain rfl : k = n := by omega
          have hLe := hc.out
          rw [Nat.sub_self, chosenFrom, List.append_nil] at hLe
          have HL1 := Lib.hid hLe
          have hL64 : L.length ≤ 64 := by omega
          have hag := Lib.hid (show againOf ps = [] ++ againFrom ps (16 - 0) (b + ((0 : Nat) : Int)) by unfold againOf; rw [Hta.out]; simp)
          have hpw := Lib.hid (promsAt_below H.out hbw)
          clear hLe hc hlt H
          obtain ⟨w2, rfl⟩ : ∃ w2 : World, w2 = wr := ⟨_, rfl⟩
          have hcase : F + (k : Int) < b ∧ 64 ≤ (k : Int) ∨ b ≤ F + (k : Int) := by omega
          rcases hcase with ⟨hx1, hx2⟩ | hx1
          all_goals
            go_wp2_with fail
            go_loopw [5, 11] (fun v g wr => ∃ (j : Nat) (L2 : List Ent), g = .int .i64 (b + (j : Int)) ∧ j ≤ 16 ∧ L2.length ≤ j ∧ Hid (againOf ps = L2 ++ againFrom ps (16 - j) (b + (j : Int))) ∧ Hid (wr.ownsRow w2.heap.size 102 3 v L2.length (entsVals L2)) ∧ Below w2.heap.size w2 wr) (fun _ g _ => (b + 16 - intOf g).toNat)
            case atStart => exact ⟨0, [], by simp, Nat.zero_le _, Nat.le_refl _, hag, Lib.hid (World.ownsRow_nil _ _ _ _), Below.refl _ _⟩
            case round =>
              obtain ⟨j, L2, rfl, hj, hL2, hc2, hown3, hb3⟩ := hrel
              by_cases hlt : j < 16
              · obtain ⟨r, hr⟩ : ∃ r, 16 - j = r + 1 := ⟨16 - j - 1, by omega⟩
                have hstep := hc2.out
                rw [hr, againFrom] at hstep
                have hr2 : 16 - (j + 1) = r := by omega
                have hg2 : b + (j : Int) + 1 = b + ((j + 1 : Nat) : Int) := by omega
                rw [← hr2, hg2] at hstep
                have hpw3 := Lib.hid (promsAt_below hpw.out hb3)
                clear hr hr2 hg2 hc2
                go_wp2_with fail
                refine (greatest_any ad cap ps (b + (j : Int)) _ hl Hll.out hpw3.out).mono ?_
                rintro e w4 ⟨rfl, hb4⟩
                have hown4 := Lib.hid (ownsRow_below hown3.out hb4)
                have hb04 := below_step hb3 hb4
                clear hb4 hown3 hb3 hpw3
                cases hkn : greatOf ps (b + (j : Int)) with
                | none =>
                  rw [hkn] at hstep
                  have he : Hid (againOf ps = L2) := Lib.hid (hstep.trans (List.append_nil _))
                  clear hstep hkn
                  simp only [greatAgg, entAgg, zEnt, Option.getD_none, Option.isSome_none]
                  have hb5 := hb04.alloc hb04.size (.cells #[.int .i64 0, .int .i64 0, .string ⟨#[]⟩] 102)
                  have hown5 := Lib.hid (hown4.out.alloc (.cells #[.int .i64 0, .int .i64 0, .string ⟨#[]⟩] 102))
                  go_wp2_with fail
                  refine bodyPost_ret (results_tmp4 rfl _ _ _) rfl ?_
                  refine ⟨_, _, by simp only [HFo.out, Hta.out]; rfl, ?_, ?_, hbw.trans (hb5.mono hbw.size)⟩
                  · rw [HL1.out]; exact ownsRow_below hown.out hb5
                  · rw [he.out]; exact row_base hown5.out hbw.size
                | some x =>
                  rw [hkn] at hstep
                  have Hstep := Lib.hid (show againOf ps = (L2 ++ [x]) ++ againFrom ps (16 - (j + 1)) (b + ((j + 1 : Nat) : Int)) by rw [hstep, List.append_assoc]; rfl)
                  clear hstep hkn
                  simp only [greatAgg, entAgg, Option.getD_some, Option.isSome_some]
                  have hb5 := hb04.alloc hb04.size (.cells #[.int .i64 x.gen, .int .i64 x.bal, .string x.mark] 102)
                  have hown5 := hown4.out.alloc (.cells #[.int .i64 x.gen, .int .i64 x.bal, .string x.mark] 102)
                  go_wp2_with (at_builtin; refine append_at rfl _ _ 28 rfl w2.heap.size 102 3 32 Tryz.underlying28 _ info_entry rfl (by decide) _ _ _ rfl hown5 _ (by simp) [.int .i64 x.gen, .int .i64 x.bal, .string x.mark] rfl rfl (by simp [Value.oneCell']) ?c1 ?c2 ?c3 ?_)
                  case c1 => unfold maxLen; omega
                  case c2 => omega
                  case c3 => exact hb5.size
                  intro v' w6 hown6 hb6
                  have Hown6 : Hid (w6.ownsRow w2.heap.size 102 3 v' (L2 ++ [x]).length (entsVals (L2 ++ [x]))) := by
                    show w6.ownsRow w2.heap.size 102 3 v' (L2 ++ [x]).length _
                    rw [entsVals_snoc, List.length_append]
                    exact hown6
                  clear hown6 hown5 hown4
                  go_wp2
                  go_roundw
                  case rel => exact ⟨j + 1, L2 ++ [x], by go_num, by omega, by simp; omega, Hstep, Hown6, hb5.trans hb6⟩
                  case measure => simp [intOf]; omega
              · obtain rfl : j = 16 := by omega
                have he := Lib.hid (show againOf ps = L2 by rw [hc2.out, Nat.sub_self, againFrom, List.append_nil])
                clear hc2
                go_wp2_with fail
                refine bodyPost_ret (results_tmp4 rfl _ _ _) rfl ?_
                refine ⟨_, _, by simp only [HFo.out, Hta.out]; rfl, ?_, ?_, hbw.trans (hb3.mono hbw.size)⟩
                · rw [HL1.out]; exact ownsRow_below hown.out hb3
                · rw [he.out]; exact row_base hown3.out hbw.size
end Go.Proofs.YtaemlplcjjbamaaGreatDoor
namespace Go.Proofs.YtaemlplcjjbamaaGreatDoor
open Go.RowKit
theorem info_promise : (Tryz.prog.info? 171).map (fun i => (i.zero, i.size, i.bytes)) = some (some (.agg #[.int .i64 0, .int .i64 0, .slice none 0 0]), 3, 40) := by kernel_rfl
/-- the cells of a row of promises -/
def PRow (w : World) : List Prom → List Value → Prop
  | [], cs => cs = []
  | q :: qs, cs => ∃ la lc rest, cs = .int .i64 q.floor :: .int .i64 q.top :: .slice la q.list.length lc :: rest ∧ EntsAt w la q.list ∧ PRow w qs rest
theorem PRow_snoc {w : World} {qs : List Prom} {cs : List Value} (h : PRow w qs cs) {q : Prom} {la : Option Addr} {lc : Nat} (he : EntsAt w la q.list) : PRow w (qs ++ [q]) (cs ++ [.int .i64 q.floor, .int .i64 q.top, .slice la q.list.length lc]) := by
  induction qs generalizing cs with
  | nil => simp [PRow] at h; subst h; exact ⟨la, lc, [], rfl, he, rfl⟩
  | cons p qs ih => obtain ⟨la', lc', rest, rfl, h1, hr⟩ := h; exact ⟨la', lc', _, rfl, h1, ih hr⟩
theorem PRow_at {w : World} {qs : List Prom} {cs : List Value} (h : PRow w qs cs) (k : Nat) (hk : k < qs.length) :
    ∃ la lc, cs[k * 3]? = some (.int .i64 qs[k].floor) ∧ cs[k * 3 + 1]? = some (.int .i64 qs[k].top) ∧ cs[k * 3 + 2]? = some (.slice la qs[k].list.length lc) ∧ EntsAt w la qs[k].list := by
  induction qs generalizing cs k with
  | nil => simp at hk
  | cons q qs ih =>
    obtain ⟨la, lc, rest, rfl, h1, hr⟩ := h
    cases k with
    | zero => exact ⟨la, lc, rfl, rfl, rfl, h1⟩
    | succ k =>
      obtain ⟨la', lc', a, b, c, d⟩ := ih hr k (by simpa using hk)
      refine ⟨la', lc', ?_, ?_, ?_, d⟩
      · rw [show (k + 1) * 3 = k * 3 + 3 by omega]; exact a
      · rw [show (k + 1) * 3 + 1 = k * 3 + 1 + 3 by omega]; exact b
      · rw [show (k + 1) * 3 + 2 = k * 3 + 2 + 3 by omega]; exact c
theorem promsAt_own {w w' : World} {base : Nat} {e : TypeId} {v : Value} {qs : List Prom} {cs : List Value} (h : w'.ownsRow base e 3 v qs.length cs) (hr : PRow w qs cs) (hb : Below w.heap.size w w') :
    ∃ ad cap, v = .slice ad qs.length cap ∧ PromsAt w' ad qs := by
  have h0 := h
  obtain ⟨h1, h2⟩ := h
  rcases h2 with ⟨rfl, h2⟩ | ⟨g, cap, cur, rfl, hg, hbb, hn, hc, hs, ht⟩
  · have hl : qs = [] := List.length_eq_zero_iff.1 h2
    subst hl
    exact ⟨none, 0, rfl, Or.inl rfl⟩
  · refine ⟨_, cap, rfl, Or.inr ⟨g, 0, rfl, (h0.lt g rfl).2, fun k hk => ?_⟩⟩
    obtain ⟨la, lc, a, b, c, d⟩ := PRow_at hr k hk
    refine ⟨la, lc, ?_, ?_, ?_, entsAt_below d hb⟩
    · rw [Nat.zero_add, h0.cellAt (k * 3) (by omega)]; exact a
    · rw [Nat.zero_add, h0.cellAt (k * 3 + 1) (by omega)]; exact b
    · rw [Nat.zero_add, h0.cellAt (k * 3 + 2) (by omega)]; exact c
end Go.Proofs.YtaemlplcjjbamaaGreatDoor
