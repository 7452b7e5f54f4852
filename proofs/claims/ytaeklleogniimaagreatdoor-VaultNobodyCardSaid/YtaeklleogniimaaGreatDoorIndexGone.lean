/- slices.IndexFunc over the pieces that wait. No condition but the sizes. -/
import Derived.Test.YtaeklleogniimaaGreatDoorSpoil
import Derived.Lib.SliceRun
namespace Go.Proofs.YtaeklleogniimaaGreatDoor
open Go.RowKit
set_option linter.unusedVariables false

set_option maxRecDepth 100000 in
set_option maxHeartbeats 800000 in
theorem delete_at (b n c i : Nat) (cs : List Value) (w : World) (hi : i < n) (hnc : n ≤ c) (hmax : c ≤ maxLen) (hcl : cs.length = n) (cur : List Value) (hB : Blk w b cur 133) (hcc : cur.length = c) (hcs : cur.take n = cs) (h1c : ∀ v ∈ cs, v.oneCell' = true) :
    Calls Tryz.prog 139 #[.slice (some ⟨b, 0, none⟩) n c, .int .i64 i, .int .i64 ((i : Int) + 1)] w fun e w' =>
      e = .returned (.slice (some ⟨b, 0, none⟩) (n - 1) c) ∧ w' = (w.drew.setCells b i (cs.drop (i + 1))).setCells b (n - 1) [.pointer none] := by
  unfold maxLen at hmax
  obtain ⟨i0, hi0, hz0, hz1, hz2⟩ := info_parts info_fptr
  obtain ⟨news, hnews⟩ : ∃ news, news = cs.drop (i + 1) := ⟨_, rfl⟩
  have hlen : news.length = n - (i + 1) := by rw [hnews, List.length_drop, hcl]
  have hcsx : ∀ j v, cs[j]? = some v → w.cell? ⟨b, j, none⟩ = some v := fun j v hj => by
    rw [← hcs, List.getElem?_take] at hj
    split at hj
    · rw [hB.cell]; exact hj
    · cases hj
  obtain ⟨A, hA, hsrc⟩ : ∃ A : Addr, (if c = i + 1 then some (⟨b, 0, none⟩ : Addr) else some ⟨b, i + 1, none⟩) = some A ∧ Hid (∀ t u, news[t]? = some u → w.drew.cell? (A.add t) = some u) := by
    by_cases h : c = i + 1
    · refine ⟨⟨b, 0, none⟩, by simp [h], fun t u hu => ?_⟩
      have h0 : news.length = 0 := by rw [hlen]; omega
      rw [List.length_eq_zero_iff.1 h0] at hu
      simp at hu
    · refine ⟨⟨b, i + 1, none⟩, by simp [h], fun t u hu => ?_⟩
      rw [hnews, List.getElem?_drop] at hu
      rw [Addr.add_lit]
      exact hcsx (i + 1 + t) u hu
  have s1 : Hid (news.length = (n - (i + 1)) * 1) := by show _ = _; rw [Nat.mul_one]; exact hlen
  have s2 : Hid (∀ u ∈ news, u.oneCell' = true) := fun u hu => h1c u (List.mem_of_mem_drop (by rw [← hnews]; exact hu))
  have s3 : Hid (∀ t, t < news.length → (w.drew.cell? ⟨b, 0 + i * 1 + t, none⟩).isSome = true ∧ w.drew.frozen? ⟨b, 0 + i * 1 + t, none⟩ = false) := by
    intro t ht
    rw [hlen] at ht
    rw [Nat.mul_one, Nat.zero_add]
    refine ⟨?_, hB.free _⟩
    show (w.cell? _).isSome = true
    rw [hB.cell, List.getElem?_eq_getElem (by omega)]; rfl
  obtain ⟨W1, hW1⟩ : ∃ W1, W1 = w.drew.setCells b (0 + i * 1) news := ⟨_, rfl⟩
  have hB1 : Blk W1 b (cur.take i ++ news ++ cur.drop (i + news.length)) 133 := by
    rw [hW1, Nat.mul_one, Nat.zero_add]
    exact Blk.setCells news hB.drew i (by omega)
  have hln : (cur.take i ++ news ++ cur.drop (i + news.length)).length = c := by
    simp only [List.length_append, List.length_take, List.length_drop]; omega
  have hv : ∀ w, (zeroValue 133).run Tryz.prog w = .ok (.pointer none) w := fun w => by kernel_rfl
  have hcl1 : ∀ ty, (Builtin.clear_ #[76] ty #[.slice (some ⟨b, i + (n - (i + 1)), none⟩) (n - (i + (n - (i + 1)))) (c - (i + (n - (i + 1))))]).run Tryz.prog W1 = .ok (.tuple #[]) (W1.setCells b (i + (n - (i + 1))) (List.replicate (n - (i + (n - (i + 1)))) (.pointer none))) :=
    fun ty => Lib.run_clear_slice (P := Tryz.prog) W1 _ _ ty _ Tryz.underlying76 hv rfl rfl b (i + (n - (i + 1))) _ _ (by omega) (fun t ht => by rw [hB1.cell, List.getElem?_eq_getElem (by omega)]; rfl) (fun t ht => hB1.free _)
  have hW : Hid (W1 = w.drew.setCells b (0 + i * 1) news) := hW1
  have hN : Hid (news = cs.drop (i + 1)) := hnews
  have hic : i ≤ c := by omega
  have hjc : i + 1 ≤ c := by omega
  have hjn : i + 1 ≤ n := by omega
  have hjn2 : (i : Int) + 1 ≤ (n : Int) := by omega
  have hjc2 : (i : Int) + 1 ≤ (c : Int) := by omega
  have hne : ¬ ((i : Int) = (i : Int) + 1) := by omega
  have hji : ((i : Int) + 1).toNat = i + 1 := by omega
  have hj0 : (0 : Int) ≤ (i : Int) + 1 := by omega
  clear hW1 hB1 hB hnews hlen hln hcs hcsx h1c hcc hv hz2
  go_enter Tryz.func139, Tryz.ntmps139
  go_wp2_with fail
  go_region_law (refine step_append_room rfl (.tmp 22) (.tmp 25) 76 rfl 133 i0 1 Tryz.underlying76 hi0 hz1 b 0 i c (by simp [Act.eval, Act.put]) A (n - (i + 1)) (c - (i + 1)) news (by simp [Act.eval, Act.put]) s1.out hsrc.out s2.out (by omega) s3.out ?_; rw [← hW.out])
  go_wp2
  go_ret
  have e1 : i + (n - (i + 1)) = n - 1 := by omega
  have e2 : n - (n - 1) = 1 := by omega
  refine ⟨?_, ?_⟩
  · show Ending.returned (Value.slice (some ⟨b, 0, none⟩) (i + (n - (i + 1))) c) = _
    rw [e1]
  · rw [e1, e2, hW.out, hN.out, Nat.mul_one, Nat.zero_add]
    rfl
theorem cut_out {cur cs : List Value} {n i : Nat} (hi : i < n) (hn : n ≤ cur.length) (hcs : cur.take n = cs) (z : Value) :
    let X := cur.take i ++ cs.drop (i + 1) ++ cur.drop (i + (cs.drop (i + 1)).length)
    let Y := X.take (n - 1) ++ [z] ++ X.drop (n - 1 + [z].length)
    X.length = cur.length ∧ Y.length = cur.length ∧ Y.take (n - 1) = cs.eraseIdx i := by
  intro X Y
  have hcl : cs.length = n := by rw [← hcs, List.length_take]; omega
  have h0 : (cs.drop (i + 1)).length = n - (i + 1) := by rw [List.length_drop, hcl]
  have hX : X.length = cur.length := by
    show (cur.take i ++ cs.drop (i + 1) ++ cur.drop (i + (cs.drop (i + 1)).length)).length = _
    simp only [List.length_append, List.length_take, List.length_drop, hcl]; omega
  have hXt : (X.take (n - 1)).length = n - 1 := by rw [List.length_take, hX]; omega
  refine ⟨hX, ?_, ?_⟩
  · show (X.take (n - 1) ++ [z] ++ X.drop (n - 1 + 1)).length = _
    rw [List.length_append, List.length_append, hXt, List.length_drop, hX, List.length_singleton]; omega
  · show (X.take (n - 1) ++ [z] ++ X.drop (n - 1 + 1)).take (n - 1) = _
    rw [List.append_assoc, List.take_append_of_le_length (by omega), List.take_of_length_le (by omega)]
    show (cur.take i ++ cs.drop (i + 1) ++ cur.drop (i + (cs.drop (i + 1)).length)).take (n - 1) = _
    have hl : (cur.take i ++ cs.drop (i + 1)).length = n - 1 := by rw [List.length_append, h0, List.length_take]; omega
    rw [List.take_append_of_le_length (by omega), List.take_of_length_le (by omega), List.eraseIdx_eq_take_drop_succ, ← hcs, List.take_take, Nat.min_eq_left (by omega)]
/-- an owned row of file pointers loses one -/
theorem delete_row (v : Value) (n i : Nat) (xs : List Value) (w : World) (hown : w.ownsRow 0 133 1 v n xs) (hi : i < n) (h1x : ∀ u ∈ xs, u.oneCell' = true) :
    Calls Tryz.prog 139 #[v, .int .i64 i, .int .i64 ((i : Int) + 1)] w fun e w' =>
      ∃ g cap, v = .slice (some ⟨g, 0, none⟩) n cap ∧ e = .returned (.slice (some ⟨g, 0, none⟩) (n - 1) cap) ∧ w'.ownsRow 0 133 1 (.slice (some ⟨g, 0, none⟩) (n - 1) cap) (n - 1) (xs.eraseIdx i) ∧ Touch (fun k => v.ownBlock = some k) w w' := by
  obtain ⟨h1, h2⟩ := hown
  rcases h2 with ⟨rfl, h2⟩ | ⟨g, cap, cur, rfl, hg, hb, hnc, hc, hcs, ht⟩
  · omega
  · have hB : Blk w g cur.toList 133 := by unfold Blk; simpa using hb
    rw [Nat.mul_one] at hcs ht h1
    have hcl : cur.toList.length = cap := by simpa using hcs
    refine (delete_at g n cap i xs w hi hnc hc h1 cur.toList hB hcl ht h1x).mono ?_
    rintro e w' ⟨rfl, rfl⟩
    obtain ⟨k1, k2, k3⟩ := cut_out hi (by omega) ht (.pointer none)
    have hB1 := Blk.setCells (xs.drop (i + 1)) hB.drew i (by rw [List.length_drop]; omega)
    have hB2 := Blk.setCells [.pointer none] hB1 (n - 1) (by rw [k1]; simp; omega)
    have hT : Touch (fun k => (Value.slice (some (⟨g, 0, none⟩ : Addr)) n cap).ownBlock = some k) w ((w.drew.setCells g i (xs.drop (i + 1))).setCells g (n - 1) [.pointer none]) :=
      Touch.setCells (S := fun k => (Value.slice (some (⟨g, 0, none⟩ : Addr)) n cap).ownBlock = some k) _ _ (Touch.setCells (S := fun k => (Value.slice (some (⟨g, 0, none⟩ : Addr)) n cap).ownBlock = some k) _ _ ((Touch.refl _ w).drew) (Or.inl rfl)) (Or.inl rfl)
    refine ⟨g, cap, rfl, rfl, ⟨?_, Or.inr ⟨g, cap, _, rfl, hg, hB2, by omega, hc, ?_, ?_⟩⟩, hT⟩
    · rw [List.length_eraseIdx, if_pos (by omega), h1]; omega
    · rw [Nat.mul_one, List.size_toArray, k2, hcl]
    · rw [Nat.mul_one]; exact k3
end Go.Proofs.YtaeklleogniimaaGreatDoor
namespace Go.Proofs.YtaeklleogniimaaGreatDoor
open Go.RowKit
set_option linter.unusedVariables false

def pieceVal (p : DPiece) : Value := .agg #[.int .i64 p.id, .int .i64 p.at_, .int .i64 p.from_, .string p.text]
set_option maxHeartbeats 800000 in
theorem gone_any (p : DPiece) (B g : Nat) (id : Int) (w : World) (hB : w.cell? ⟨B, 0, none⟩ = some (.pointer (some ⟨g, 0, none⟩))) (hg : w.cell? ⟨g, 0, none⟩ = some (.int .i64 id)) (hB2 : B < w.heap.size) (hg2 : g < w.heap.size) :
    Calls Tryz.prog 141 #[pieceVal p, .pointer (some ⟨B, 0, none⟩)] w fun e w' => e = .returned (.bool (p.id == id)) ∧ Below w.heap.size w w' := by
  unfold pieceVal
  go_enter Tryz.func141, Tryz.ntmps141
  go_wp2_with fail
  go_quiet (fail)
  go_wp2_with fail
  go_ret
  exact ⟨rfl, below_drewN ((Below.refl _ _).alloc (Nat.le_refl _) _) _⟩
end Go.Proofs.YtaeklleogniimaaGreatDoor
namespace Go.Proofs.YtaeklleogniimaaGreatDoor
open Go.RowKit
set_option linter.unusedVariables false

def firstGone (l : List DPiece) (id : Int) : Int := match l.findIdx? (fun p => p.id == id) with | some k => (k : Int) | none => -1
theorem firstGone_some {l : List DPiece} {id : Int} {k : Nat} (hk : k < l.length) (h : (l[k].id == id) = true) (hp : ∀ j (hj : j < l.length), j < k → (l[j].id == id) = false) : firstGone l id = k := by
  unfold firstGone
  rw [List.findIdx?_eq_some_iff_getElem.2 ⟨hk, h, fun j hj => by rw [hp j (by omega) hj]; decide⟩]
theorem firstGone_none {l : List DPiece} {id : Int} (hp : ∀ j (hj : j < l.length), j < l.length → (l[j].id == id) = false) : firstGone l id = -1 := by
  unfold firstGone
  rw [List.findIdx?_eq_none_iff.2 (fun x hx => by
    obtain ⟨j, hj, rfl⟩ := List.mem_iff_getElem.1 hx
    exact hp j hj hj)]

set_option maxRecDepth 100000 in
set_option maxHeartbeats 800000 in
theorem indexGone_any (b : Nat) (S : DSt) (B g : Nat) (id : Int) (w : World) (h : DiskAt w b S) (hl : S.wait.length ≤ 1000000000) (hB : w.cell? ⟨B, 0, none⟩ = some (.pointer (some ⟨g, 0, none⟩))) (hg : w.cell? ⟨g, 0, none⟩ = some (.int .i64 id)) (hB2 : B < w.heap.size) (hg2 : g < w.heap.size) :
    Calls Tryz.prog 207 #[S.wv, .func (.func 141) #[] #[.pointer (some ⟨B, 0, none⟩)]] w fun e w' => e = .returned (.int .i64 (firstGone S.wait id)) ∧ Below w.heap.size w w' := by
  obtain ⟨ad, cap, hv⟩ := row_shape h.wrow
  have H := Lib.hid h
  have HG := Lib.hid (fun (p : DPiece) (w' : World) (hb : Below w.heap.size w w') => gone_any p B g id w' ((hb.cell (p := ⟨B, 0, none⟩) hB2).trans hB) ((hb.cell (p := ⟨g, 0, none⟩) hg2).trans hg) (Nat.lt_of_lt_of_le hB2 hb.size) (Nat.lt_of_lt_of_le hg2 hb.size))
  rw [hv]
  have Hv := Lib.hid hv
  clear h hv hB hg hB2 hg2
  unfold pieceVal at HG
  go_enter Tryz.func207, Tryz.ntmps207
  go_wp2_with fail
  go_loopw [8] (fun i wr => ∃ k : Nat, k ≤ S.wait.length ∧ i = .int .i64 k ∧ Hid (∀ j (hj : j < S.wait.length), j < k → (S.wait[j].id == id) = false) ∧ Hid (Below w.heap.size w wr)) (fun i _ => S.wait.length - (intOf i).toNat)
  case atStart => exact ⟨0, Nat.zero_le _, rfl, Lib.hid (fun j hj h => absurd h (by omega)), Lib.hid (Below.refl _ _)⟩
  case round =>
    obtain ⟨k, hk, rfl, HP, HB⟩ := hrel
    by_cases hlt : k < S.wait.length
    · obtain ⟨g1, cap', hv', hgl, hc⟩ := wait_at H.out k hlt
      rw [Hv.out] at hv'
      injection hv' with hv1 hv3 hv2
      clear hv3
      subst hv1; subst hv2
      have HS := Lib.hid (fun (hq : (S.wait[k].id == id) = true) => firstGone_some hlt hq HP.out)
      have HN := Lib.hid (fun (hq : (S.wait[k].id == id) = false) => (show ∀ j (hj : j < S.wait.length), j < k + 1 → (S.wait[j].id == id) = false from fun j hj hjk => by
        by_cases e : j = k
        · subst e; exact hq
        · exact HP.out j hj (by omega)))
      generalize S.wait[k] = p at hc HS HN
      have hc0 : wr.cell? ⟨g1, k * 4, none⟩ = some (.int .i64 p.id) := (HB.out.cell (p := ⟨g1, k * 4, none⟩) hgl).trans (hc 0 (by omega))
      have hc1 : wr.cell? ⟨g1, k * 4 + 1, none⟩ = some (.int .i64 p.at_) := (HB.out.cell (p := ⟨g1, k * 4 + 1, none⟩) hgl).trans (hc 1 (by omega))
      have hc2 : wr.cell? ⟨g1, k * 4 + 2, none⟩ = some (.int .i64 p.from_) := (HB.out.cell (p := ⟨g1, k * 4 + 2, none⟩) hgl).trans (hc 2 (by omega))
      have hc3 : wr.cell? ⟨g1, k * 4 + 3, none⟩ = some (.string p.text) := (HB.out.cell (p := ⟨g1, k * 4 + 3, none⟩) hgl).trans (hc 3 (by omega))
      clear hc HP
      go_wp2_with fail
      refine (HG.out p _ HB.out).mono ?_
      rintro e w1 ⟨rfl, hb1⟩
      have HB1 := Lib.hid (HB.out.trans (hb1.mono HB.out.size))
      clear hb1 hc0 hc1 hc2 hc3
      cases hq : (p.id == id) with
      | true =>
        have hfin := Lib.hid (HS.out hq)
        clear hq
        go_wp2_with fail
        go_ret
        exact ⟨by rw [hfin.out]; rfl, HB1.out⟩
      | false =>
        have hnext := Lib.hid (HN.out hq)
        clear hq
        go_wp2_with fail
        go_roundw
        case rel => exact ⟨k + 1, hlt, by go_num, hnext, HB1⟩
        case measure => simp [intOf]; omega
    · obtain rfl : k = S.wait.length := by omega
      have hfin := Lib.hid (firstGone_none HP.out)
      go_wp2_with fail
      go_ret
      exact ⟨by rw [hfin.out]; rfl, HB.out⟩
end Go.Proofs.YtaeklleogniimaaGreatDoor
