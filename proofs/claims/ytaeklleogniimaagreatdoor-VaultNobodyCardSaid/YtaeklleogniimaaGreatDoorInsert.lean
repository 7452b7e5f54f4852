/- slices.Insert of one element into a row of file pointers. No condition but the sizes. -/
import Derived.Test.YtaeklleogniimaaGreatDoorDiskAt
import Derived.Shelf.Spec.SlicesInsertGrow
import Derived.Maps.AppendAt
import Derived.Deep.RegionLaw
namespace Go.Proofs.YtaeklleogniimaaGreatDoor
open Go.RowKit
set_option linter.unusedVariables false

theorem Blk.setCells {b : Nat} {T : TypeId} : ∀ (vs : List Value) {w : World} {cs : List Value} (h : Blk w b cs T) (o : Nat) (hl : o + vs.length ≤ cs.length), Blk (w.setCells b o vs) b (cs.take o ++ vs ++ cs.drop (o + vs.length)) T
  | [], w, cs, h, o, hl => by
    have e : cs.take o ++ [] ++ cs.drop (o + ([] : List Value).length) = cs := by simp
    rw [e]; exact h
  | v :: r, w, cs, h, o, hl => by
    rw [List.length_cons] at hl
    have h1 := Blk.setCells r (h.set o v) (o + 1) (by rw [List.length_set]; omega)
    have e : (cs.set o v).take (o + 1) ++ r ++ (cs.set o v).drop (o + 1 + r.length) = cs.take o ++ (v :: r) ++ cs.drop (o + (v :: r).length) := by
      obtain ⟨A, x, R, rfl, rfl⟩ : ∃ A x R, cs = A ++ x :: R ∧ o = A.length := by
        refine ⟨cs.take o, cs[o]'(by omega), cs.drop (o + 1), ?_, by rw [List.length_take]; omega⟩
        rw [List.getElem_cons_drop, List.take_append_drop]
      have e1 : (A ++ x :: R).set A.length v = A ++ v :: R := by simp
      have e2 : A.length + 1 + r.length - A.length = r.length + 1 := by omega
      have e3 : A.length + (r.length + 1) - A.length = r.length + 1 := by omega
      have e4 : ∀ k, A.drop (A.length + k) = [] := fun k => List.drop_eq_nil_of_le (by omega)
      rw [e1, List.length_cons]
      simp only [List.take_append, List.drop_append, e2, e3, Nat.sub_self, Nat.add_sub_cancel_left, List.take_zero, List.append_nil, List.take_length]
      rw [Nat.add_assoc, e4, e4, List.take_of_length_le (show A.length ≤ A.length + 1 by omega)]
      simp
    rw [e] at h1
    exact h1
theorem Touch.setCells {S : Nat → Prop} {a : World} {b : Nat} : ∀ (vs : List Value) (o : Nat) {w : World} (h : Touch S a w) (hb : S b ∨ a.heap.size ≤ b), Touch S a (w.setCells b o vs)
  | [], _, _, h, _ => h
  | v :: r, o, w, h, hb => Touch.setCells r (o + 1) (h.set (p := ⟨b, o, none⟩) hb v) hb

theorem info_fptr : (Tryz.prog.info? 133).map (fun i => (i.zero, i.size, i.bytes)) = some (some (.pointer none), 1, 8) := by kernel_rfl

theorem splice_room {A B R : List Value} {p c0 b0 : Value} :
    let cur := A ++ b0 :: B ++ c0 :: R
    let cs1 := cur.take (A.length + 1) ++ (b0 :: B) ++ cur.drop (A.length + 1 + (b0 :: B).length)
    (cs1.take A.length ++ [p] ++ cs1.drop (A.length + 1)) = A ++ p :: b0 :: B ++ R := by
  have e2 : A.length + 1 + (B.length + 1) - A.length = B.length + 2 := by omega
  have e3 : A.drop (A.length + 1 + (B.length + 1)) = [] := List.drop_eq_nil_of_le (by omega)
  have e4 : A.take (A.length + 1) = A := List.take_of_length_le (by omega)
  have e5 : B.drop (B.length + 1) = [] := List.drop_eq_nil_of_le (by omega)
  simp [List.take_append, List.drop_append, e2, e3, e4, e5]

section

set_option maxRecDepth 100000 in
set_option maxHeartbeats 4000000 in
theorem insert_shift (b n c i vb : Nat) (cs : List Value) (p : Value) (w : World) (hi : i < n) (hroom : n + 1 ≤ c) (hc63 : c ≤ 9223372036854775807) (hvb : vb ≠ b)
    (hcl : cs.length = n) (cur : List Value) (hB : Blk w b cur 133) (hcc : cur.length = c) (hcs : cur.take n = cs) (hV : Blk w vb [p] 133) (h1c : ∀ v ∈ cs, v.oneCell' = true) (h1v : p.oneCell' = true) :
    Calls Tryz.prog 209 #[.slice (some ⟨b, 0, none⟩) n c, .int .i64 i, .slice (some ⟨vb, 0, none⟩) 1 1] w fun e w' =>
      e = .returned (.slice (some ⟨b, 0, none⟩) (n + 1) c) ∧ w' = (w.drew.setCells b (i + 1) (cs.drop i)).setCells b i [p] := by
  have hz2 : ¬ ((i : Int) = (n : Int)) := by omega
  have hsz : (Tryz.prog.info? 133).map (·.size) = some 1 := by
    obtain ⟨i0, hi0, h0, h1, h2⟩ := info_parts info_fptr
    rw [hi0]; simp [h1]
  have hov : ∀ lb cb, (callFunc 263 #[.slice (some ⟨vb, 0, none⟩) 1 1, .slice (some ⟨b, i + 1, none⟩) lb cb]).run Tryz.prog w = .ok (.value (.bool false)) w := fun lb cb => by
    rw [run_callFunc_extern Tryz.func263 (by kernel_rfl) (by kernel_rfl) (by kernel_rfl) (e := Extern.SlicesOverlaps.overlaps #[76, 76] #[4]) (by kernel_rfl),
      Lib.run_overlaps_apart w 76 4 133 Tryz.underlying76 1 Tryz.sizeOf133 ⟨vb, 0, none⟩ ⟨b, i + 1, none⟩ 1 1 lb cb hvb 133 133 1 c
        (by unfold Blk at hV; simp [World.shape?, hV]) (by unfold Blk at hB; simp [World.shape?, hB, hcc]) (by omega) (hV.free 0) (hV.free 1)]
    rfl
  have hdl : (cs.drop i).length = n - i := by rw [List.length_drop, hcl]
  have hcell : ∀ j, j < c → (w.cell? ⟨b, j, none⟩).isSome = true := fun j hj => by
    rw [hB.cell, List.getElem?_eq_getElem (by omega)]; rfl
  have hcsx : ∀ j v, cs[j]? = some v → w.cell? ⟨b, j, none⟩ = some v := fun j v hj => by
    rw [← hcs, List.getElem?_take] at hj
    split at hj
    · rw [hB.cell]; exact hj
    · cases hj
  have hw1 : IntKind.i64.wrap ((i : Int) + 1) = (i : Int) + 1 := by rw [IntKind.wrap_i64]; omega
  have hb1 : (0 : Int) ≤ (i : Int) + 1 := by omega
  have hin : i ≤ n := by omega
  have htn : ((i : Int) + 1).toNat = i + 1 := by omega
  have hb2 : ¬ (c = i + 1) := by omega
  have hb3 : (i : Int) ≤ (n : Int) + 1 := by omega
  have hb4 : ¬ (c = i) := by omega
  have hcp1 : ∀ ty dc sc, (Builtin.copy_ #[76, 76] ty #[.slice (some ⟨b, i + 1, none⟩) (n - i) dc, .slice (some ⟨b, i, none⟩) (n + 1 - i) sc]).run Tryz.prog w.drew = .ok (goInt (cs.drop i).length) (w.drew.setCells b (i + 1) (cs.drop i)) := fun ty dc sc =>
    run_copy_cells w.drew _ _ ty 133 b (i + 1) (n - i) dc ⟨b, i, none⟩ (n + 1 - i) sc (cs.drop i) Tryz.underlying76 hsz (by rw [hdl]; simp only [Nat.min_def]; split <;> omega)
      (fun j v hj => by rw [Addr.add_lit]; exact hcsx (i + j) v (by rwa [List.getElem?_drop] at hj))
      (fun j hj => hcell _ (by omega)) (fun j hj => hB.free _) (fun v hv => h1c v (List.mem_of_mem_drop hv))
  obtain ⟨W1, hW1⟩ : ∃ W1, W1 = w.drew.setCells b (i + 1) (cs.drop i) := ⟨_, rfl⟩
  have hW1b := Blk.setCells (cs.drop i) hB.drew (i + 1) (by omega)
  rw [← hW1] at hW1b
  have hW1v : Blk W1 vb [p] 133 := by
    rw [hW1]
    exact hV.touch (Touch.setCells (S := fun k => k = b) _ _ ((Touch.refl _ w).drew) (Or.inl rfl)) hvb
  have hcp2 : ∀ (W : World), (∀ x, W.cell? x = W1.cell? x) → (∀ x, W.frozen? x = W1.frozen? x) → ∀ ty dc, (Builtin.copy_ #[76, 76] ty #[.slice (some ⟨b, i, none⟩) (n + 1 - i) dc, .slice (some ⟨vb, 0, none⟩) 1 1]).run Tryz.prog W = .ok (goInt [p].length) (W.setCells b i [p]) := fun W hWc hWf ty dc =>
    run_copy_cells W _ _ ty 133 b i (n + 1 - i) dc ⟨vb, 0, none⟩ 1 1 [p] Tryz.underlying76 hsz (by simp only [Nat.min_def, List.length_cons, List.length_nil]; split <;> omega)
      (fun j v hj => by
        rw [Addr.add_lit, hWc, Nat.zero_add, hW1v.cell]
        exact hj)
      (fun j hj => by
        rw [hWc, hW1b.cell, List.getElem?_eq_getElem (by simp at hj; simp [List.length_append, List.length_take, List.length_drop]; omega)]; rfl) (fun j hj => by rw [hWf]; exact hW1b.free _) (by simpa using h1v)
  rw [← hW1] at hcp1
  go_enter Tryz.func209, Tryz.ntmps209
  go_wp2_with (simp only [hov])
  go_region_law ((refine step_copy_runI rfl _ _ 76 76 rfl _ _ (by simp [Act.eval, Act.put]) (by simp [Act.eval, Act.put]) (hcp1 _ _ _) ?_))
  go_wp2_with (at_builtin; refine wpList_copy_runI _ rfl _ _ 76 76 rfl _ _ rfl rfl (hcp2 _ (fun _ => rfl) (fun _ => rfl) _ _) ?_)
  go_ret
  first | exact ⟨rfl, rfl⟩ | exact ⟨rfl, by rw [hW1]⟩

set_option maxRecDepth 100000 in
set_option maxHeartbeats 4000000 in
theorem insert_grow (b n c i vb : Nat) (cs : List Value) (p : Value) (w : World) (hi : i < n) (hnc : n ≤ c) (hroom : c < n + 1) (hbig : (n + 1) * 8 ≤ 140737488355328) (hvb : vb ≠ b)
    (hcl : cs.length = n) (cur : List Value) (hB : Blk w b cur 133) (hcc : cur.length = c) (hcs : cur.take n = cs) (hV : Blk w vb [p] 133) (h1c : ∀ v ∈ cs, v.oneCell' = true) (h1v : p.oneCell' = true) :
    Calls Tryz.prog 209 #[.slice (some ⟨b, 0, none⟩) n c, .int .i64 i, .slice (some ⟨vb, 0, none⟩) 1 1] w fun e w' =>
      ∃ G ROW, G = grownCap w (n + 1) c 133 ∧ ROW = (cs.take i).toArray ++ Builtin.zeroCells (Value.pointer none).cells (n + 1 - i) ++ Builtin.zeroCells (Value.pointer none).cells (G - (n + 1)) ∧ e = .returned (.slice (some ⟨w.heap.size, 0, none⟩) (n + 1) G) ∧
      w' = (((w.alloc (.cells ROW 133)).drew.setCells w.heap.size i [p]).drew).setCells w.heap.size (i + 1) (cs.drop i) := by
  obtain ⟨i0, hi0, hz0, hzs, hzb⟩ := info_parts info_fptr
  have hz2 : ¬ ((i : Int) = (n : Int)) := by omega
  have hz3 : (c : Int) < (n : Int) + 1 := by omega
  have hsz : (Tryz.prog.info? 133).map (·.size) = some 1 := by rw [hi0]; simp [hzs]
  have hbw := hB.lt
  have hvw := hV.lt
  have hcsx : ∀ j v, cs[j]? = some v → w.cell? ⟨b, j, none⟩ = some v := fun j v hj => by
    rw [← hcs, List.getElem?_take] at hj
    split at hj
    · rw [hB.cell]; exact hj
    · cases hj
  have hkk : (n : Int) + 1 - (i : Int) = ((n + 1 - i : Nat) : Int) := by omega
  have hik : i + (n + 1 - i) = n + 1 := by omega
  have hold : (Builtin.firstCells i0.size i (.slice (some ⟨b, 0, none⟩) i c)).run Tryz.prog w.drew = .ok (cs.take i).toArray w.drew := by
    rw [hzs]
    exact run_firstCells_some w.drew 1 i ⟨b, 0, none⟩ i c (cs.take i) (by rw [List.length_take]; omega) (fun j v hj => by
      rw [Addr.add_lit, Nat.zero_add]
      rw [List.getElem?_take] at hj
      split at hj
      · exact hcsx j v hj
      · cases hj)
  have hrz : ∀ ty, (Builtin.append_ #[76, 3] ty #[.slice (some ⟨b, 0, none⟩) i c, .int .i64 ((n : Int) + 1 - (i : Int))]).run Tryz.prog w =
      .ok (.slice (some ⟨w.heap.size, 0, none⟩) (n + 1) (grownCap w (n + 1) c 133)) (w.drew.alloc (.cells ((cs.take i).toArray ++ Builtin.zeroCells (Value.pointer none).cells (n + 1 - i) ++ Builtin.zeroCells (Value.pointer none).cells (grownCap w (n + 1) c 133 - (n + 1))) 133)) := fun ty => by
    have h := Lib.run_append_grow_zeros w 76 3 ty 133 i0 _ .i64 .i64 Tryz.underlying76 Tryz.underlying3 hi0 hz0 (some ⟨b, 0, none⟩) i c (cs.take i) hold (n + 1 - i) (by omega) (by omega) (by omega) (by omega) (by rw [hzb]; omega) (by rw [hzb, hik]; exact growslice_fits hroom hbig)
    rw [hik] at h
    rw [hkk]
    exact h
  obtain ⟨G, hG⟩ : ∃ G, G = grownCap w (n + 1) c 133 := ⟨_, rfl⟩
  obtain ⟨ROW, hROW⟩ : ∃ ROW : Array Value, ROW = (cs.take i).toArray ++ Builtin.zeroCells (Value.pointer none).cells (n + 1 - i) ++ Builtin.zeroCells (Value.pointer none).cells (G - (n + 1)) := ⟨_, rfl⟩
  refine Calls.mono (R := fun e w' => e = .returned (.slice (some ⟨w.heap.size, 0, none⟩) (n + 1) G) ∧ w' = (((w.alloc (.cells ROW 133)).drew.setCells w.heap.size i [p]).drew).setCells w.heap.size (i + 1) (cs.drop i)) ?_ (fun e w' h => ⟨G, ROW, hG, hROW, h.1, h.2⟩)
  rw [← hG] at hrz
  rw [← hROW] at hrz
  have hRl : n + 1 ≤ ROW.size := by
    rw [hROW]
    simp [Builtin.zeroCells, Value.cells]
    omega
  obtain ⟨W1, hW1⟩ : ∃ W1, W1 = w.drew.alloc (.cells ROW 133) := ⟨_, rfl⟩
  rw [← hW1] at hrz
  have hN : ∀ j, j < n + 1 → (W1.cell? ⟨w.heap.size, j, none⟩).isSome = true := fun j hj => by
    rw [hW1, World.cell?_alloc_at (w := w.drew) ROW _ w.heap.size j rfl, Array.getElem?_eq_getElem (by omega)]; rfl
  have hNf : ∀ j, W1.frozen? ⟨w.heap.size, j, none⟩ = false := fun j => by rw [hW1]; exact World.frozen?_alloc_at (w := w.drew) ROW _ w.heap.size j rfl
  have hOb : ∀ j v, w.cell? ⟨b, j, none⟩ = some v → W1.cell? ⟨b, j, none⟩ = some v := fun j v h => by rw [hW1, World.cell?_alloc_past (w := w.drew) _ b j hbw]; exact h
  have hOv : ∀ j v, w.cell? ⟨vb, j, none⟩ = some v → W1.cell? ⟨vb, j, none⟩ = some v := fun j v h => by rw [hW1, World.cell?_alloc_past (w := w.drew) _ vb j hvw]; exact h
  have hcpA : ∀ (W : World), (∀ x, W.cell? x = W1.cell? x) → (∀ x, W.frozen? x = W1.frozen? x) → ∀ ty dc, (Builtin.copy_ #[76, 76] ty #[.slice (some ⟨w.heap.size, i, none⟩) (n + 1 - i) dc, .slice (some ⟨vb, 0, none⟩) 1 1]).run Tryz.prog W = .ok (goInt [p].length) (W.setCells w.heap.size i [p]) := fun W hWc hWf ty dc =>
    run_copy_cells W _ _ ty 133 w.heap.size i (n + 1 - i) dc ⟨vb, 0, none⟩ 1 1 [p] Tryz.underlying76 hsz (by simp only [Nat.min_def, List.length_cons, List.length_nil]; split <;> omega)
      (fun j v hj => by rw [Addr.add_lit, hWc, Nat.zero_add]; exact hOv _ v (by rw [hV.cell]; exact hj))
      (fun j hj => by rw [hWc]; exact hN _ (by simp at hj; omega)) (fun j hj => by rw [hWf]; exact hNf _) (by simpa using h1v)
  have hGn : n + 1 ≤ G := by rw [hG]; exact grownCap_ge w _ _ _
  have hG63 : G ≤ 9223372036854775807 := by
    have := grownCap_le_maxLen w (n + 1) c 133 (by unfold maxLen; omega)
    rw [← hG] at this
    unfold maxLen at this
    omega
  have hGi : ¬ (G = i) := by omega
  have hGim : ¬ (G = i + 1) := by omega
  have hci : ¬ (c = i) := by omega
  have hbN : b ≠ w.heap.size := by omega
  have hdl : (cs.drop i).length = n - i := by rw [List.length_drop, hcl]
  have hcpB : ∀ (W : World), (∀ x, W.cell? x = (W1.setCells w.heap.size i [p]).cell? x) → (∀ x, W.frozen? x = (W1.setCells w.heap.size i [p]).frozen? x) → ∀ ty dc sc, (Builtin.copy_ #[76, 76] ty #[.slice (some ⟨w.heap.size, i + 1, none⟩) (n - i) dc, .slice (some ⟨b, i, none⟩) (n - i) sc]).run Tryz.prog W = .ok (goInt (cs.drop i).length) (W.setCells w.heap.size (i + 1) (cs.drop i)) := fun W hWc hWf ty dc sc =>
    run_copy_cells W _ _ ty 133 w.heap.size (i + 1) (n - i) dc ⟨b, i, none⟩ (n - i) sc (cs.drop i) Tryz.underlying76 hsz (by rw [hdl]; simp only [Nat.min_def]; split <;> omega)
      (fun j v hj => by
        rw [Addr.add_lit, hWc, World.cell?_setCells_out _ _ _ _ _ (fun h _ => absurd h hbN)]
        exact hOb _ v (hcsx (i + j) v (by rwa [List.getElem?_drop] at hj)))
      (fun j hj => by rw [hWc]; exact isSome_setCells _ _ _ _ (fun t ht => hN _ (by simp at ht; omega)) _ (hN _ (by omega)))
      (fun j hj => by rw [hWf, World.frozen?_setCells]; exact hNf _) (fun v hv => h1c v (List.mem_of_mem_drop hv))
  subst hW1
  have hE1 : ∀ x, ((w.alloc (.cells ROW 133)).drew).cell? x = (w.drew.alloc (.cells ROW 133)).cell? x := fun x => rfl
  have hE2 : ∀ x, ((w.alloc (.cells ROW 133)).drew).frozen? x = (w.drew.alloc (.cells ROW 133)).frozen? x := fun x => rfl
  have hF1 : ∀ x, (((w.alloc (.cells ROW 133)).drew.setCells w.heap.size i [p]).drew).cell? x = ((w.drew.alloc (.cells ROW 133)).setCells w.heap.size i [p]).cell? x := fun x => rfl
  have hF2 : ∀ x, (((w.alloc (.cells ROW 133)).drew.setCells w.heap.size i [p]).drew).frozen? x = ((w.drew.alloc (.cells ROW 133)).setCells w.heap.size i [p]).frozen? x := fun x => rfl
  have hw1 : IntKind.i64.wrap ((i : Int) + 1) = (i : Int) + 1 := by rw [IntKind.wrap_i64]; omega
  have hb1 : (0 : Int) ≤ (i : Int) + 1 := by omega
  have hin : i ≤ n := by omega
  have htn : ((i : Int) + 1).toNat = i + 1 := by omega
  have hb3 : (i : Int) ≤ (n : Int) := by omega
  clear hkk hik hold hROW hG hRl hB hV hcs hi0 hz0 hzs hzb
  go_enter Tryz.func209, Tryz.ntmps209
  go_wp2_with (first
    | (at_builtin; refine Lib.wpList_append_run _ rfl _ _ _ _ rfl _ _ rfl rfl _ _ (hrz _) ?_)
    | (at_builtin; refine wpList_copy_runI _ rfl _ _ 76 76 rfl _ _ rfl rfl (hcpA _ hE1 hE2 _ _) ?_))
  go_region_law ((refine step_copy_runI rfl _ _ 76 76 rfl (.slice (some ⟨w.heap.size, i + 1, none⟩) (n - i) (G - (i + 1))) (.slice (some ⟨b, i, none⟩) (n - i) (c - i)) (by simp [Act.eval, Act.put]) (by simp [Act.eval, Act.put]) (hcpB _ hF1 hF2 3 (G - (i + 1)) (c - i)) ?_))
  go_wp2
  go_ret
  exact ⟨rfl, rfl⟩

set_option maxRecDepth 100000 in
set_option maxHeartbeats 4000000 in
theorem insert_end (v : Value) (n : Nat) (xs : List Value) (vb : Nat) (p : Value) (w : World) (hown : w.ownsRow 0 133 1 v n xs) (hV : Blk w vb [p] 133) (hn : n ≤ 1000000000) (h1v : p.oneCell' = true) :
    Calls Tryz.prog 209 #[v, .int .i64 n, .slice (some ⟨vb, 0, none⟩) 1 1] w fun e w' =>
      ∃ v', e = .returned v' ∧ w'.ownsRow 0 133 1 v' (n + 1) (xs ++ [p]) ∧ Touch (fun k => v.ownBlock = some k) w w' ∧ (v'.ownBlock = v.ownBlock ∨ v'.ownBlock = some w.heap.size) := by
  obtain ⟨i0, hi0, hz0, hzs, hzb⟩ := info_parts info_fptr
  obtain ⟨ad, cap, rfl⟩ := row_shape hown
  have hcap : n ≤ cap := by
    rcases hown.2 with ⟨h1, h2⟩ | ⟨g, cap', cur, h1, _, _, h2, _⟩
    · omega
    · injection h1 with _ _ h3; subst h3; exact h2
  have hnews : ∀ j u, [p][j]? = some u → w.cell? ((⟨vb, 0, none⟩ : Addr).add j) = some u := fun j u hj => by
    rw [addr_add, hV.cell]; exact hj
  have Hown := Lib.hid hown
  cases ad with
  | none =>
    obtain rfl : n = 0 := by
      rcases hown.2 with ⟨h1, h2⟩ | ⟨g, cap', cur, h1, _⟩
      · exact h2
      · cases h1
    clear hown hV
    go_enter Tryz.func209, Tryz.ntmps209
    go_wp2_with (at_builtin; refine wpList_append_own_at _ rfl _ _ 76 rfl 0 133 i0 _ 1 8 Tryz.underlying76 hi0 hz0 hzs hzb rfl (by decide) _ _ _ rfl Hown.out ⟨vb, 0, none⟩ 1 1 [p] rfl rfl hnews (by simpa using h1v) (by decide) (by decide) (Nat.zero_le _) ?_; intro v' w' hown' hgrow _ hat)
    go_ret
    exact ⟨v', rfl, hown', touch_grown (Touch.refl _ w) hgrow (fun g hg => Or.inl hg), hat⟩
  | some a =>
    obtain ⟨ab, ao, asp⟩ := a
    clear hown hV
    go_enter Tryz.func209, Tryz.ntmps209
    go_wp2_with (at_builtin; refine wpList_append_own_at _ rfl _ _ 76 rfl 0 133 i0 _ 1 8 Tryz.underlying76 hi0 hz0 hzs hzb rfl (by decide) _ _ _ rfl Hown.out ⟨vb, 0, none⟩ 1 1 [p] rfl rfl hnews (by simpa using h1v) (by unfold maxLen; omega) (by omega) (Nat.zero_le _) ?_; intro v' w' hown' hgrow _ hat)
    all_goals (go_ret; exact ⟨v', rfl, hown', touch_grown (Touch.refl _ w) hgrow (fun g hg => Or.inl hg), hat⟩)

theorem insert_any (v : Value) (n i : Nat) (xs : List Value) (vb : Nat) (p : Value) (w : World) (hown : w.ownsRow 0 133 1 v n xs) (hV : Blk w vb [p] 133) (hne : v.ownBlock ≠ some vb) (hi : i ≤ n) (hn : n ≤ 1000000000) (h1x : ∀ u ∈ xs, u.oneCell' = true) (h1v : p.oneCell' = true) :
    Calls Tryz.prog 209 #[v, .int .i64 i, .slice (some ⟨vb, 0, none⟩) 1 1] w fun e w' =>
      ∃ v', e = .returned v' ∧ w'.ownsRow 0 133 1 v' (n + 1) (xs.take i ++ p :: xs.drop i) ∧ Touch (fun k => v.ownBlock = some k) w w' ∧ (v'.ownBlock = v.ownBlock ∨ v'.ownBlock = some w.heap.size) := by
  have hxl : xs.length = n := by rw [hown.1, Nat.mul_one]
  by_cases hin : i = n
  · subst hin
    have e : xs.take i ++ p :: xs.drop i = xs ++ [p] := by
      rw [List.take_of_length_le (by omega), List.drop_eq_nil_of_le (by omega)]
    rw [e]
    exact insert_end v i xs vb p w hown hV hn h1v
  · have hin2 : i < n := by omega
    rcases hown.2 with ⟨rfl, rfl⟩ | ⟨g, cap, cur, rfl, _, hb, hnc, hc, hs, ht⟩
    · omega
    · have hB : Blk w g cur.toList 133 := by unfold Blk; rw [hb]
      rw [Nat.mul_one] at hs ht
      have hvg : vb ≠ g := fun e => hne (by rw [e]; rfl)
      have hc2 : cap ≤ 9223372036854775807 := by unfold maxLen at hc; exact hc
      have hcl : cur.toList.length = cap := by simpa using hs
      obtain ⟨A, b0, B, hxs, hA⟩ : ∃ A b0 B, xs = A ++ b0 :: B ∧ A.length = i :=
        ⟨xs.take i, xs[i], xs.drop (i + 1), by rw [List.getElem_cons_drop, List.take_append_drop], by rw [List.length_take]; omega⟩
      have hBl : A.length + B.length + 1 = n := by rw [hxs] at hxl; simp at hxl; omega
      have etd : xs.take i = A ∧ xs.drop i = b0 :: B := by
        subst hA
        rw [hxs]
        exact ⟨List.take_left' rfl, List.drop_left' rfl⟩
      by_cases hroom : n + 1 ≤ cap
      · obtain ⟨c0, R, hcur⟩ : ∃ c0 R, cur.toList = A ++ b0 :: B ++ c0 :: R := by
          refine ⟨cur.toList[n]'(by omega), cur.toList.drop (n + 1), ?_⟩
          rw [List.getElem_cons_drop, ← hxs, ← ht, List.take_append_drop]
        refine (insert_shift g n cap i vb xs p w hin2 hroom hc2 hvg hxl cur.toList hB hcl ht hV h1x h1v).mono ?_
        rintro e w' ⟨rfl, rfl⟩
        have h1 := Blk.setCells (xs.drop i) hB.drew (i + 1) (by rw [List.length_drop]; omega)
        have h2 := Blk.setCells [p] h1 i (by simp [List.length_append, List.length_take, List.length_drop]; omega)
        rw [etd.2, hcur] at h2
        have h3 := splice_room (A := A) (B := B) (R := R) (p := p) (c0 := c0) (b0 := b0)
        simp only [hA] at h3
        have h4 : Blk ((w.drew.setCells g (i + 1) (xs.drop i)).setCells g i [p]) g (A ++ p :: b0 :: B ++ R) 133 := by
          rw [etd.2]
          rw [← h3]
          exact h2
        refine ⟨_, rfl, ⟨?_, Or.inr ⟨g, cap, (A ++ p :: b0 :: B ++ R).toArray, rfl, Nat.zero_le _, h4, hroom, hc, ?_, ?_⟩⟩, ?_, Or.inl rfl⟩
        · simp [etd.1, etd.2, hA]; omega
        · have := congrArg List.length hcur
          simp at this
          simp
          omega
        · rw [etd.1, etd.2, Nat.mul_one]
          show List.take (n + 1) (A ++ p :: b0 :: B ++ R) = _
          rw [List.take_left' (by simp; omega)]
        · exact Touch.setCells _ _ (Touch.setCells _ _ ((Touch.refl _ w).drew) (Or.inl rfl)) (Or.inl rfl)
      · obtain rfl : cap = n := by omega
        refine (insert_grow g cap cap i vb xs p w hin2 (Nat.le_refl _) (by omega) (by omega) hvg hxl cur.toList hB hcl ht hV h1x h1v).mono ?_
        rintro e w' ⟨G, ROW, hG, hROW, rfl, rfl⟩
        have hGn : cap + 1 ≤ G := by rw [hG]; exact grownCap_ge w _ _ _
        have hGm : G ≤ maxLen := by rw [hG]; exact grownCap_le_maxLen w _ _ _ (by unfold maxLen; omega)
        obtain ⟨z0, Z, hRow, hZ⟩ : ∃ z0 Z, ROW.toList = A ++ z0 :: Z ∧ Z.length = G - i - 1 := by
          have h1 : ROW.toList = A ++ (Builtin.zeroCells (Value.pointer none).cells (cap + 1 - i) ++ Builtin.zeroCells (Value.pointer none).cells (G - (cap + 1))).toList := by
            rw [hROW, etd.1]; simp
          obtain ⟨Y, hY⟩ : ∃ Y, Y = (Builtin.zeroCells (Value.pointer none).cells (cap + 1 - i) ++ Builtin.zeroCells (Value.pointer none).cells (G - (cap + 1))).toList := ⟨_, rfl⟩
          have hYl : Y.length = G - i := by
            rw [hY]; simp [Builtin.zeroCells, Value.cells]; omega
          rw [← hY] at h1
          match Y, hYl with
          | [], hl => simp at hl; omega
          | y :: Y', hl => exact ⟨y, Y', h1, by simp at hl; omega⟩
        have h0 : Blk ((w.alloc (.cells ROW 133)).drew) w.heap.size (A ++ z0 :: Z) 133 := by
          rw [← hRow]
          have := Blk.new w ROW.toList 133
          rw [Array.toArray_toList] at this
          exact this
        have h1 := Blk.setCells [p] h0 i (by simp; omega)
        have e1 : (A ++ z0 :: Z).take i ++ [p] ++ (A ++ z0 :: Z).drop (i + [p].length) = (A ++ [p]) ++ Z := by
          subst hA
          simp [List.drop_append]
        rw [e1] at h1
        have h2 := Blk.setCells (b0 :: B) h1.drew (i + 1) (by simp; omega)
        have e2 : ((A ++ [p]) ++ Z).take (i + 1) ++ (b0 :: B) ++ ((A ++ [p]) ++ Z).drop (i + 1 + (b0 :: B).length) = (A ++ p :: b0 :: B) ++ Z.drop (B.length + 1) := by
          have hl : (A ++ [p]).length = i + 1 := by simp [hA]
          rw [List.take_left' hl, List.drop_append, List.drop_eq_nil_of_le (by simp; omega), hl]
          rw [show i + 1 + (b0 :: B).length - (i + 1) = B.length + 1 by simp]
          simp
        rw [e2] at h2
        refine ⟨_, rfl, ⟨?_, Or.inr ⟨w.heap.size, G, ((A ++ p :: b0 :: B) ++ Z.drop (B.length + 1)).toArray, rfl, Nat.zero_le _, ?_, hGn, hGm, ?_, ?_⟩⟩, ?_, Or.inr rfl⟩
        · rw [etd.1, etd.2]; simp; omega
        · rw [etd.2]; exact h2
        · simp; omega
        · rw [etd.1, etd.2, Nat.mul_one]
          show List.take (cap + 1) ((A ++ p :: b0 :: B) ++ Z.drop (B.length + 1)) = _
          rw [List.take_left' (by simp; omega)]
        · refine Touch.setCells _ _ (Touch.drew (Touch.setCells _ _ (((Touch.refl _ w).alloc _).drew) (Or.inr (Nat.le_refl _)))) (Or.inr (Nat.le_refl _))
end
end Go.Proofs.YtaeklleogniimaaGreatDoor
