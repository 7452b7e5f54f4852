/- The walks of a coordinator's to, prepare, and of Tick while it prepares and no call is there; the chapter's example. No condition. -/
import Derived.Test.YtmmnaieikfekfaaGreatDoorCoord
import Derived.RegionTactic
import Derived.ChangeAlike
namespace Go.Proofs.YtmmnaieikfekfaaGreatDoor
open Go.RowKit

def msgArr (kind id v ballot : Int) : Array Value := #[.int .i64 kind, .int .i64 id, .int .i64 v, .int .i64 ballot, .int .i64 0, .int .i64 0, .int .i64 0, .int .i64 0, .int .i64 0, .string ⟨#[]⟩, .int .i64 0, .int .i64 0, .string ⟨#[]⟩, .slice none 0 0]
theorem info_msg : (Tryz.prog.info? 61).map (fun i => (i.zero, i.size, i.bytes)) = some (some (.agg (msgArr 0 0 0 0)), 14, 144) := by kernel_rfl

set_option maxRecDepth 100000 in
set_option maxHeartbeats 2000000 in
theorem to_any (b : Nat) (c : CSt) (v kind : Int) (w : World) (h : CoordAt w b c) :
    Calls Tryz.prog 65 #[.pointer (some ⟨b, 0, none⟩), .int .i64 v, .int .i64 kind] w fun e w' => e = .returned (.agg (msgArr kind c.id v c.ballot)) ∧ Below w.heap.size w w' := by
  have hb := h.1.lt
  have h0 : w.cell? ⟨b, 0, none⟩ = some (.int .i64 c.id) := h.hd 0 (by omega)
  have h3 : w.cell? ⟨b, 3, none⟩ = some (.int .i64 c.ballot) := h.hd 3 (by omega)
  clear h
  go_enter Tryz.func65, Tryz.ntmps65
  go_wp2
  go_region
  all_goals
    go_wp2_with fail
    refine bodyPost_ret (v := .agg (msgArr kind c.id v c.ballot)) (by simp [msgArr, results, Tryz.results65, go_sem]) rfl ⟨rfl, ?_⟩
    exact ((Below.refl _ _).alloc (Nat.le_refl _) _).drew

theorem CoordAt.below {w w' : World} {b : Nat} {c : CSt} (h : CoordAt w b c) (hb : Below w.heap.size w w') : CoordAt w' b c := ⟨h.1.below hb, h.2⟩
theorem tallyAt_below {w w' : World} {b o : Nat} {m : List Bool} (h : TallyAt w b o m) (hb : Below w.heap.size w w') : TallyAt w' b o m := ⟨h.1.below hb, h.2⟩
/-- those who have not said it -/
def lackers (m : List Bool) (k : Nat) : List Nat := (List.range k).filter fun i => !(m.getD i false)
theorem lackers_snoc (m : List Bool) (k : Nat) : lackers m (k + 1) = lackers m k ++ if m.getD k false = true then [] else [k] := by
  unfold lackers
  rw [List.range_succ, List.filter_append]
  congr 1
  cases h : m.getD k false <;> rw [List.filter_cons] <;> simp only [h] <;> rfl
theorem lackers_le (m : List Bool) (k : Nat) : (lackers m k).length ≤ k := by
  unfold lackers
  have := List.length_filter_le (fun i => !(m.getD i false)) (List.range k)
  rw [List.length_range] at this
  exact this
def askVals (c : CSt) (l : List Nat) : List Value := l.flatMap fun v : Nat => (msgArr 1 c.id (v : Int) c.ballot).toList
theorem askVals_snoc (c : CSt) (l : List Nat) (k : Nat) : askVals c (l ++ [k]) = askVals c l ++ (msgArr 1 c.id (k : Int) c.ballot).toList := by simp [askVals]
theorem has_in (b o : Nat) (m : List Bool) (k : Nat) (w : World) (h : TallyAt w b o m) (hk : k < o) :
    Calls Tryz.prog 64 #[.pointer (some ⟨b, 0, none⟩), .int .i64 (k : Int)] w fun e w' => e = .returned (.bool (m.getD k false)) ∧ w = w' := by
  refine (has_any b o m k w h).mono ?_
  rintro e w' ⟨he, hw⟩
  have e1 : (decide ((0 : Int) ≤ (k : Int)) && decide ((k : Int) < (o : Int)) && m.getD (k : Int).toNat false) = m.getD k false := by simp; omega
  rw [e1] at he
  exact ⟨he, hw⟩

set_option maxRecDepth 100000 in
set_option maxHeartbeats 2000000 in
theorem prepare_any (b t : Nat) (c : CSt) (m : List Bool) (n : Nat) (w : World) (h : CoordAt w b c) (hn : c.n = (n : Int)) (hn9 : n ≤ 9) (hp : c.promised = .pointer (some ⟨t, 0, none⟩)) (ht : TallyAt w t n m) :
    Calls Tryz.prog 39 #[.pointer (some ⟨b, 0, none⟩)] w fun e w' => ∃ v, e = .returned v ∧ w'.ownsRow w.heap.size 61 14 v (lackers m n).length (askVals c (lackers m n)) ∧ Below w.heap.size w w' := by
  have h1 : w.cell? ⟨b, 1, none⟩ = some (.int .i64 (n : Int)) := by rw [← hn]; exact h.hd 1 (by omega)
  have h9 : w.cell? ⟨b, 9, none⟩ = some (.pointer (some ⟨t, 0, none⟩)) := by rw [← hp]; exact h.hd 9 (by omega)
  have hbl := h.1.lt
  have H9 := Lib.hid h9
  have H := Lib.hid h
  have Ht := Lib.hid ht
  clear h h9 hn hp ht
  go_enter Tryz.func39, Tryz.ntmps39
  go_wp2
  go_loopw [3, 9] (fun v i wr => ∃ k : Nat, i = .int .i64 k ∧ k ≤ n ∧ Hid (wr.ownsRow w.heap.size 61 14 v (lackers m k).length (askVals c (lackers m k))) ∧ Below w.heap.size w wr) (fun _ i _ => n - (intOf i).toNat)
  case atStart => exact ⟨0, rfl, Nat.zero_le _, Lib.hid (World.ownsRow_nil _ _ _ _), Below.refl _ _⟩
  case round =>
    obtain ⟨k, rfl, hk, hown, hbr⟩ := hrel
    by_cases hlt : k < n
    · have h9 := (hbr.cell (p := ⟨b, 9, none⟩) hbl).trans H9.out
      have Htr := Lib.hid (tallyAt_below Ht.out hbr)
      have Hcr := Lib.hid (H.out.below hbr)
      have hsn := lackers_snoc m k
      have hlk := lackers_le m k
      go_wp2_with fail
      refine (has_in t n m k _ Htr.out hlt).mono ?_
      rintro e wx ⟨rfl, rfl⟩
      cases hm : m.getD k false with
      | true =>
        rw [hm, if_pos rfl, List.append_nil] at hsn
        have Hown : Hid (wr.ownsRow w.heap.size 61 14 u3 (lackers m (k + 1)).length (askVals c (lackers m (k + 1)))) := by rw [hsn]; exact hown
        clear hsn hm
        go_wp2_with fail
        go_roundw
        case rel => exact ⟨k + 1, by go_num, by omega, Hown, hbr⟩
        case measure => simp [intOf]; omega
      | false =>
        rw [hm, if_neg (by simp)] at hsn
        have Hsn := Lib.hid hsn
        clear hsn hm
        go_wp2_with fail
        refine (to_any b c k 1 _ Hcr.out).mono ?_
        rintro e w1 ⟨rfl, hb1⟩
        simp only [msgArr]
        have hown1 := ownsRow_below hown.out hb1
        have hbr1 := below_step hbr hb1
        clear hown hb1
        go_wp2_with (at_builtin; refine append_at rfl _ _ 46 rfl w.heap.size 61 14 144 Tryz.underlying46 _ info_msg rfl (by decide) _ _ _ rfl hown1 _ rfl [.int .i64 1, .int .i64 c.id, .int .i64 (k : Int), .int .i64 c.ballot, .int .i64 0, .int .i64 0, .int .i64 0, .int .i64 0, .int .i64 0, .string ⟨#[]⟩, .int .i64 0, .int .i64 0, .string ⟨#[]⟩, .slice none 0 0] rfl rfl (by simp [Value.oneCell']) ?c1 ?c2 ?c3 ?_)
        case c1 => unfold maxLen; omega
        case c2 => omega
        case c3 => exact hbr1.size
        intro v' w3 hown3 hb3
        have Hown3 : Hid (w3.ownsRow w.heap.size 61 14 v' (lackers m (k + 1)).length (askVals c (lackers m (k + 1)))) := by
          show w3.ownsRow w.heap.size 61 14 v' (lackers m (k + 1)).length _
          rw [Hsn.out, askVals_snoc, List.length_append]
          exact hown3
        clear hown3 hown1
        go_wp2
        go_roundw
        case rel => exact ⟨k + 1, by go_num, by omega, Hown3, hbr1.trans hb3⟩
        case measure => simp [intOf]; omega
    · obtain rfl : k = n := by omega
      go_wp2
      go_ret
      exact ⟨_, rfl, hown.out, hbr⟩

theorem noCall_tick (b t : Nat) (c : CSt) (m : List Bool) (n : Nat) (w : World) (h : CoordAt w b c) (hn : c.n = (n : Int)) (hn1 : 1 ≤ n) (hn9 : n ≤ 9) (hp : c.promised = .pointer (some ⟨t, 0, none⟩)) (ht : TallyAt w t n m) (hph : c.phase = 1) (hc : c.call = .pointer none) :
    Calls Tryz.prog 24 #[.pointer (some ⟨b, 0, none⟩)] w fun e w' => ∃ v, e = .returned v ∧ w'.ownsRow w.heap.size 61 14 v (lackers m n).length (askVals c (lackers m n)) ∧ Below w.heap.size w w' := by
  have h4 : w.cell? ⟨b, 4, none⟩ = some (.int .i64 1) := by rw [← hph]; exact h.hd 4 (by omega)
  have h86 : w.cell? ⟨b, 86, none⟩ = some (.pointer none) := by have := h.ft 2; rw [← hc]; exact this
  have H := Lib.hid h
  have Hn := Lib.hid hn
  have Hp := Lib.hid hp
  have Ht := Lib.hid ht
  clear h hn hp ht hph hc
  go_enter Tryz.func24, Tryz.ntmps24
  go_wp2_with fail
  refine (none_any b c _ H.out (by have := Hn.out; omega)).mono ?_
  rintro e wx ⟨rfl, rfl⟩
  go_wp2_with fail
  refine (prepare_any b t c m n _ H.out Hn.out hn9 Hp.out Ht.out).mono ?_
  rintro e w1 ⟨v, rfl, hown, hb⟩
  go_wp2_with fail
  go_ret
  exact ⟨_, rfl, hown, hb⟩
theorem tick_nil (w : World) :
    Calls Tryz.prog 24 #[.pointer none] w fun e w' => e = .returned (.slice none 0 0) ∧ w = w' := by
  go_enter Tryz.func24, Tryz.ntmps24
  go_wp2_with (go_at_call 32; refine (none_nil _).mono ?_; rintro e w' ⟨rfl, rfl⟩)
  go_ret
  exact ⟨rfl, rfl⟩

theorem askVals_at (c : CSt) (l : List Nat) (k : Nat) (hk : k < l.length) (j : Nat) (hj : j < 14) : (askVals c l)[k * 14 + j]? = (msgArr 1 c.id ((l[k] : Nat) : Int) c.ballot).toList[j]? := by
  induction l generalizing k with
  | nil => simp at hk
  | cons x l ih =>
    have e : askVals c (x :: l) = (msgArr 1 c.id ((x : Nat) : Int) c.ballot).toList ++ askVals c l := rfl
    have hl : (msgArr 1 c.id ((x : Nat) : Int) c.ballot).toList.length = 14 := rfl
    rw [e]
    cases k with
    | zero => rw [List.getElem?_append_left (by omega)]; simp
    | succ k =>
      rw [List.getElem?_append_right (by omega), hl, show (k + 1) * 14 + j - 14 = k * 14 + j by omega]
      exact ih k (by simpa using hk)

set_option maxRecDepth 100000 in
set_option maxHeartbeats 2000000 in
theorem awake_any (w : World) : Calls Tryz.prog 15 #[] w fun e w' => e = .returned (.bool true) ∧ Below w.heap.size w w' := by
  go_enter Tryz.func15, Tryz.ntmps15
  go_wp2_with fail
  refine (ideal_any w).mono ?_
  rintro e w1 ⟨bk, mp, rfl, _, _, hbk, _, hb1⟩
  have Hbk := Lib.hid hbk
  clear hbk
  go_wp2_with fail
  refine (newCoord_any 1 3 1 bk mp _ (by unfold NewOk BalOk; omega) Hbk.out).mono ?_
  rintro e w2 ⟨c, t, rfl, _, _, hc, ht, hb2⟩
  have Hc := Lib.hid hc
  have Ht := Lib.hid ht
  have hb02 := below_step hb1 hb2
  clear hc ht hb1 hb2
  go_wp2_with fail
  refine (noCall_tick c t _ (List.replicate 9 false) 3 _ Hc.out rfl (by omega) (by omega) rfl Ht.out rfl rfl).mono ?_
  rintro e w3 ⟨v, rfl, hown, hb3⟩
  have hb03 := below_step hb02 hb3
  have hlk : lackers (List.replicate 9 false) 3 = [0, 1, 2] := by decide
  rw [hlk] at hown
  obtain ⟨g, cap, rfl, hg, hgl, _, _, hcell⟩ := row_some hown (by simp)
  have c0 : w3.cell? ⟨g, 0, none⟩ = some (.int .i64 1) := hcell 0 (by simp)
  have c3 : w3.cell? ⟨g, 3, none⟩ = some (.int .i64 5) := hcell 3 (by simp)
  have c30 : w3.cell? ⟨g, 30, none⟩ = some (.int .i64 2) := hcell 30 (by simp)
  have hl3 : [0, 1, 2].length = 3 := rfl
  rw [hl3]
  clear hown hcell hb3 hlk
  go_wp2_with fail
  go_ret
  exact ⟨rfl, hb03⟩
end Go.Proofs.YtmmnaieikfekfaaGreatDoor
