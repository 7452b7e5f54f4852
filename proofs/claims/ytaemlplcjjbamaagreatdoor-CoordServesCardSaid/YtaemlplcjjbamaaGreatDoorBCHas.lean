/- The walk of image.Of at a tree of few files. Conditions: at most 8 files, each of at most 2000 bytes. The walks of a coordinator's next: a backup is proposed, or nothing begins. Condition: nothing is being proposed again. The walk of the document's Has (layer 17) at any kind. Condition: the kind is one of the kinds. -/
import Derived.Test.YtaemlplcjjbamaaGreatDoorBTree3
import Derived.Test.YtaemlplcjjbamaaGreatDoorBDBytes
import Derived.Test.YtaemlplcjjbamaaGreatDoorBKn
import Derived.Test.YtaemlplcjjbamaaGreatDoorBReached
import Derived.Test.YtaemlplcjjbamaaGreatDoorBClone
import Derived.Test.YtaemlplcjjbamaaGreatDoorBCClean
namespace Go.Proofs.YtaemlplcjjbamaaGreatDoor
open Go Go.RowKit
set_option linter.unusedVariables false
def isB (B : Nat) (bs : List UInt8) (w : World) : Prop := Lib.IsBuilder 134 5 B B (Lib.byteCells bs) w
theorem byteCells_append (l r : List UInt8) : Lib.byteCells (l ++ r) = Lib.byteCells l ++ Lib.byteCells r := by simp [Lib.byteCells]
theorem write_any (B : Nat) (bs : List UInt8) (s : ByteArray) (w : World) (h : isB B bs w) (hlen : bs.length + s.size ≤ 1000000) (hBw : B ≤ w.heap.size) :
    Calls Tryz.prog 68 #[.pointer (some ⟨B, 0, none⟩), .string s] w fun e w' => e = .returned (.tuple #[.int .i64 s.size, .nilIface]) ∧ isB B (bs ++ s.data.toList) w' ∧ Below B w w' ∧ KeepB B w w' := by
  refine (writeString_keep B B _ s w h (by rw [Lib.byteCells_length]; omega) hBw).mono ?_
  rintro e w' ⟨he, h1, h2, h3⟩
  refine ⟨he, Or.inr ?_, h2, h3⟩
  rw [byteCells_append]
  exact h1
set_option maxRecDepth 100000 in
theorem num_any (B n : Nat) (bs : List UInt8) (w : World) (h : isB B bs w) (hn : n ≤ 4611686018427387903) (hlen : bs.length ≤ 900000) (hBw : B ≤ w.heap.size) :
    Calls Tryz.prog 66 #[.int .i64 (n : Int), .pointer (some ⟨B, 0, none⟩)] w fun e w' => e = .returned (.tuple #[]) ∧ isB B (bs ++ cnL n) w' ∧ Below B w w' ∧ KeepB B w w' := by
  have H := Lib.hid h
  have hz := cnT_size hn
  have HN := Lib.hid (codeNum_any n w hn)
  clear h
  go_enter Tryz.func66, Tryz.ntmps66
  go_wp2_with fail
  refine HN.out.mono ?_
  rintro e w1 ⟨rfl, hb1⟩
  have hs1 := hb1.size
  have H1 := Lib.hid (show isB B bs w1 from builder_below H.out hb1)
  go_wp2_with fail
  refine (write_any B bs (cnT n) w1 H1.out (by omega) (by omega)).mono ?_
  rintro e w2 ⟨rfl, h2, hb2, hk2⟩
  have HR := Lib.hid (show isB B (bs ++ cnL n) w2 ∧ Below B w w2 ∧ KeepB B w w2 from ⟨h2, (hb1.mono hBw).trans hb2, (KeepB.of_below hb1).trans hk2⟩)
  clear h2 hb2 hk2
  go_wp2_with fail
  go_end0
  exact ⟨rfl, HR.out⟩
theorem path_ok {s : ByteArray} (h : pathE s = 0) : s.size ≤ 200 := by
  unfold pathE at h
  split at h
  · omega
  · omega
theorem pathsGo_ok : ∀ (o : Option ByteArray) (l : List ByteArray), pathsGo o l = 0 → ∀ s ∈ l, pathE s = 0
  | _, [], _, s, hs => by cases hs
  | none, x :: r, h, s, hs => by
    unfold pathsGo at h
    split at h
    · omega
    · rename_i h0
      rcases List.mem_cons.1 hs with rfl | hs
      · exact Decidable.not_not.1 h0
      · exact pathsGo_ok _ r h s hs
  | some p, x :: r, h, s, hs => by
    unfold pathsGo at h
    split at h
    · omega
    · rename_i h0
      split at h
      · omega
      · split at h
        · omega
        · rcases List.mem_cons.1 hs with rfl | hs
          · exact Decidable.not_not.1 h0
          · exact pathsGo_ok _ r h s hs
theorem modes_ok : ∀ (l : List TFile), modesE l = 0 → ∀ f ∈ l, 0 ≤ f.mode ∧ f.mode ≤ 511
  | [], _, f, hf => by cases hf
  | x :: r, h, f, hf => by
    unfold modesE at h
    split at h
    · omega
    · split at h
      · omega
      · rcases List.mem_cons.1 hf with rfl | hf
        · omega
        · exact modes_ok r h f hf
theorem check_ok {l : List TFile} (h : checkE l = 0) : ∀ f ∈ l, f.path.size ≤ 200 ∧ 0 ≤ f.mode ∧ f.mode ≤ 511 := by
  unfold checkE at h
  split at h
  · omega
  · rename_i h0
    intro f hf
    have h1 := Decidable.not_not.1 h0
    unfold pathsE at h1
    split at h1
    · omega
    · exact ⟨path_ok (pathsGo_ok _ _ h1 _ (List.mem_map.2 ⟨f, hf, rfl⟩)), modes_ok l h f hf⟩
/-- a file's line in an image's head -/
def lineL (f : TFile) : List UInt8 := cnL f.path.size ++ f.path.data.toList ++ cnL f.mode.toNat ++ cnL f.data.size
def headL (n : Nat) (fs : List TFile) : List UInt8 := cnL n ++ fs.flatMap lineL
def bodyL (fs : List TFile) : List UInt8 := fs.flatMap fun f => f.data.data.toList
theorem headL_snoc (n : Nat) (fs : List TFile) (f : TFile) : headL n (fs ++ [f]) = headL n fs ++ cnL f.path.size ++ f.path.data.toList ++ cnL f.mode.toNat ++ cnL f.data.size := by simp [headL, lineL]
theorem bodyL_snoc (fs : List TFile) (f : TFile) : bodyL (fs ++ [f]) = bodyL fs ++ f.data.data.toList := by simp [bodyL]
theorem lineL_len {f : TFile} (h : f.path.size ≤ 200 ∧ 0 ≤ f.mode ∧ f.mode ≤ 511) (hd : f.data.size ≤ 2000) : (lineL f).length ≤ 230 := by
  have h1 := cnL_le (n := f.path.size) (by omega)
  have h2 := cnL_le (n := f.mode.toNat) (by omega)
  have h3 := cnL_le (n := f.data.size) (by omega)
  unfold lineL
  simp only [List.length_append]
  have : f.path.data.toList.length = f.path.size := by simp
  omega
theorem headL_len : ∀ (fs : List TFile), (∀ f ∈ fs, (f.path.size ≤ 200 ∧ 0 ≤ f.mode ∧ f.mode ≤ 511) ∧ f.data.size ≤ 2000) → (fs.flatMap lineL).length ≤ 230 * fs.length
  | [], _ => by simp
  | f :: r, h => by
    have h1 := lineL_len (h f (List.mem_cons.2 (Or.inl rfl))).1 (h f (List.mem_cons.2 (Or.inl rfl))).2
    have h2 := headL_len r (fun g hg => h g (List.mem_cons.2 (Or.inr hg)))
    rw [List.flatMap_cons, List.length_append, List.length_cons]
    omega
theorem bodyL_len : ∀ (fs : List TFile), (∀ f ∈ fs, f.data.size ≤ 2000) → (bodyL fs).length ≤ 2000 * fs.length
  | [], _ => by simp [bodyL]
  | f :: r, h => by
    have h1 := h f (List.mem_cons.2 (Or.inl rfl))
    have h2 := bodyL_len r (fun g hg => h g (List.mem_cons.2 (Or.inr hg)))
    unfold bodyL at h2 ⊢
    rw [List.flatMap_cons, List.length_append, List.length_cons]
    have : f.data.data.toList.length = f.data.size := by simp
    omega
set_option maxRecDepth 100000 in
set_option maxHeartbeats 4000000 in
theorem imageOf_few (ad : Option Addr) (cap : Nat) (fs : List TFile) (w : World) (h : TfsAt w ad fs) (hl : fs.length ≤ 8) (hs : ∀ f ∈ fs, f.path.size ≤ 9223372036854775807 ∧ f.data.size ≤ 2000) :
    Calls Tryz.prog 41 #[.slice ad fs.length cap] w fun e w' => ∃ s, e = .returned (.tuple #[.string s, .int .i64 (checkE fs)]) ∧ (checkE fs = 0 → s = ⟨(headL fs.length fs ++ bodyL fs).toArray⟩) ∧ Below w.heap.size w w' := by
  have hmf : ∀ (fn : Fn) (first cap : Array Value) (w : World), (Instr.makeFunc fn first cap).run Tryz.prog w = .ok (.func fn first cap) w := fun _ _ _ _ => rfl
  have H := Lib.hid h
  have Hs := Lib.hid hs
  have HC := Lib.hid (check_any ad cap fs w h (by omega) (fun f hf => ⟨(hs f hf).1, by have := (hs f hf).2; omega⟩))
  by_cases hc : checkE fs = 0
  · have Hok := Lib.hid (check_ok hc)
    rw [hc] at HC ⊢
    clear h hs hc
    go_enter Tryz.func41, Tryz.ntmps41
    go_wp2_with fail
    refine HC.out.mono ?_
    rintro e w1 ⟨rfl, hb1⟩
    go_wp2_with fail
    have HT1 := Lib.hid (H.out.below hb1)
    have HB1 := Lib.hid hb1
    have I0 : isB w1.heap.size [] (w1.alloc (.cells #[.pointer none, .slice none 0 0] 134)) := Lib.fresh_isBuilder _ _ _
    have b0 := (Below.refl w1.heap.size w1).alloc (Nat.le_refl _) (.cells #[.pointer none, .slice none 0 0] 134)
    have z0 : w1.heap.size < (w1.alloc (.cells #[.pointer none, .slice none 0 0] 134)).heap.size := by simp
    have hBB : w1.heap.size = w1.heap.size := rfl
    generalize w1.alloc (.cells #[.pointer none, .slice none 0 0] 134) = w2 at I0 b0 z0 ⊢
    generalize hB : w1.heap.size = B at I0 b0 z0 ⊢
    have HB := Lib.hid hB
    have I0' := Lib.hid I0
    clear hB hb1 I0 HC hBB
    refine (num_any B fs.length [] w2 I0'.out (by omega) (by simp) (by omega)).mono ?_
    rintro e w3 ⟨rfl, I1, b1, _⟩
    have I1' := Lib.hid (show isB B (headL fs.length (fs.take 0)) w3 by
      have e : headL fs.length (fs.take 0) = [] ++ cnL fs.length := by simp [headL]
      rw [e]
      exact I1)
    have b2 := b0.trans b1
    have z1 : B < w3.heap.size := by have := b1.size; omega
    clear I1 b1 b0 z0 I0'
    go_wp2_with fail
    go_loopw [8, 23] (fun _ i wr => ∃ k : Nat, i = .int .i64 k ∧ k ≤ fs.length ∧ Hid (isB B (headL fs.length (fs.take k)) wr) ∧ Below B w1 wr ∧ B < wr.heap.size) (fun _ i _ => fs.length - (intOf i).toNat)
    case atStart => exact ⟨0, rfl, Nat.zero_le _, I1', b2, z1⟩
    case round =>
      obtain ⟨k, rfl, hk, HI, hbr, hz⟩ := hrel
      clear I1' b2 z1
      have hlen : (headL fs.length (fs.take k)).length ≤ 2000 := by
        have h1 := headL_len (fs.take k) (fun f hf => ⟨Hok.out f (List.mem_of_mem_take hf), (Hs.out f (List.mem_of_mem_take hf)).2⟩)
        have h2 := cnL_le (n := fs.length) (by omega)
        have h3 : (fs.take k).length ≤ 8 := by rw [List.length_take]; omega
        unfold headL
        rw [List.length_append]
        omega
      by_cases hlt : k < fs.length
      · obtain ⟨b, off, rfl, hb, c0, c1, c2⟩ := (HT1.out.below (w' := wr) (by rw [HB.out]; exact hbr)).get k hlt
        have hf := Hok.out _ (List.getElem_mem hlt)
        have hf2 := (Hs.out _ (List.getElem_mem hlt)).2
        have hsn := Lib.hid (show headL fs.length (fs.take (k + 1)) = _ by rw [List.take_succ_eq_append_getElem hlt, headL_snoc])
        obtain ⟨m, hm⟩ := Int.eq_ofNat_of_zero_le hf.2.1
        have hm2 : fs[k].mode.toNat = m := by rw [hm]; rfl
        rw [hm2] at hsn
        rw [hm] at c1
        have hm511 : m ≤ 511 := by have := hf.2.2; omega
        have hp200 := hf.1
        have hpl : fs[k].path.data.toList.length = fs[k].path.size := by simp
        generalize fs[k].path = p at c0 hsn hp200 hpl
        generalize fs[k].data = d at c2 hsn hf2
        generalize headL fs.length (fs.take k) = hd at HI hsn hlen
        have l1 := cnL_le (n := p.size) (by omega)
        have l2 := cnL_le (n := m) (by omega)
        clear hm hm2 hf
        have IA := Lib.hid (show isB B hd (wr.alloc (.cells #[.string p, .int .i64 (m : Int), .string d] 65)) from builder_below HI.out ((Below.refl _ _).alloc (Nat.le_refl _) _))
        have bA := hbr.alloc (Nat.le_of_lt hz) (.cells #[.string p, .int .i64 (m : Int), .string d] 65)
        have QA := Lib.hid (Blk.new wr [.string p, .int .i64 (m : Int), .string d] 65)
        have zA : B < (wr.alloc (.cells #[.string p, .int .i64 (m : Int), .string d] 65)).heap.size := by simp; omega
        go_wp2_with fail
        generalize wr.alloc (.cells #[.string p, .int .i64 (m : Int), .string d] 65) = wA at IA bA QA zA ⊢
        generalize wr.heap.size = q at QA hz ⊢
        have hqB : q ≠ B := by omega
        clear HI hbr hb c0 c1 c2
        refine (num_any B p.size hd wA IA.out (by omega) (by omega) (by omega)).mono ?_
        rintro e wB ⟨rfl, I1, x1, k1⟩
        have IB := Lib.hid I1
        have bB := bA.trans x1
        have QB := Lib.hid (k1 q _ _ hqB (by decide) QA.out)
        have zB : B < wB.heap.size := by have := x1.size; omega
        have cB : wB.cell? ⟨q, 0, none⟩ = some (.string p) := QB.out.cell 0
        clear IA bA QA zA I1 x1 k1
        go_wp2_with fail
        refine (write_any B _ p wB IB.out (by rw [List.length_append]; omega) (by omega)).mono ?_
        rintro e wC ⟨rfl, I1, x1, k1⟩
        have IC := Lib.hid I1
        have bC := bB.trans x1
        have QC := Lib.hid (k1 q _ _ hqB (by decide) QB.out)
        have zC : B < wC.heap.size := by have := x1.size; omega
        have cC : wC.cell? ⟨q, 1, none⟩ = some (.int .i64 (m : Int)) := QC.out.cell 1
        clear IB bB QB zB cB I1 x1 k1
        go_wp2_with fail
        refine (num_any B m _ wC IC.out (by omega) (by rw [List.length_append, List.length_append]; omega) (by omega)).mono ?_
        rintro e wD ⟨rfl, I1, x1, k1⟩
        have ID := Lib.hid I1
        have bD := bC.trans x1
        have QD := Lib.hid (k1 q _ _ hqB (by decide) QC.out)
        have zD : B < wD.heap.size := by have := x1.size; omega
        have cD : wD.cell? ⟨q, 2, none⟩ = some (.string d) := QD.out.cell 2
        clear IC bC QC zC cC I1 x1 k1
        go_wp2_with fail
        refine (num_any B d.size _ wD ID.out (by omega) (by rw [List.length_append, List.length_append, List.length_append]; omega) (by omega)).mono ?_
        rintro e wE ⟨rfl, I1, x1, k1⟩
        have IE := Lib.hid (show isB B (headL fs.length (fs.take (k + 1))) wE by rw [hsn.out]; exact I1)
        have bE := bD.trans x1
        have zE : B < wE.heap.size := by have := x1.size; omega
        clear ID bD QD zD cD I1 x1 k1 hsn
        go_wp2_with fail
        go_roundw
        case rel => exact ⟨k + 1, by go_num, by omega, IE, bE, zE⟩
        case measure => simp [intOf]; omega
      · obtain rfl : k = fs.length := by omega
        have I2 := Lib.hid (show isB B (headL fs.length fs ++ bodyL (fs.take 0)) wr by
          have h := HI.out
          rw [List.take_length] at h
          have e : headL fs.length fs ++ bodyL (fs.take 0) = headL fs.length fs := by simp [bodyL]
          rw [e]
          exact h)
        have hlen2 : (headL fs.length fs).length ≤ 2000 := by
          rw [List.take_length] at hlen
          exact hlen
        clear HI hlen hk hlt
        go_wp2_with fail
        go_loopw [10, 47] (fun _ i wr => ∃ k : Nat, i = .int .i64 k ∧ k ≤ fs.length ∧ Hid (isB B (headL fs.length fs ++ bodyL (fs.take k)) wr) ∧ Below B w1 wr ∧ B < wr.heap.size) (fun _ i _ => fs.length - (intOf i).toNat)
        case atStart => exact ⟨0, rfl, Nat.zero_le _, I2, hbr, hz⟩
        case round =>
          clear I2 hbr hz
          obtain ⟨k, rfl, hk, HI, hbr, hz⟩ := hrel
          have hlen : (headL fs.length fs ++ bodyL (fs.take k)).length ≤ 18000 := by
            have h1 := bodyL_len (fs.take k) (fun f hf => (Hs.out f (List.mem_of_mem_take hf)).2)
            have h3 : (fs.take k).length ≤ 8 := by rw [List.length_take]; omega
            rw [List.length_append]
            omega
          by_cases hlt : k < fs.length
          · obtain ⟨b, off, rfl, hb, c0, c1, c2⟩ := (HT1.out.below (w' := wr) (by rw [HB.out]; exact hbr)).get k hlt
            have hf2 := (Hs.out _ (List.getElem_mem hlt)).2
            have hsn := Lib.hid (show headL fs.length fs ++ bodyL (fs.take (k + 1)) = _ by rw [List.take_succ_eq_append_getElem hlt, bodyL_snoc, ← List.append_assoc])
            generalize headL fs.length fs ++ bodyL (fs.take k) = hd at HI hsn hlen
            generalize fs[k].path = p at c0
            generalize fs[k].mode = m at c1
            generalize fs[k].data = d at c2 hsn hf2
            have IA := Lib.hid (show isB B hd (wr.alloc (.cells #[.string p, .int .i64 m, .string d] 65)) from builder_below HI.out ((Below.refl _ _).alloc (Nat.le_refl _) _))
            have bA := hbr.alloc (Nat.le_of_lt hz) (.cells #[.string p, .int .i64 m, .string d] 65)
            have QA := Lib.hid (Blk.new wr [.string p, .int .i64 m, .string d] 65)
            have zA : B < (wr.alloc (.cells #[.string p, .int .i64 m, .string d] 65)).heap.size := by simp; omega
            go_wp2_with fail
            generalize wr.alloc (.cells #[.string p, .int .i64 m, .string d] 65) = wA at IA bA QA zA ⊢
            generalize wr.heap.size = q at QA hz ⊢
            have hqB : q ≠ B := by omega
            clear HI hbr hb c0 c1 c2
            have q2 : wA.cell? ⟨q, 2, none⟩ = some (.string d) := QA.out.cell 2
            have HLn := Lib.hid (show ∀ n, Calls Tryz.prog 69 #[.pointer (some ⟨B, 0, none⟩)] (wA.drewN n) fun e w' => e = .returned (.int .i64 (hd.length : Int)) ∧ wA.drewN n = w' from fun n => by
              have h := Tryz.Builder_Len B B (Lib.byteCells hd) (wA.drewN n) (builder_below IA.out (below_drewN (Below.refl _ _) n))
              rw [Lib.byteCells_length] at h
              exact h.mono (fun e w' ⟨he, hw⟩ => ⟨he, hw.symm⟩))
            go_quiet ((go_at_call 69; first | exact quiet_left (HLn.out _) | exact quiet_add_left (HLn.out _)))
            have IA2 := Lib.hid (show isB B hd (wA.drewN nq) from builder_below IA.out (below_drewN (Below.refl _ _) nq))
            have bA2 := below_drewN bA nq
            have q3 : (wA.drewN nq).cell? ⟨q, 2, none⟩ = some (.string d) := q2
            have zA2 : B < (wA.drewN nq).heap.size := zA
            generalize wA.drewN nq = wB at IA2 bA2 q3 zA2 ⊢
            clear IA bA QA zA q2 HLn
            go_wp2_with fail
            refine (write_any B hd d wB IA2.out (by omega) (by omega)).mono ?_
            rintro e wC ⟨rfl, I1, x1, k1⟩
            have IC := Lib.hid (show isB B (headL fs.length fs ++ bodyL (fs.take (k + 1))) wC by rw [hsn.out]; exact I1)
            have bC := bA2.trans x1
            have zC : B < wC.heap.size := by have := x1.size; omega
            clear IA2 bA2 zA2 q3 I1 x1 k1 hsn
            go_wp2_with fail
            go_roundw
            case rel => exact ⟨k + 1, by go_num, by omega, IC, bC, zC⟩
            case measure => simp [intOf]; omega
          · obtain rfl : k = fs.length := by omega
            have I3 := Lib.hid (show isB B (headL fs.length fs ++ bodyL fs) wr by
              have h := HI.out
              rw [List.take_length] at h
              exact h)
            clear HI hlen
            go_wp2_with fail
            refine (Tryz.Builder_String_any B B _ wr I3.out (by omega)).mono ?_
            rintro e wZ ⟨rfl, hbz⟩
            go_wp2_with fail
            go_ret2
            exact ⟨_, rfl, fun _ => rfl, HB1.out.trans ((hbr.trans hbz).mono (by rw [← HB.out]; exact HB1.out.size))⟩
  · have hcb : (checkE fs != 0) = true := by rw [bne_iff_ne]; exact hc
    have Hc := Lib.hid hc
    generalize checkE fs = ce at HC hcb Hc ⊢
    clear h hs hc
    go_enter Tryz.func41, Tryz.ntmps41
    go_wp2_with fail
    refine HC.out.mono ?_
    rintro e w1 ⟨rfl, hb1⟩
    go_wp2_with fail
    go_ret2
    exact ⟨_, rfl, fun h => absurd h Hc.out, hb1⟩
end Go.Proofs.YtaemlplcjjbamaaGreatDoor
namespace Go.Proofs.YtaemlplcjjbamaaGreatDoor
open Go Go.RowKit
set_option linter.unusedVariables false
def imgL (fs : List TFile) : List UInt8 := headL fs.length fs ++ bodyL fs
set_option maxRecDepth 100000 in
set_option maxHeartbeats 4000000 in
theorem next_job (b j : Nat) (c : CSt) (w : World) (h : CoordAt w b c) (hj : c.job = .pointer (some ⟨j, 0, none⟩)) :
    Calls Tryz.prog 37 #[.pointer (some ⟨b, 0, none⟩)] w fun e w' => e = .returned (.tuple #[]) ∧ w = w' := by
  have c84 : w.cell? ⟨b, 84, none⟩ = some (.pointer (some ⟨j, 0, none⟩)) := by have := h.ft 0; rw [← hj]; exact this
  clear h hj
  go_enter Tryz.func37, Tryz.ntmps37
  go_wp2
  refine bodyPost_ret (results_none rfl _ _ _) rfl ⟨rfl, rfl⟩
set_option maxRecDepth 100000 in
set_option maxHeartbeats 4000000 in
theorem next_other (b kc ca cc : Nat) (aa : Option Addr) (c : CSt) (kd : Int) (cs : List Value) (w : World) (h : CoordAt w b c) (hj : c.job = .pointer none) (ha : c.again = .slice aa 0 cc) (hcl : c.call = .pointer (some ⟨kc, 0, none⟩)) (hq : Blk w kc (.int .i64 kd :: cs) 33) (hkd : (kd == 1) = false) :
    Calls Tryz.prog 37 #[.pointer (some ⟨b, 0, none⟩)] w fun e w' => e = .returned (.tuple #[]) ∧ w = w' := by
  have c84 : w.cell? ⟨b, 84, none⟩ = some (.pointer none) := by have := h.ft 0; rw [← hj]; exact this
  have c86 : w.cell? ⟨b, 86, none⟩ = some (.pointer (some ⟨kc, 0, none⟩)) := by have := h.ft 2; rw [← hcl]; exact this
  have c11 : w.cell? ⟨b, 11, none⟩ = some (.slice aa 0 cc) := by rw [← ha]; exact h.hd 11 (by omega)
  have k0 : w.cell? ⟨kc, 0, none⟩ = some (.int .i64 kd) := hq.cell 0
  clear h hj ha hcl hq
  go_enter Tryz.func37, Tryz.ntmps37
  go_wp2
  go_end0
  exact ⟨rfl, rfl⟩
set_option maxRecDepth 100000 in
set_option maxHeartbeats 4000000 in
theorem next_backup (b B kb mb n kc cc cap : Nat) (aa ad : Option Addr) (c : CSt) (ps : List Peer) (t kg : Int) (fs : List TFile) (I : List (Int × List UInt8)) (Bk : List ByteArray) (w : World) (h : CoordAt w b c) (hp : c.peers = peersVals ps) (hps : ps.length = 9) (hbk : c.book = .pointer (some ⟨kb, 0, none⟩)) (hcn : c.n = (n : Int)) (hn1 : 1 ≤ n) (hn9 : n ≤ 9)
    (hall : ∀ v, (hv : v < n) → (ps[v]'(by omega)).top = t) (hf0 : 0 ≤ c.floor) (hf1 : c.floor ≤ c.top) (hf2 : c.top ≤ 1000000) (hf : c.top - c.floor < 32) (ht0 : 0 ≤ t) (ht1 : t ≤ c.top) (ht : c.top - t < 8)
    (hr : w.ownsRow B 151 2 c.images I.length (knV I)) (hB : B ≤ w.heap.size) (hl : I.length + 1 ≤ 32) (hn : NewGen I c.top)
    (hK : BookIs w kb mb Bk) (hBl : Bk.length ≤ 1000000000) (hT : (imgL fs).length ≤ 1000000)
    (hj : c.job = .pointer none) (ha : c.again = .slice aa 0 cc) (hcl : c.call = .pointer (some ⟨kc, 0, none⟩)) (hq : Blk w kc [.int .i64 1, .int .i64 kg, .slice ad fs.length cap] 33) (hfs : TfsAt w ad fs) (hl8 : fs.length ≤ 8) (hsz : ∀ f ∈ fs, f.path.size ≤ 9223372036854775807 ∧ f.data.size ≤ 2000) (hck : checkE fs = 0) :
    Calls Tryz.prog 37 #[.pointer (some ⟨b, 0, none⟩)] w (ProposeSays c.images b B kb mb n c I Bk c.top (imgL fs) w) := by
  have c84 : w.cell? ⟨b, 84, none⟩ = some (.pointer none) := by have := h.ft 0; rw [← hj]; exact this
  have c86 : w.cell? ⟨b, 86, none⟩ = some (.pointer (some ⟨kc, 0, none⟩)) := by have := h.ft 2; rw [← hcl]; exact this
  have c11 : w.cell? ⟨b, 11, none⟩ = some (.slice aa 0 cc) := by rw [← ha]; exact h.hd 11 (by omega)
  have k0 : w.cell? ⟨kc, 0, none⟩ = some (.int .i64 1) := hq.cell 0
  have HRm := Lib.hid (room_ok b n c ps t w h hp hps hcn hn1 hn9 hall hf0 hf1 hf2 hf ht0 ht1 ht)
  have HW := Lib.hid (fun w' (hb : Below w.heap.size w w') => (show w'.cell? ⟨b, 86, none⟩ = some (.pointer (some ⟨kc, 0, none⟩)) ∧ w'.cell? ⟨b, 6, none⟩ = some (.int .i64 c.top) ∧ w'.cell? ⟨kc, 2, none⟩ = some (.slice ad fs.length cap) from ⟨by rw [← hcl]; exact (h.below hb).ft 2, (h.below hb).hd 6 (by omega), (hq.below hb).cell 2⟩))
  have HIm := Lib.hid (fun w' (hb : Below w.heap.size w w') => imageOf_few ad cap fs w' (hfs.below hb) hl8 hsz)
  rw [hck] at HIm
  have HPr := Lib.hid (fun w' (hb : Below w.heap.size w w') => propose_any b B kb mb n c I Bk c.top (imgL fs) w' (h.below hb) hbk hcn hn9 (ownsRow_below hr hb) (Nat.le_trans hB hb.size) hl hn (hK.below hb) hBl hT)
  generalize c.top = ct at HW HPr hf1 hf2 hf ht1 ht ⊢
  obtain ⟨m, hm⟩ : ∃ m, m = fs.length := ⟨_, rfl⟩
  have HIL := Lib.hid (show imgL fs = headL m fs ++ bodyL fs by unfold imgL; rw [hm])
  rw [← hm] at HW HIm hl8
  clear h hp hbk hcn hall hr hn hK hj ha hcl hq hfs hsz hck hm
  go_enter Tryz.func37, Tryz.ntmps37
  go_wp2_with fail
  refine HRm.out.mono ?_
  rintro e w1 ⟨rfl, hb1⟩
  obtain ⟨d86, d6, k2⟩ := HW.out w1 hb1
  have HB1 := Lib.hid hb1
  have HIm1 := Lib.hid (HIm.out w1 hb1)
  clear HRm hb1 c84 c86 c11 k0
  go_wp2_with fail
  refine HIm1.out.mono ?_
  rintro e w2 ⟨s, rfl, hs, hb2⟩
  have hs2 : s = ba (imgL fs) := by rw [HIL.out]; exact hs (by first | trivial | rfl)
  subst hs2
  have hB2 := below_step HB1.out hb2
  obtain ⟨e86, e6, k22⟩ := HW.out w2 hB2
  have HB2 := Lib.hid hB2
  have HPr2 := Lib.hid (HPr.out w2 hB2)
  clear hs hb2 hB2 HIm1 HIm HPr HW d86 d6 k2
  go_wp2_with fail
  refine HPr2.out.mono ?_
  rintro e w3 ⟨v', j, ta, tf, rfl, hC, hR, hJ, hA, hF, hK3, h1, h2, hTT⟩
  have HF := Lib.hid (And.intro hC (And.intro hR (And.intro hJ (And.intro hA (And.intro hF (And.intro hK3 (And.intro h1 (And.intro h2 hTT))))))))
  clear hC hR hJ hA hF hK3 h1 h2 hTT HPr2
  go_wp2_with fail
  go_end0
  have hsz := HB2.out.size
  have F := HF.out
  exact ⟨v', j, ta, tf, rfl, F.1, F.2.1, F.2.2.1, F.2.2.2.1, F.2.2.2.2.1, F.2.2.2.2.2.1, Nat.le_trans hsz F.2.2.2.2.2.2.1, Nat.le_trans hsz F.2.2.2.2.2.2.2.1, (Touch.of_below HB2.out).trans F.2.2.2.2.2.2.2.2⟩
end Go.Proofs.YtaemlplcjjbamaaGreatDoor
namespace Go.Proofs.YtaemlplcjjbamaaGreatDoor
open Go Go.RowKit
set_option linter.unusedVariables false
def hasB (F : ByteArray) (x : Int) : Bool := F.data.toList.any fun c => (c.toNat : Int) == x
theorem hasB_true {F : ByteArray} {x : Int} {k : Nat} (h : k < F.size) (e : ((F[k]'h).toNat : Int) = x) : hasB F x = true := by
  unfold hasB
  rw [List.any_eq_true]
  exact ⟨F[k]'h, List.mem_iff_getElem.2 ⟨k, h, rfl⟩, by simpa using e⟩
theorem hasB_false {F : ByteArray} {x : Int} (hn : ∀ i (h : i < F.size), ((F[i]'h).toNat : Int) ≠ x) : hasB F x = false := by
  unfold hasB
  rw [List.any_eq_false]
  intro c hc
  obtain ⟨i, hi, rfl⟩ := List.mem_iff_getElem.1 hc
  have hi2 : i < F.size := by simpa using hi
  have t : (((F.data.toList[i]'hi).toNat : Nat) : Int) ≠ x := hn i hi2
  exact fun e => t (by simpa using e)
set_option maxRecDepth 100000 in
set_option maxHeartbeats 4000000 in
theorem lawHas_any (k x : Int) (hk : IsKind k) (w : World) : Calls Tryz.prog 76 #[.int .i64 k, .int .u8 x] w fun e w' => e = .returned (.bool (hasB (fieldsOf k) x)) ∧ w = w' := by
  have H := Lib.hid (fields_any k hk w)
  obtain ⟨hFs, _⟩ := fields_letters k hk
  generalize fieldsOf k = F at H hFs ⊢
  clear hk
  go_enter Tryz.func76, Tryz.ntmps76
  go_wp2_with fail
  refine H.out.mono ?_
  rintro e w1 ⟨rfl, rfl⟩
  go_wp2_with fail
  go_loopw [6] (fun iv wr => ∃ i : Nat, iv = .int .i64 (i : Int) ∧ i ≤ F.size ∧ Hid (∀ j (h : j < F.size), j < i → ((F[j]'h).toNat : Int) ≠ x) ∧ w = wr) (fun iv _ => F.size - (intOf iv).toNat)
  case atStart => exact ⟨0, rfl, Nat.zero_le _, Lib.hid (fun j _ hj => absurd hj (Nat.not_lt_zero _)), rfl⟩
  case round =>
    obtain ⟨i, rfl, hi, HN, rfl⟩ := hrel
    by_cases hlt : i < F.size
    · by_cases hx : ((F[i]'hlt).toNat : Int) = x
      · have e1 : (((F[i]'hlt).toNat : Int) == x) = true := by rw [hx]; simp
        have HT := Lib.hid (hasB_true hlt hx)
        clear hx
        go_wp2_with fail
        go_ret
        rw [HT.out]
        exact ⟨rfl, rfl⟩
      · have e1 : (((F[i]'hlt).toNat : Int) == x) = false := by rw [beq_eq_false_iff_ne]; exact hx
        have HX := Lib.hid hx
        clear hx
        go_wp2_with fail
        go_roundw
        case rel =>
          refine ⟨i + 1, by go_num, by omega, Lib.hid (fun j h hj => ?_), by first | rfl | trivial⟩
          by_cases hji : j < i
          · exact HN.out j h hji
          · obtain rfl : j = i := by omega
            exact HX.out
        case measure => simp [intOf]; omega
    · have HF := Lib.hid (hasB_false (F := F) (x := x) (fun j h => HN.out j h (by omega)))
      go_wp2_with fail
      go_ret
      rw [HF.out]
      exact ⟨rfl, rfl⟩
end Go.Proofs.YtaemlplcjjbamaaGreatDoor
