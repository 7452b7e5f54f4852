/- The walk of image.Of at a tree of few files. Conditions: at most 8 files, each of at most 2000 bytes. -/
import Derived.Test.YtmmnaieikfekfaaGreatDoorTree3
import Derived.Test.YtmmnaieikfekfaaGreatDoorBuildKeep
import Derived.Test.YtmmnaieikfekfaaGreatDoorNums
namespace Go.Proofs.YtmmnaieikfekfaaGreatDoor
open Go Go.RowKit
set_option linter.unusedVariables false

def isB (B : Nat) (bs : List UInt8) (w : World) : Prop := Lib.IsBuilder 158 5 B B (Lib.byteCells bs) w
theorem byteCells_append (l r : List UInt8) : Lib.byteCells (l ++ r) = Lib.byteCells l ++ Lib.byteCells r := by simp [Lib.byteCells]
theorem write_any (B : Nat) (bs : List UInt8) (s : ByteArray) (w : World) (h : isB B bs w) (hlen : bs.length + s.size ≤ 1000000) (hBw : B ≤ w.heap.size) :
    Calls Tryz.prog 100 #[.pointer (some ⟨B, 0, none⟩), .string s] w fun e w' => e = .returned (.tuple #[.int .i64 s.size, .nilIface]) ∧ isB B (bs ++ s.data.toList) w' ∧ Below B w w' ∧ KeepB B w w' := by
  refine (writeString_keep B B _ s w h (by rw [Lib.byteCells_length]; omega) hBw).mono ?_
  rintro e w' ⟨he, h1, h2, h3⟩
  refine ⟨he, Or.inr ?_, h2, h3⟩
  rw [byteCells_append]
  exact h1
set_option maxRecDepth 100000 in
theorem num_any (B n : Nat) (bs : List UInt8) (w : World) (h : isB B bs w) (hn : n ≤ 4611686018427387903) (hlen : bs.length ≤ 900000) (hBw : B ≤ w.heap.size) :
    Calls Tryz.prog 98 #[.int .i64 (n : Int), .pointer (some ⟨B, 0, none⟩)] w fun e w' => e = .returned (.tuple #[]) ∧ isB B (bs ++ cnL n) w' ∧ Below B w w' ∧ KeepB B w w' := by
  have H := Lib.hid h
  have hz := cnT_size hn
  have HN := Lib.hid (codeNum_any n w hn)
  clear h
  go_enter Tryz.func98, Tryz.ntmps98
  go_wp2_with fail
  refine HN.out.mono ?_
  rintro e w1 ⟨rfl, hb1⟩
  have hs1 := hb1.size
  have H1 := Lib.hid (show isB B bs w1 from builder_below H.out hb1)
  go_wp2_with fail
  refine (write_any B bs (cnT n) w1 H1.out (by omega) (by omega)).mono ?_
  rintro e w2 ⟨rfl, h2, hb2, hk2⟩
  have HR := Lib.hid (show isB B (bs ++ cnL n) w2 ∧ Below B w w2 ∧ KeepB B w w2 from ⟨h2, (hb1.mono hBw).trans hb2, (KeepB.of_below hb1).trans hk2⟩)
  clear h2 hb2 hk2
  go_wp2_with fail
  go_end0
  exact ⟨rfl, HR.out⟩

theorem path_ok {s : ByteArray} (h : pathE s = 0) : s.size ≤ 200 := by
  unfold pathE at h
  split at h
  · omega
  · omega
theorem pathsGo_ok : ∀ (o : Option ByteArray) (l : List ByteArray), pathsGo o l = 0 → ∀ s ∈ l, pathE s = 0
  | _, [], _, s, hs => by cases hs
  | none, x :: r, h, s, hs => by
    unfold pathsGo at h
    split at h
    · omega
    · rename_i h0
      rcases List.mem_cons.1 hs with rfl | hs
      · exact Decidable.not_not.1 h0
      · exact pathsGo_ok _ r h s hs
  | some p, x :: r, h, s, hs => by
    unfold pathsGo at h
    split at h
    · omega
    · rename_i h0
      split at h
      · omega
      · split at h
        · omega
        · rcases List.mem_cons.1 hs with rfl | hs
          · exact Decidable.not_not.1 h0
          · exact pathsGo_ok _ r h s hs
theorem modes_ok : ∀ (l : List TFile), modesE l = 0 → ∀ f ∈ l, 0 ≤ f.mode ∧ f.mode ≤ 511
  | [], _, f, hf => by cases hf
  | x :: r, h, f, hf => by
    unfold modesE at h
    split at h
    · omega
    · split at h
      · omega
      · rcases List.mem_cons.1 hf with rfl | hf
        · omega
        · exact modes_ok r h f hf
theorem check_ok {l : List TFile} (h : checkE l = 0) : ∀ f ∈ l, f.path.size ≤ 200 ∧ 0 ≤ f.mode ∧ f.mode ≤ 511 := by
  unfold checkE at h
  split at h
  · omega
  · rename_i h0
    intro f hf
    have h1 := Decidable.not_not.1 h0
    unfold pathsE at h1
    split at h1
    · omega
    · exact ⟨path_ok (pathsGo_ok _ _ h1 _ (List.mem_map.2 ⟨f, hf, rfl⟩)), modes_ok l h f hf⟩
/-- a file's line in an image's head -/
def lineL (f : TFile) : List UInt8 := cnL f.path.size ++ f.path.data.toList ++ cnL f.mode.toNat ++ cnL f.data.size
def headL (n : Nat) (fs : List TFile) : List UInt8 := cnL n ++ fs.flatMap lineL
def bodyL (fs : List TFile) : List UInt8 := fs.flatMap fun f => f.data.data.toList
theorem headL_snoc (n : Nat) (fs : List TFile) (f : TFile) : headL n (fs ++ [f]) = headL n fs ++ cnL f.path.size ++ f.path.data.toList ++ cnL f.mode.toNat ++ cnL f.data.size := by simp [headL, lineL]
theorem bodyL_snoc (fs : List TFile) (f : TFile) : bodyL (fs ++ [f]) = bodyL fs ++ f.data.data.toList := by simp [bodyL]
theorem lineL_len {f : TFile} (h : f.path.size ≤ 200 ∧ 0 ≤ f.mode ∧ f.mode ≤ 511) (hd : f.data.size ≤ 2000) : (lineL f).length ≤ 230 := by
  have h1 := cnL_le (n := f.path.size) (by omega)
  have h2 := cnL_le (n := f.mode.toNat) (by omega)
  have h3 := cnL_le (n := f.data.size) (by omega)
  unfold lineL
  simp only [List.length_append]
  have : f.path.data.toList.length = f.path.size := by simp
  omega
theorem headL_len : ∀ (fs : List TFile), (∀ f ∈ fs, (f.path.size ≤ 200 ∧ 0 ≤ f.mode ∧ f.mode ≤ 511) ∧ f.data.size ≤ 2000) → (fs.flatMap lineL).length ≤ 230 * fs.length
  | [], _ => by simp
  | f :: r, h => by
    have h1 := lineL_len (h f (List.mem_cons.2 (Or.inl rfl))).1 (h f (List.mem_cons.2 (Or.inl rfl))).2
    have h2 := headL_len r (fun g hg => h g (List.mem_cons.2 (Or.inr hg)))
    rw [List.flatMap_cons, List.length_append, List.length_cons]
    omega
theorem bodyL_len : ∀ (fs : List TFile), (∀ f ∈ fs, f.data.size ≤ 2000) → (bodyL fs).length ≤ 2000 * fs.length
  | [], _ => by simp [bodyL]
  | f :: r, h => by
    have h1 := h f (List.mem_cons.2 (Or.inl rfl))
    have h2 := bodyL_len r (fun g hg => h g (List.mem_cons.2 (Or.inr hg)))
    unfold bodyL at h2 ⊢
    rw [List.flatMap_cons, List.length_append, List.length_cons]
    have : f.data.data.toList.length = f.data.size := by simp
    omega

set_option maxRecDepth 100000 in
set_option maxHeartbeats 4000000 in
theorem imageOf_few (ad : Option Addr) (cap : Nat) (fs : List TFile) (w : World) (h : TfsAt w ad fs) (hl : fs.length ≤ 8) (hs : ∀ f ∈ fs, f.path.size ≤ 9223372036854775807 ∧ f.data.size ≤ 2000) :
    Calls Tryz.prog 63 #[.slice ad fs.length cap] w fun e w' => ∃ s, e = .returned (.tuple #[.string s, .int .i64 (checkE fs)]) ∧ (checkE fs = 0 → s = ⟨(headL fs.length fs ++ bodyL fs).toArray⟩) ∧ Below w.heap.size w w' := by
  have hmf : ∀ (fn : Fn) (first cap : Array Value) (w : World), (Instr.makeFunc fn first cap).run Tryz.prog w = .ok (.func fn first cap) w := fun _ _ _ _ => rfl
  have H := Lib.hid h
  have Hs := Lib.hid hs
  have HC := Lib.hid (check_any ad cap fs w h (by omega) (fun f hf => ⟨(hs f hf).1, by have := (hs f hf).2; omega⟩))
  by_cases hc : checkE fs = 0
  · have Hok := Lib.hid (check_ok hc)
    rw [hc] at HC ⊢
    clear h hs hc
    go_enter Tryz.func63, Tryz.ntmps63
    go_wp2_with fail
    refine HC.out.mono ?_
    rintro e w1 ⟨rfl, hb1⟩
    go_wp2_with fail
    have HT1 := Lib.hid (H.out.below hb1)
    have HB1 := Lib.hid hb1
    have I0 : isB w1.heap.size [] (w1.alloc (.cells #[.pointer none, .slice none 0 0] 158)) := Lib.fresh_isBuilder _ _ _
    have b0 := (Below.refl w1.heap.size w1).alloc (Nat.le_refl _) (.cells #[.pointer none, .slice none 0 0] 158)
    have z0 : w1.heap.size < (w1.alloc (.cells #[.pointer none, .slice none 0 0] 158)).heap.size := by simp
    have hBB : w1.heap.size = w1.heap.size := rfl
    generalize w1.alloc (.cells #[.pointer none, .slice none 0 0] 158) = w2 at I0 b0 z0 ⊢
    generalize hB : w1.heap.size = B at I0 b0 z0 ⊢
    have HB := Lib.hid hB
    have I0' := Lib.hid I0
    clear hB hb1 I0 HC hBB
    refine (num_any B fs.length [] w2 I0'.out (by omega) (by simp) (by omega)).mono ?_
    rintro e w3 ⟨rfl, I1, b1, _⟩
    have I1' := Lib.hid (show isB B (headL fs.length (fs.take 0)) w3 by
      have e : headL fs.length (fs.take 0) = [] ++ cnL fs.length := by simp [headL]
      rw [e]
      exact I1)
    have b2 := b0.trans b1
    have z1 : B < w3.heap.size := by have := b1.size; omega
    clear I1 b1 b0 z0 I0'
    go_wp2_with fail
    go_loopw [8, 23] (fun _ i wr => ∃ k : Nat, i = .int .i64 k ∧ k ≤ fs.length ∧ Hid (isB B (headL fs.length (fs.take k)) wr) ∧ Below B w1 wr ∧ B < wr.heap.size) (fun _ i _ => fs.length - (intOf i).toNat)
    case atStart => exact ⟨0, rfl, Nat.zero_le _, I1', b2, z1⟩
    case round =>
      obtain ⟨k, rfl, hk, HI, hbr, hz⟩ := hrel
      clear I1' b2 z1
      have hlen : (headL fs.length (fs.take k)).length ≤ 2000 := by
        have h1 := headL_len (fs.take k) (fun f hf => ⟨Hok.out f (List.mem_of_mem_take hf), (Hs.out f (List.mem_of_mem_take hf)).2⟩)
        have h2 := cnL_le (n := fs.length) (by omega)
        have h3 : (fs.take k).length ≤ 8 := by rw [List.length_take]; omega
        unfold headL
        rw [List.length_append]
        omega
      by_cases hlt : k < fs.length
      · obtain ⟨b, off, rfl, hb, c0, c1, c2⟩ := (HT1.out.below (w' := wr) (by rw [HB.out]; exact hbr)).get k hlt
        have hf := Hok.out _ (List.getElem_mem hlt)
        have hf2 := (Hs.out _ (List.getElem_mem hlt)).2
        have hsn := Lib.hid (show headL fs.length (fs.take (k + 1)) = _ by rw [List.take_succ_eq_append_getElem hlt, headL_snoc])
        obtain ⟨m, hm⟩ := Int.eq_ofNat_of_zero_le hf.2.1
        have hm2 : fs[k].mode.toNat = m := by rw [hm]; rfl
        rw [hm2] at hsn
        rw [hm] at c1
        have hm511 : m ≤ 511 := by have := hf.2.2; omega
        have hp200 := hf.1
        have hpl : fs[k].path.data.toList.length = fs[k].path.size := by simp
        generalize fs[k].path = p at c0 hsn hp200 hpl
        generalize fs[k].data = d at c2 hsn hf2
        generalize headL fs.length (fs.take k) = hd at HI hsn hlen
        have l1 := cnL_le (n := p.size) (by omega)
        have l2 := cnL_le (n := m) (by omega)
        clear hm hm2 hf
        have IA := Lib.hid (show isB B hd (wr.alloc (.cells #[.string p, .int .i64 (m : Int), .string d] 101)) from builder_below HI.out ((Below.refl _ _).alloc (Nat.le_refl _) _))
        have bA := hbr.alloc (Nat.le_of_lt hz) (.cells #[.string p, .int .i64 (m : Int), .string d] 101)
        have QA := Lib.hid (Blk.new wr [.string p, .int .i64 (m : Int), .string d] 101)
        have zA : B < (wr.alloc (.cells #[.string p, .int .i64 (m : Int), .string d] 101)).heap.size := by simp; omega
        go_wp2_with fail
        generalize wr.alloc (.cells #[.string p, .int .i64 (m : Int), .string d] 101) = wA at IA bA QA zA ⊢
        generalize wr.heap.size = q at QA hz ⊢
        have hqB : q ≠ B := by omega
        clear HI hbr hb c0 c1 c2
        refine (num_any B p.size hd wA IA.out (by omega) (by omega) (by omega)).mono ?_
        rintro e wB ⟨rfl, I1, x1, k1⟩
        have IB := Lib.hid I1
        have bB := bA.trans x1
        have QB := Lib.hid (k1 q _ _ hqB (by decide) QA.out)
        have zB : B < wB.heap.size := by have := x1.size; omega
        have cB : wB.cell? ⟨q, 0, none⟩ = some (.string p) := QB.out.cell 0
        clear IA bA QA zA I1 x1 k1
        go_wp2_with fail
        refine (write_any B _ p wB IB.out (by rw [List.length_append]; omega) (by omega)).mono ?_
        rintro e wC ⟨rfl, I1, x1, k1⟩
        have IC := Lib.hid I1
        have bC := bB.trans x1
        have QC := Lib.hid (k1 q _ _ hqB (by decide) QB.out)
        have zC : B < wC.heap.size := by have := x1.size; omega
        have cC : wC.cell? ⟨q, 1, none⟩ = some (.int .i64 (m : Int)) := QC.out.cell 1
        clear IB bB QB zB cB I1 x1 k1
        go_wp2_with fail
        refine (num_any B m _ wC IC.out (by omega) (by rw [List.length_append, List.length_append]; omega) (by omega)).mono ?_
        rintro e wD ⟨rfl, I1, x1, k1⟩
        have ID := Lib.hid I1
        have bD := bC.trans x1
        have QD := Lib.hid (k1 q _ _ hqB (by decide) QC.out)
        have zD : B < wD.heap.size := by have := x1.size; omega
        have cD : wD.cell? ⟨q, 2, none⟩ = some (.string d) := QD.out.cell 2
        clear IC bC QC zC cC I1 x1 k1
        go_wp2_with fail
        refine (num_any B d.size _ wD ID.out (by omega) (by rw [List.length_append, List.length_append, List.length_append]; omega) (by omega)).mono ?_
        rintro e wE ⟨rfl, I1, x1, k1⟩
        have IE := Lib.hid (show isB B (headL fs.length (fs.take (k + 1))) wE by rw [hsn.out]; exact I1)
        have bE := bD.trans x1
        have zE : B < wE.heap.size := by have := x1.size; omega
        clear ID bD QD zD cD I1 x1 k1 hsn
        go_wp2_with fail
        go_roundw
        case rel => exact ⟨k + 1, by go_num, by omega, IE, bE, zE⟩
        case measure => simp [intOf]; omega
      · obtain rfl : k = fs.length := by omega
        have I2 := Lib.hid (show isB B (headL fs.length fs ++ bodyL (fs.take 0)) wr by
          have h := HI.out
          rw [List.take_length] at h
          have e : headL fs.length fs ++ bodyL (fs.take 0) = headL fs.length fs := by simp [bodyL]
          rw [e]
          exact h)
        have hlen2 : (headL fs.length fs).length ≤ 2000 := by
          rw [List.take_length] at hlen
          exact hlen
        clear HI hlen hk hlt
        go_wp2_with fail
        go_loopw [10, 47] (fun _ i wr => ∃ k : Nat, i = .int .i64 k ∧ k ≤ fs.length ∧ Hid (isB B (headL fs.length fs ++ bodyL (fs.take k)) wr) ∧ Below B w1 wr ∧ B < wr.heap.size) (fun _ i _ => fs.length - (intOf i).toNat)
        case atStart => exact ⟨0, rfl, Nat.zero_le _, I2, hbr, hz⟩
        case round =>
          clear I2 hbr hz
          obtain ⟨k, rfl, hk, HI, hbr, hz⟩ := hrel
          have hlen : (headL fs.length fs ++ bodyL (fs.take k)).length ≤ 18000 := by
            have h1 := bodyL_len (fs.take k) (fun f hf => (Hs.out f (List.mem_of_mem_take hf)).2)
            have h3 : (fs.take k).length ≤ 8 := by rw [List.length_take]; omega
            rw [List.length_append]
            omega
          by_cases hlt : k < fs.length
          · obtain ⟨b, off, rfl, hb, c0, c1, c2⟩ := (HT1.out.below (w' := wr) (by rw [HB.out]; exact hbr)).get k hlt
            have hf2 := (Hs.out _ (List.getElem_mem hlt)).2
            have hsn := Lib.hid (show headL fs.length fs ++ bodyL (fs.take (k + 1)) = _ by rw [List.take_succ_eq_append_getElem hlt, bodyL_snoc, ← List.append_assoc])
            generalize headL fs.length fs ++ bodyL (fs.take k) = hd at HI hsn hlen
            generalize fs[k].path = p at c0
            generalize fs[k].mode = m at c1
            generalize fs[k].data = d at c2 hsn hf2
            have IA := Lib.hid (show isB B hd (wr.alloc (.cells #[.string p, .int .i64 m, .string d] 101)) from builder_below HI.out ((Below.refl _ _).alloc (Nat.le_refl _) _))
            have bA := hbr.alloc (Nat.le_of_lt hz) (.cells #[.string p, .int .i64 m, .string d] 101)
            have QA := Lib.hid (Blk.new wr [.string p, .int .i64 m, .string d] 101)
            have zA : B < (wr.alloc (.cells #[.string p, .int .i64 m, .string d] 101)).heap.size := by simp; omega
            go_wp2_with fail
            generalize wr.alloc (.cells #[.string p, .int .i64 m, .string d] 101) = wA at IA bA QA zA ⊢
            generalize wr.heap.size = q at QA hz ⊢
            have hqB : q ≠ B := by omega
            clear HI hbr hb c0 c1 c2
            have q2 : wA.cell? ⟨q, 2, none⟩ = some (.string d) := QA.out.cell 2
            have HLn := Lib.hid (show ∀ n, Calls Tryz.prog 101 #[.pointer (some ⟨B, 0, none⟩)] (wA.drewN n) fun e w' => e = .returned (.int .i64 (hd.length : Int)) ∧ wA.drewN n = w' from fun n => by
              have h := Tryz.Builder_Len B B (Lib.byteCells hd) (wA.drewN n) (builder_below IA.out (below_drewN (Below.refl _ _) n))
              rw [Lib.byteCells_length] at h
              exact h.mono (fun e w' ⟨he, hw⟩ => ⟨he, hw.symm⟩))
            go_quiet ((go_at_call 101; first | exact quiet_left (HLn.out _) | exact quiet_add_left (HLn.out _)))
            have IA2 := Lib.hid (show isB B hd (wA.drewN nq) from builder_below IA.out (below_drewN (Below.refl _ _) nq))
            have bA2 := below_drewN bA nq
            have q3 : (wA.drewN nq).cell? ⟨q, 2, none⟩ = some (.string d) := q2
            have zA2 : B < (wA.drewN nq).heap.size := zA
            generalize wA.drewN nq = wB at IA2 bA2 q3 zA2 ⊢
            clear IA bA QA zA q2 HLn
            go_wp2_with fail
            refine (write_any B hd d wB IA2.out (by omega) (by omega)).mono ?_
            rintro e wC ⟨rfl, I1, x1, k1⟩
            have IC := Lib.hid (show isB B (headL fs.length fs ++ bodyL (fs.take (k + 1))) wC by rw [hsn.out]; exact I1)
            have bC := bA2.trans x1
            have zC : B < wC.heap.size := by have := x1.size; omega
            clear IA2 bA2 zA2 q3 I1 x1 k1 hsn
            go_wp2_with fail
            go_roundw
            case rel => exact ⟨k + 1, by go_num, by omega, IC, bC, zC⟩
            case measure => simp [intOf]; omega
          · obtain rfl : k = fs.length := by omega
            have I3 := Lib.hid (show isB B (headL fs.length fs ++ bodyL fs) wr by
              have h := HI.out
              rw [List.take_length] at h
              exact h)
            clear HI hlen
            go_wp2_with fail
            refine (Tryz.Builder_String_any B B _ wr I3.out (by omega)).mono ?_
            rintro e wZ ⟨rfl, hbz⟩
            go_wp2_with fail
            go_ret2
            exact ⟨_, rfl, fun _ => rfl, HB1.out.trans ((hbr.trans hbz).mono (by rw [← HB.out]; exact HB1.out.size))⟩
  · have hcb : (checkE fs != 0) = true := by rw [bne_iff_ne]; exact hc
    have Hc := Lib.hid hc
    generalize checkE fs = ce at HC hcb Hc ⊢
    clear h hs hc
    go_enter Tryz.func63, Tryz.ntmps63
    go_wp2_with fail
    refine HC.out.mono ?_
    rintro e w1 ⟨rfl, hb1⟩
    go_wp2_with fail
    go_ret2
    exact ⟨_, rfl, fun h => absurd h Hc.out, hb1⟩
end Go.Proofs.YtmmnaieikfekfaaGreatDoor
