/- The walk of image.Of at a tree of few files. Conditions: at  -/
import Derived.Test.YtaemlplcjjbamaaGreatDoorBTree3
import Derived.Test.YtaemlplcjjbamaaGreatDoorBCFrame
namespace Go.Proofs.YtaemlplcjjbamaaGreatDoor
open Go.Lib (hid)
set_option maxRecDepth 100000
set_option maxHeartbeats 8000000
open Go Go.RowKit
set_option linter.unusedVariables false
variable {T : TypeId} {Ts : List TypeId} {Z Z' base c kb mb n sz : Nat} {bal id : Int} {s : ByteArray} {v : Value} {w w' w0 : World} {x y z : List Nat} {xs : List Value}
def isB (B : Nat) (bs : List UInt8) (w : World) : Prop := Lib.IsBuilder 134 5 B B (Lib.byteCells bs) w
theorem byteCells_append (l r : List UInt8) : Lib.byteCells (l ++ r) = Lib.byteCells l ++ Lib.byteCells r := by simp [Lib.byteCells]
theorem zEZ (B : Nat) (bs : List UInt8) (s : ByteArray) (w : World) (h : isB B bs w) (hlen : bs.length + s.size ≤ 1000000) (hBw : B ≤ w.heap.size) :
  Calls Tryz.prog 68 #[.pointer (some ⟨B, 0, none⟩), .string s] w fun e w' => e = .returned (.tuple #[.int .i64 s.size, .nilIface]) ∧ isB B (bs ++ s.data.toList) w' ∧ Below B w w' ∧ KeepB B w w' := by
 refine (zCw B B _ s w h (by rw [Lib.byteCells_length]; omega) hBw).mono ?_
 rintro e w' ⟨he, h1, h2, h3⟩
 refine ⟨he, Or.inr ?_, h2, h3⟩
 rw [byteCells_append]
 exact h1
theorem zGB (B n : Nat) (bs : List UInt8) (w : World) (h : isB B bs w) (hn : n ≤ 4611686018427387903) (hlen : bs.length ≤ 900000) (hBw : B ≤ w.heap.size) :
  Calls Tryz.prog 66 #[.int .i64 (n : Int), .pointer (some ⟨B, 0, none⟩)] w fun e w' => e = .returned (.tuple #[]) ∧ isB B (bs ++ cnL n) w' ∧ Below B w w' ∧ KeepB B w w' := by
 have H := hid h
 have hz := zDu hn
 have HN := hid (zDa n w hn)
 clear h
 go_enter Tryz.func66, Tryz.ntmps66
 go_wp2_with fail
 refine HN.out.mono ?_
 rintro e w1 ⟨rfl, hb1⟩
 have hs1 := hb1.size
 have H1 := hid (show isB B bs w1 from zAW H.out hb1)
 go_wp2_with fail
 refine (zEZ B bs (cnT n) w1 H1.out (by omega) (by omega)).mono ?_
 rintro e w2 ⟨rfl, h2, hb2, hk2⟩
 have HR := hid (show isB B (bs ++ cnL n) w2 ∧ Below B w w2 ∧ KeepB B w w2 from ⟨h2, (hb1.mono hBw).trans hb2, (KeepB.of_below hb1).trans hk2⟩)
 clear h2 hb2 hk2
 go_wp2_with fail
 go_end0
 exact ⟨rfl, HR.out⟩
theorem path_ok (h : pathE s = 0) : s.size ≤ 200 := by
 unfold pathE at h
 split at h
 ·omega
 ·omega
theorem zDY : ∀ (o : Option ByteArray) (l : List ByteArray), zAC o l = 0 → ∀ s ∈ l, pathE s = 0
 | _, [], _, s, hs => by cases hs
 | none, x :: r, h, s, hs => by
  unfold zAC at h
  split at h
  ·omega
  ·rename_i h0
   rcases List.mem_cons.1 hs with rfl | hs
   ·exact Decidable.not_not.1 h0
   ·exact zDY _ r h s hs
 | some p, x :: r, h, s, hs => by
  unfold zAC at h
  split at h
  ·omega
  ·rename_i h0
   split at h
   ·omega
   ·split at h
    ·omega
    ·rcases List.mem_cons.1 hs with rfl | hs
     ·exact Decidable.not_not.1 h0
     ·exact zDY _ r h s hs
theorem modes_ok : ∀ (l : List TFile), zCy l = 0 → ∀ f ∈ l, 0 ≤ f.mode ∧ f.mode ≤ 511
 | [], _, f, hf => by cases hf
 | x :: r, h, f, hf => by
  unfold zCy at h
  split at h
  ·omega
  ·split at h
   ·omega
   ·rcases List.mem_cons.1 hf with rfl | hf
    ·omega
    ·exact modes_ok r h f hf
theorem zGl {l : List TFile} (h : zAy l = 0) : ∀ f ∈ l, f.path.size ≤ 200 ∧ 0 ≤ f.mode ∧ f.mode ≤ 511 := by
 unfold zAy at h
 split at h
 ·omega
 ·rename_i h0
  intro f hf
  have h1 := Decidable.not_not.1 h0
  unfold zAP at h1
  split at h1
  ·omega
  ·exact ⟨path_ok (zDY _ _ h1 _ (List.mem_map.2 ⟨f, hf, rfl⟩)), modes_ok l h f hf⟩
def lineL (f : TFile) : List UInt8 := cnL f.path.size ++ f.path.data.toList ++ cnL f.mode.toNat ++ cnL f.data.size
def headL (n : Nat) (fs : List TFile) : List UInt8 := cnL n ++ fs.flatMap lineL
def bodyL (fs : List TFile) : List UInt8 := fs.flatMap fun f => f.data.data.toList
theorem zFT (n : Nat) (fs : List TFile) (f : TFile) : headL n (fs ++ [f]) = headL n fs ++ cnL f.path.size ++ f.path.data.toList ++ cnL f.mode.toNat ++ cnL f.data.size := by simp [headL, lineL]
theorem zFJ (fs : List TFile) (f : TFile) : bodyL (fs ++ [f]) = bodyL fs ++ f.data.data.toList := by simp [bodyL]
theorem lineL_len {f : TFile} (h : f.path.size ≤ 200 ∧ 0 ≤ f.mode ∧ f.mode ≤ 511) (hd : f.data.size ≤ 2000) : (lineL f).length ≤ 230 := by
 have h1 := zAI (n := f.path.size) (by omega)
 have h2 := zAI (n := f.mode.toNat) (by omega)
 have h3 := zAI (n := f.data.size) (by omega)
 unfold lineL
 simp only [List.length_append]
 have : f.path.data.toList.length = f.path.size := by simp
 omega
theorem zDv : ∀ (fs : List TFile), (∀ f ∈ fs, (f.path.size ≤ 200 ∧ 0 ≤ f.mode ∧ f.mode ≤ 511) ∧ f.data.size ≤ 2000) → (fs.flatMap lineL).length ≤ 230 * fs.length
 | [], _ => by simp
 | f :: r, h => by
  have h1 := lineL_len (h f (List.mem_cons.2 (Or.inl rfl))).1 (h f (List.mem_cons.2 (Or.inl rfl))).2
  have h2 := zDv r (fun g hg => h g (List.mem_cons.2 (Or.inr hg)))
  rw [List.flatMap_cons, List.length_append, List.length_cons]
  omega
theorem zDp : ∀ (fs : List TFile), (∀ f ∈ fs, f.data.size ≤ 2000) → (bodyL fs).length ≤ 2000 * fs.length
 | [], _ => by simp [bodyL]
 | f :: r, h => by
  have h1 := h f (List.mem_cons.2 (Or.inl rfl))
  have h2 := zDp r (fun g hg => h g (List.mem_cons.2 (Or.inr hg)))
  unfold bodyL at h2 ⊢
  rw [List.flatMap_cons, List.length_append, List.length_cons]
  have : f.data.data.toList.length = f.data.size := by simp
  omega
theorem zFk (ad : Option Addr) (cap : Nat) (fs : List TFile) (w : World) (h : TfsAt w ad fs) (hl : fs.length ≤ 8) (hs : ∀ f ∈ fs, f.path.size ≤ 9223372036854775807 ∧ f.data.size ≤ 2000) :
  Calls Tryz.prog 41 #[.slice ad fs.length cap] w fun e w' => ∃ s, e = .returned (.tuple #[.string s, .int .i64 (zAy fs)]) ∧ (zAy fs = 0 → s = ⟨(headL fs.length fs ++ bodyL fs).toArray⟩) ∧ Below w.heap.size w w' := by
 have hmf : ∀ (fn : Fn) (first cap : Array Value) (w : World), (Instr.makeFunc fn first cap).run Tryz.prog w = .ok (.func fn first cap) w := fun _ _ _ _ => rfl
 have H := hid h
 have Hs := hid hs
 have HC := hid (zHd ad cap fs w h (by omega) (fun f hf => ⟨(hs f hf).1, by have := (hs f hf).2; omega⟩))
 by_cases hc : zAy fs = 0
 ·have Hok := hid (zGl hc)
  rw [hc] at HC ⊢
  clear h hs hc
  go_enter Tryz.func41, Tryz.ntmps41
  go_wp2_with fail
  refine HC.out.mono ?_
  rintro e w1 ⟨rfl, hb1⟩
  go_wp2_with fail
  have HT1 := hid (H.out.below hb1)
  have HB1 := hid hb1
  have I0 : isB w1.heap.size [] (w1.alloc (.cells #[.pointer none, .slice none 0 0] 134)) := Lib.fresh_isBuilder _ _ _
  have b0 := (Below.refl w1.heap.size w1).alloc (Nat.le_refl _) (.cells #[.pointer none, .slice none 0 0] 134)
  have z0 : w1.heap.size < (w1.alloc (.cells #[.pointer none, .slice none 0 0] 134)).heap.size := by simp
  have hBB : w1.heap.size = w1.heap.size := rfl
  generalize w1.alloc (.cells #[.pointer none, .slice none 0 0] 134) = w2 at I0 b0 z0 ⊢
  generalize hB : w1.heap.size = B at I0 b0 z0 ⊢
  have HB := hid hB
  have I0' := hid I0
  clear hB hb1 I0 HC hBB
  refine (zGB B fs.length [] w2 I0'.out (by omega) (by simp) (by omega)).mono ?_
  rintro e w3 ⟨rfl, I1, b1, _⟩
  have I1' := hid (show isB B (headL fs.length (fs.take 0)) w3 by
   have e : headL fs.length (fs.take 0) = [] ++ cnL fs.length := by simp [headL]
   rw [e]
   exact I1)
  have b2 := b0.trans b1
  have z1 : B < w3.heap.size := by have := b1.size; omega
  clear I1 b1 b0 z0 I0'
  go_wp2_with fail
  go_loopw [8, 23] (fun _ i wr => ∃ k : Nat, i = .int .i64 k ∧ k ≤ fs.length ∧ Hid (isB B (headL fs.length (fs.take k)) wr) ∧ Below B w1 wr ∧ B < wr.heap.size) (fun _ i _ => fs.length - (intOf i).toNat)
  case atStart => exact ⟨0, rfl, Nat.zero_le _, I1', b2, z1⟩
  case round =>
   obtain ⟨k, rfl, hk, HI, hbr, hz⟩ := hrel
   clear I1' b2 z1
   have hlen : (headL fs.length (fs.take k)).length ≤ 2000 := by
    have h1 := zDv (fs.take k) (fun f hf => ⟨Hok.out f (List.mem_of_mem_take hf), (Hs.out f (List.mem_of_mem_take hf)).2⟩)
    have h2 := zAI (n := fs.length) (by omega)
    have h3 : (fs.take k).length ≤ 8 := by rw [List.length_take]; omega
    unfold headL
    rw [List.length_append]
    omega
   by_cases hlt : k < fs.length
   ·obtain ⟨b, off, rfl, hb, c0, c1, c2⟩ := (HT1.out.below (w' := wr) (by rw [HB.out]; exact hbr)).get k hlt
    have hf := Hok.out _ (List.getElem_mem hlt)
    have hf2 := (Hs.out _ (List.getElem_mem hlt)).2
    have hsn := hid (show headL fs.length (fs.take (k + 1)) = _ by rw [List.take_succ_eq_append_getElem hlt, zFT])
    obtain ⟨m, hm⟩ := Int.eq_ofNat_of_zero_le hf.2.1
    have hm2 : fs[k].mode.toNat = m := by rw [hm]; rfl
    rw [hm2] at hsn
    rw [hm] at c1
    have hm511 : m ≤ 511 := by have := hf.2.2; omega
    have hp200 := hf.1
    have hpl : fs[k].path.data.toList.length = fs[k].path.size := by simp
    generalize fs[k].path = p at c0 hsn hp200 hpl
    generalize fs[k].data = d at c2 hsn hf2
    generalize headL fs.length (fs.take k) = hd at HI hsn hlen
    have l1 := zAI (n := p.size) (by omega)
    have l2 := zAI (n := m) (by omega)
    clear hm hm2 hf
    have IA := hid (show isB B hd (wr.alloc (.cells #[.string p, .int .i64 (m : Int), .string d] 65)) from zAW HI.out ((Below.refl _ _).alloc (Nat.le_refl _) _))
    have bA := hbr.alloc (Nat.le_of_lt hz) (.cells #[.string p, .int .i64 (m : Int), .string d] 65)
    have QA := hid (Blk.new wr [.string p, .int .i64 (m : Int), .string d] 65)
    have zA : B < (wr.alloc (.cells #[.string p, .int .i64 (m : Int), .string d] 65)).heap.size := by simp; omega
    go_wp2_with fail
    generalize wr.alloc (.cells #[.string p, .int .i64 (m : Int), .string d] 65) = wA at IA bA QA zA ⊢
    generalize wr.heap.size = q at QA hz ⊢
    have hqB : q ≠ B := by omega
    clear HI hbr hb c0 c1 c2
    refine (zGB B p.size hd wA IA.out (by omega) (by omega) (by omega)).mono ?_
    rintro e wB ⟨rfl, I1, x1, k1⟩
    have IB := hid I1
    have bB := bA.trans x1
    have QB := hid (k1 q _ _ hqB (by decide) QA.out)
    have zB : B < wB.heap.size := by have := x1.size; omega
    have cB : wB.cell? ⟨q, 0, none⟩ = some (.string p) := QB.out.cell 0
    clear IA bA QA zA I1 x1 k1
    go_wp2_with fail
    refine (zEZ B _ p wB IB.out (by rw [List.length_append]; omega) (by omega)).mono ?_
    rintro e wC ⟨rfl, I1, x1, k1⟩
    have IC := hid I1
    have bC := bB.trans x1
    have QC := hid (k1 q _ _ hqB (by decide) QB.out)
    have zC : B < wC.heap.size := by have := x1.size; omega
    have cC : wC.cell? ⟨q, 1, none⟩ = some (.int .i64 (m : Int)) := QC.out.cell 1
    clear IB bB QB zB cB I1 x1 k1
    go_wp2_with fail
    refine (zGB B m _ wC IC.out (by omega) (by rw [List.length_append, List.length_append]; omega) (by omega)).mono ?_
    rintro e wD ⟨rfl, I1, x1, k1⟩
    have ID := hid I1
    have bD := bC.trans x1
    have QD := hid (k1 q _ _ hqB (by decide) QC.out)
    have zD : B < wD.heap.size := by have := x1.size; omega
    have cD : wD.cell? ⟨q, 2, none⟩ = some (.string d) := QD.out.cell 2
    clear IC bC QC zC cC I1 x1 k1
    go_wp2_with fail
    refine (zGB B d.size _ wD ID.out (by omega) (by rw [List.length_append, List.length_append, List.length_append]; omega) (by omega)).mono ?_
    rintro e wE ⟨rfl, I1, x1, k1⟩
    have IE := hid (show isB B (headL fs.length (fs.take (k + 1))) wE by rw [hsn.out]; exact I1)
    have bE := bD.trans x1
    have zE : B < wE.heap.size := by have := x1.size; omega
    clear ID bD QD zD cD I1 x1 k1 hsn
    go_wp2_with fail
    go_roundw
    case rel => exact ⟨k + 1, by go_num, by omega, IE, bE, zE⟩
    case measure => simp [intOf]; omega
   ·obtain rfl : k = fs.length := by omega
    have I2 := hid (show isB B (headL fs.length fs ++ bodyL (fs.take 0)) wr by
     have h := HI.out
     rw [List.take_length] at h
     have e : headL fs.length fs ++ bodyL (fs.take 0) = headL fs.length fs := by simp [bodyL]
     rw [e]
     exact h)
    have hlen2 : (headL fs.length fs).length ≤ 2000 := by
     rw [List.take_length] at hlen
     exact hlen
    clear HI hlen hk hlt
    go_wp2_with fail
    go_loopw [10, 47] (fun _ i wr => ∃ k : Nat, i = .int .i64 k ∧ k ≤ fs.length ∧ Hid (isB B (headL fs.length fs ++ bodyL (fs.take k)) wr) ∧ Below B w1 wr ∧ B < wr.heap.size) (fun _ i _ => fs.length - (intOf i).toNat)
    case atStart => exact ⟨0, rfl, Nat.zero_le _, I2, hbr, hz⟩
    case round =>
     clear I2 hbr hz
     obtain ⟨k, rfl, hk, HI, hbr, hz⟩ := hrel
     have hlen : (headL fs.length fs ++ bodyL (fs.take k)).length ≤ 18000 := by
      have h1 := zDp (fs.take k) (fun f hf => (Hs.out f (List.mem_of_mem_take hf)).2)
      have h3 : (fs.take k).length ≤ 8 := by rw [List.length_take]; omega
      rw [List.length_append]
      omega
     by_cases hlt : k < fs.length
     ·obtain ⟨b, off, rfl, hb, c0, c1, c2⟩ := (HT1.out.below (w' := wr) (by rw [HB.out]; exact hbr)).get k hlt
      have hf2 := (Hs.out _ (List.getElem_mem hlt)).2
      have hsn := hid (show headL fs.length fs ++ bodyL (fs.take (k + 1)) = _ by rw [List.take_succ_eq_append_getElem hlt, zFJ, ← List.append_assoc])
      generalize headL fs.length fs ++ bodyL (fs.take k) = hd at HI hsn hlen
      generalize fs[k].path = p at c0
      generalize fs[k].mode = m at c1
      generalize fs[k].data = d at c2 hsn hf2
      have IA := hid (show isB B hd (wr.alloc (.cells #[.string p, .int .i64 m, .string d] 65)) from zAW HI.out ((Below.refl _ _).alloc (Nat.le_refl _) _))
      have bA := hbr.alloc (Nat.le_of_lt hz) (.cells #[.string p, .int .i64 m, .string d] 65)
      have QA := hid (Blk.new wr [.string p, .int .i64 m, .string d] 65)
      have zA : B < (wr.alloc (.cells #[.string p, .int .i64 m, .string d] 65)).heap.size := by simp; omega
      go_wp2_with fail
      generalize wr.alloc (.cells #[.string p, .int .i64 m, .string d] 65) = wA at IA bA QA zA ⊢
      generalize wr.heap.size = q at QA hz ⊢
      have hqB : q ≠ B := by omega
      clear HI hbr hb c0 c1 c2
      have q2 : wA.cell? ⟨q, 2, none⟩ = some (.string d) := QA.out.cell 2
      have HLn := hid (show ∀ n, Calls Tryz.prog 69 #[.pointer (some ⟨B, 0, none⟩)] (wA.drewN n) fun e w' => e = .returned (.int .i64 (hd.length : Int)) ∧ wA.drewN n = w' from fun n => by
       have h := Tryz.Builder_Len B B (Lib.byteCells hd) (wA.drewN n) (zAW IA.out (below_drewN (Below.refl _ _) n))
       rw [Lib.byteCells_length] at h
       exact h.mono (fun e w' ⟨he, hw⟩ => ⟨he, hw.symm⟩))
      go_quiet ((go_at_call 69; first | exact zAf (HLn.out _) | exact quiet_add_left (HLn.out _)))
      have IA2 := hid (show isB B hd (wA.drewN nq) from zAW IA.out (below_drewN (Below.refl _ _) nq))
      have bA2 := below_drewN bA nq
      have q3 : (wA.drewN nq).cell? ⟨q, 2, none⟩ = some (.string d) := q2
      have zA2 : B < (wA.drewN nq).heap.size := zA
      generalize wA.drewN nq = wB at IA2 bA2 q3 zA2 ⊢
      clear IA bA QA zA q2 HLn
      go_wp2_with fail
      refine (zEZ B hd d wB IA2.out (by omega) (by omega)).mono ?_
      rintro e wC ⟨rfl, I1, x1, k1⟩
      have IC := hid (show isB B (headL fs.length fs ++ bodyL (fs.take (k + 1))) wC by rw [hsn.out]; exact I1)
      have bC := bA2.trans x1
      have zC : B < wC.heap.size := by have := x1.size; omega
      clear IA2 bA2 zA2 q3 I1 x1 k1 hsn
      go_wp2_with fail
      go_roundw
      case rel => exact ⟨k + 1, by go_num, by omega, IC, bC, zC⟩
      case measure => simp [intOf]; omega
     ·obtain rfl : k = fs.length := by omega
      have I3 := hid (show isB B (headL fs.length fs ++ bodyL fs) wr by
       have h := HI.out
       rw [List.take_length] at h
       exact h)
      clear HI hlen
      go_wp2_with fail
      refine (Tryz.Builder_String_any B B _ wr I3.out (by omega)).mono ?_
      rintro e wZ ⟨rfl, hbz⟩
      go_wp2_with fail
      go_ret2
      exact ⟨_, rfl, fun _ => rfl, HB1.out.trans ((hbr.trans hbz).mono (by rw [← HB.out]; exact HB1.out.size))⟩
 ·have hcb : (zAy fs != 0) = true := by rw [bne_iff_ne]; exact hc
  have Hc := hid hc
  generalize zAy fs = ce at HC hcb Hc ⊢
  clear h hs hc
  go_enter Tryz.func41, Tryz.ntmps41
  go_wp2_with fail
  refine HC.out.mono ?_
  rintro e w1 ⟨rfl, hb1⟩
  go_wp2_with fail
  go_ret2
  exact ⟨_, rfl, fun h => absurd h Hc.out, hb1⟩
structure JobD where
 j : Nat
 ta : Nat
 tf : Nat
 gen : Int
 bal : Int
 mrk : ByteArray
 img : ByteArray
 cl : Bool
 old : Bool
 aM : List Bool
 fM : List Bool
structure FetD where
 f : Nat
 gen : Int
 mrk : ByteArray
 box : Value
 rank : Int
 age : Int
structure CalD where
 k : Nat
 kd : Int
 kg : Int
 ad : Option Addr
 cap : Nat
 fs : List TFile
structure AnsD where
 a : Nat
 e : Int
 g : Int
 f : Int
 fa : Option Addr
 fl : Nat
 fc : Nat
 ma : Option Addr
 ml : Nat
 mc : Nat
structure Dt where
 l : List Ent
 I : List (Int × List UInt8)
 ag : List Ent
 ps : List Peer
 pms : List Prom
 pt : Nat
 pM : List Bool
 job : Option JobD
 fet : Option FetD
 cal : Option CalD
 yes : Option (Nat × List Bool)
 prn : Option (Nat × List Bool)
 ans : Option AnsD
 Bk : List ByteArray
def ptrO (o : Option Nat) : Value := .pointer (o.map fun b => ⟨b, 0, none⟩)
def JobD.tals : Option JobD → List Nat
 | none => []
 | some j => [j.ta, j.tf]
def talO : Option (Nat × List Bool) → List Nat
 | none => []
 | some t => [t.1]
def Dt.tals (D : Dt) : List Nat := D.pt :: (JobD.tals D.job ++ (talO D.yes ++ talO D.prn))
def Maj (n : Nat) (P : Nat → Prop) : Prop := ∃ M : List Bool, wonT M n = true ∧ ∀ i, i < n → M.getD i false = true → P i
theorem Maj.imp {P Q : Nat → Prop} (h : Maj n P) (hi : ∀ i, P i → Q i) : Maj n Q := by
 obtain ⟨M, h1, h2⟩ := h
 exact ⟨M, h1, fun i hi' hm => hi i (h2 i hi' hm)⟩
structure Gh where
 VA : Int → ByteArray → Nat → Prop
 VY : Int → Nat → Prop
 gk : Int
 gm : ByteArray
 gb : Prop
 bb : Nat
def imgT (fs : List TFile) : List UInt8 := headL fs.length fs ++ bodyL fs
def Votes (n : Nat) (M : List Bool) (P : Nat → Prop) : Prop := ∀ i, i < n → M.getD i false = true → P i
def zDw (B : Nat) (w : World) (p : Peer) : Prop := p.pack = .pointer none ∨ ∃ (pk : Nat) (gen bas : Int) (mk : ByteArray) (pv : Value) (l : List (Int × Int × ByteArray)), p.pack = .pointer (some ⟨pk, 0, none⟩) ∧ Blk w pk (packVals gen bas mk pv) 156 ∧ w.ownsRow B 27 3 pv l.length (zBb l) ∧ 1 ≤ l.length ∧ l.length ≤ 4096 ∧ 0 ≤ p.cursor ∧ p.cursor < l.length ∧ (∀ x ∈ l, x.2.2.size ≤ 524289)
def zCm (F : FetD) : List Value := [.int .i64 F.gen, .string F.mrk, F.box, .int .i64 F.rank, .int .i64 F.age]
def BoxOk (B : Nat) (w : World) (v : Value) : Prop := v = .pointer none ∨ ∃ (b gp gh : Nat) (m : List (Option ByteArray)), v = .pointer (some ⟨b, 0, none⟩) ∧ B ≤ b ∧ B ≤ gp ∧ B ≤ gh ∧ b ≠ gp ∧ b ≠ gh ∧ gp ≠ gh ∧
 Blk w b [.slice (some ⟨gp, 0, none⟩) m.length m.length, .slice (some ⟨gh, 0, none⟩) m.length m.length, .int .i64 ((m.countP (·.isNone) : Nat) : Int), .int .i64 (((m.map fun o => (o.getD ByteArray.empty).size).sum : Nat) : Int)] 166 ∧
 Blk w gp (m.map fun o => .string (o.getD ByteArray.empty)) 9 ∧ Blk w gh (m.map fun o => .bool o.isSome) 4 ∧ 1 ≤ m.length ∧ m.length ≤ 4096 ∧ ((m.map fun o => (o.getD ByteArray.empty).size).sum ≤ 524288)
structure Gf (w0 : World) (c kb mb n : Nat) (id bal : Int) (G : Gh) (Z : Nat) (D : Dt) (S : CSt) (w : World) : Prop where
 id_ : S.id = id
 n_ : S.n = (n : Int)
 n1 : 1 ≤ n
 n9 : n ≤ 9
 bk_ : S.book = .pointer (some ⟨kb, 0, none⟩)
 bal_ : S.ballot = bal
 ph : S.phase = 0 ∨ S.phase = 1 ∨ S.phase = 2
 left : -(Z : Int) ≤ S.left ∧ S.left ≤ 1000
 read : 0 ≤ S.read ∧ S.read ≤ Z
 below : Below w0.heap.size w0 w
 c0 : w0.heap.size ≤ c
 m0 : w0.heap.size ≤ mb
 cho : RAt w w0.heap.size 102 3 S.chosen D.l.length (zAs D.l)
 choL : D.l.length ≤ 1000 * Z
 img : RAt w w0.heap.size 151 2 S.images D.I.length (knV D.I)
 imgL : D.I.length ≤ 32
 imgS : ∀ x ∈ D.I, x.2.length ≤ 524288
 agn : RAt w w0.heap.size 102 3 S.again D.ag.length (zAs D.ag)
 agnL : D.ag.length ≤ 16
 dif : ∀ g, S.chosen.ownBlock = some g → S.again.ownBlock ≠ some g
 prs : S.peers = zAg D.ps
 prsL : D.ps.length = 9
 pck : ∀ p ∈ D.ps, zDw w0.heap.size w p
 prm : S.promised = .pointer (some ⟨D.pt, 0, none⟩)
 prmT : zAi w D.pt n D.pM
 pms : zDW w0 w S.promises D.pms
 pmsL : D.pms.length ≤ Z
 pmsS : ∀ p ∈ D.pms, p.list.length ≤ 1000
 job : S.job = ptrO (D.job.map (·.j))
 jobB : ∀ J, D.job = some J → Blk w J.j (zBY J.gen J.bal J.mrk J.img J.ta J.tf J.cl J.old) 104 ∧ zAi w J.ta n J.aM ∧ zAi w J.tf n J.fM ∧ w0.heap.size ≤ J.j ∧ J.img.size ≤ 524288 ∧ Votes n J.aM (G.VA J.gen J.mrk)
 cli : ∀ J, D.job = some J → J.cl = true → D.cal ≠ none ∧ G.gk = 1 ∧ (G.gb → J.mrk = G.gm)
 fet : S.fetch = ptrO (D.fet.map (·.f))
 fetB : ∀ F, D.fet = some F → Blk w F.f (zCm F) 129 ∧ w0.heap.size ≤ F.f ∧ BoxOk w0.heap.size w F.box
 cal : S.call = ptrO (D.cal.map (·.k))
 calB : ∀ C, D.cal = some C → Blk w C.k [.int .i64 C.kd, .int .i64 C.kg, .slice C.ad C.fs.length C.cap] 33 ∧ w.ownsRow 0 65 3 (.slice C.ad C.fs.length C.cap) C.fs.length (zAq C.fs) ∧ C.fs.length ≤ 8 ∧ (∀ f ∈ C.fs, f.path.size ≤ 9223372036854775807 ∧ f.data.size ≤ 2000) ∧ C.kd = G.gk
 yes : S.yes = ptrO (D.yes.map (·.1))
 yesB : ∀ t, D.yes = some t → zAi w t.1 n t.2 ∧ Votes n t.2 (G.VY S.read) ∧ D.cal ≠ none
 prn : S.pruned = ptrO (D.prn.map (·.1))
 prnB : ∀ t, D.prn = some t → zAi w t.1 n t.2 ∧ D.cal ≠ none ∧ G.gk ≠ 1 ∧ ∃ r, Maj n (G.VY r)
 ans : S.answer = ptrO (D.ans.map (·.a))
 ansB : ∀ A, D.ans = some A → Blk w A.a (zBv A.e A.g A.f (.slice A.fa A.fl A.fc) (.slice A.ma A.ml A.mc)) 51 ∧ (A.e = 0 → (G.gk = 1 → G.gb → Maj n (G.VA A.g G.gm)) ∧ (G.gk ≠ 1 → ∃ r, Maj n (G.VY r)))
 one : D.cal = none ∨ D.ans = none
 tals : D.tals.Nodup
 talB : ∀ t ∈ D.tals, w0.heap.size ≤ t
 bok : zAo w kb mb D.Bk
 bokL : D.Bk.length ≤ G.bb
 mk1 : ∀ C, D.cal = some C → C.kd = 1 → zAy C.fs = 0 → G.gb → ba (imgT C.fs) ∈ D.Bk ∧ zAt D.Bk (ba (imgT C.fs)) = G.gm
structure Gc (w0 : World) (c kb mb n : Nat) (id bal : Int) (G : Gh) (Z : Nat) (D : Dt) (S : CSt) (w : World) : Prop where
 at_ : zAb w c S
 gf : Gf w0 c kb mb n id bal G Z D S w
theorem RAt.keep (h : RAt w base T sz v n xs) (k : KeepT Ts w w') (hT : ¬ T ∈ Ts) : RAt w' base T sz v n xs := h.keepB (fun q cs hq => k.1 q cs T hT hq)
theorem zDw.keep {B : Nat} {p : Peer} (h : zDw B w p) (k : KeepT Ts w w') (h1 : ¬ 156 ∈ Ts) (h2 : ¬ 27 ∈ Ts) : zDw B w' p := by
 rcases h with h | ⟨pk, gen, bas, mk, pv, l, a1, a2, a3, a4⟩
 ·exact Or.inl h
 ·exact Or.inr ⟨pk, gen, bas, mk, pv, l, a1, k.1 _ _ _ h1 a2, k.2 _ _ _ _ _ _ h2 a3, a4⟩
theorem BoxOk.keep {B : Nat} (h : BoxOk B w v) (k : KeepT Ts w w') (h1 : ¬ 166 ∈ Ts) (h2 : ¬ 9 ∈ Ts) (h3 : ¬ 4 ∈ Ts) : BoxOk B w' v := by
 rcases h with h | ⟨b, gp, gh, m, a1, a2, a3, a4, a5, a6, a7, a8, a9, a10, a11⟩
 ·exact Or.inl h
 ·exact Or.inr ⟨b, gp, gh, m, a1, a2, a3, a4, a5, a6, a7, k.1 _ _ _ h1 a8, k.1 _ _ _ h2 a9, k.1 _ _ _ h3 a10, a11⟩
theorem zCD {l : List Prom} (h : zDW w0 w v l) (k : KeepT Ts w w') (h1 : ¬ 171 ∈ Ts) : zDW w0 w' v l := by
 obtain ⟨cs, r1, r2⟩ := h
 exact ⟨cs, k.2 _ _ _ _ _ _ h1 r1, r2⟩
def tyF : List TypeId := [102, 151, 156, 27, 115, 171, 104, 129, 166, 9, 4, 33, 65, 51]
def tyC : List TypeId := 78 :: tyF
theorem Gf.keep {G : Gh} {D : Dt} {S : CSt} (h : Gf w0 c kb mb n id bal G Z D S w) (k : Keep Ts w w') (b : Below w0.heap.size w0 w') (q : ∀ t ∈ tyF, ¬ t ∈ Ts) : Gf w0 c kb mb n id bal G Z D S w' :=
 { h with
  below := b
  cho := h.cho.keep k.1 (q _ (by decide))
  img := h.img.keep k.1 (q _ (by decide))
  agn := h.agn.keep k.1 (q _ (by decide))
  pck := fun p hp => (h.pck p hp).keep k.1 (q _ (by decide)) (q _ (by decide))
  prmT := h.prmT.keep k.1 (q _ (by decide))
  pms := zCD h.pms k.1 (q _ (by decide))
  jobB := fun J hJ => by
   obtain ⟨a1, a2, a3, a4⟩ := h.jobB J hJ
   exact ⟨k.1.1 _ _ _ (q _ (by decide)) a1, a2.keep k.1 (q _ (by decide)), a3.keep k.1 (q _ (by decide)), a4⟩
  fetB := fun F hF => by
   obtain ⟨a1, a2, a3⟩ := h.fetB F hF
   exact ⟨k.1.1 _ _ _ (q _ (by decide)) a1, a2, a3.keep k.1 (q _ (by decide)) (q _ (by decide)) (q _ (by decide))⟩
  calB := fun C hC => by
   obtain ⟨a1, a2, a3⟩ := h.calB C hC
   exact ⟨k.1.1 _ _ _ (q _ (by decide)) a1, k.1.2 _ _ _ _ _ _ (q _ (by decide)) a2, a3⟩
  yesB := fun t ht => ⟨(h.yesB t ht).1.keep k.1 (q _ (by decide)), (h.yesB t ht).2⟩
  prnB := fun t ht => ⟨(h.prnB t ht).1.keep k.1 (q _ (by decide)), (h.prnB t ht).2⟩
  ansB := fun A hA => ⟨k.1.1 _ _ _ (q _ (by decide)) (h.ansB A hA).1, (h.ansB A hA).2⟩
  bok := k.2 _ _ _ h.bok }
theorem Gf.keepX {G : Gh} {D : Dt} {S : CSt} (h : Gf w0 c kb mb n id bal G Z D S w) (k : KeepT Ts w w') (b : Below w0.heap.size w0 w')
  (bok : zAo w' kb mb D.Bk)
  (entry : 102 ∈ Ts → RAt w' w0.heap.size 102 3 S.chosen D.l.length (zAs D.l) ∧ RAt w' w0.heap.size 102 3 S.again D.ag.length (zAs D.ag) := by intro e; exact absurd e (by decide))
  (known : 151 ∈ Ts → RAt w' w0.heap.size 151 2 S.images D.I.length (knV D.I) := by intro e; exact absurd e (by decide))
  (pack : 156 ∈ Ts ∨ 27 ∈ Ts → ∀ p ∈ D.ps, zDw w0.heap.size w' p := by intro e; exact absurd e (by decide))
  (tally : 115 ∈ Ts → ∀ t ∈ D.tals, ∀ m, zAi w t n m → zAi w' t n m := by intro e; exact absurd e (by decide))
  (promise : 171 ∈ Ts → zDW w0 w' S.promises D.pms := by intro e; exact absurd e (by decide))
  (job : 104 ∈ Ts → ∀ J, D.job = some J → Blk w' J.j (zBY J.gen J.bal J.mrk J.img J.ta J.tf J.cl J.old) 104 := by intro e; exact absurd e (by decide))
  (fetch : 129 ∈ Ts ∨ 166 ∈ Ts ∨ 9 ∈ Ts ∨ 4 ∈ Ts → ∀ F, D.fet = some F → Blk w' F.f (zCm F) 129 ∧ BoxOk w0.heap.size w' F.box := by intro e; exact absurd e (by decide))
  (call : 33 ∈ Ts ∨ 65 ∈ Ts → ∀ C, D.cal = some C → Blk w' C.k [.int .i64 C.kd, .int .i64 C.kg, .slice C.ad C.fs.length C.cap] 33 ∧ w'.ownsRow 0 65 3 (.slice C.ad C.fs.length C.cap) C.fs.length (zAq C.fs) := by intro e; exact absurd e (by decide))
  (answer : 51 ∈ Ts → ∀ A, D.ans = some A → Blk w' A.a (zBv A.e A.g A.f (.slice A.fa A.fl A.fc) (.slice A.ma A.ml A.mc)) 51 := by intro e; exact absurd e (by decide)) : Gf w0 c kb mb n id bal G Z D S w' := by
 have tl : ∀ t ∈ D.tals, ∀ m, zAi w t n m → zAi w' t n m := fun t ht m hm => by
  by_cases e : 115 ∈ Ts
  ·exact tally e t ht m hm
  ·exact hm.keep k e
 exact { h with
  below := b
  bok := bok
  cho := by
   by_cases e : 102 ∈ Ts
   ·exact (entry e).1
   ·exact h.cho.keep k e
  agn := by
   by_cases e : 102 ∈ Ts
   ·exact (entry e).2
   ·exact h.agn.keep k e
  img := by
   by_cases e : 151 ∈ Ts
   ·exact known e
   ·exact h.img.keep k e
  pck := fun p hp => by
   by_cases e : 156 ∈ Ts ∨ 27 ∈ Ts
   ·exact pack e p hp
   ·exact (h.pck p hp).keep k (fun x => e (Or.inl x)) (fun x => e (Or.inr x))
  prmT := tl _ (by unfold Dt.tals; exact List.mem_cons_self) _ h.prmT
  pms := by
   by_cases e : 171 ∈ Ts
   ·exact promise e
   ·exact zCD h.pms k e
  jobB := fun J hJ => by
   obtain ⟨a1, a2, a3, a4⟩ := h.jobB J hJ
   have m1 : J.ta ∈ D.tals := by unfold Dt.tals; rw [hJ]; simp [JobD.tals]
   have m2 : J.tf ∈ D.tals := by unfold Dt.tals; rw [hJ]; simp [JobD.tals]
   refine ⟨?_, tl _ m1 _ a2, tl _ m2 _ a3, a4⟩
   by_cases e : 104 ∈ Ts
   ·exact job e J hJ
   ·exact k.1 _ _ _ e a1
  fetB := fun F hF => by
   obtain ⟨a1, a2, a3⟩ := h.fetB F hF
   by_cases e : 129 ∈ Ts ∨ 166 ∈ Ts ∨ 9 ∈ Ts ∨ 4 ∈ Ts
   ·exact ⟨(fetch e F hF).1, a2, (fetch e F hF).2⟩
   ·exact ⟨k.1 _ _ _ (fun x => e (Or.inl x)) a1, a2, a3.keep k (fun x => e (Or.inr (Or.inl x))) (fun x => e (Or.inr (Or.inr (Or.inl x)))) (fun x => e (Or.inr (Or.inr (Or.inr x))))⟩
  calB := fun C hC => by
   obtain ⟨a1, a2, a3⟩ := h.calB C hC
   by_cases e : 33 ∈ Ts ∨ 65 ∈ Ts
   ·exact ⟨(call e C hC).1, (call e C hC).2, a3⟩
   ·exact ⟨k.1 _ _ _ (fun x => e (Or.inl x)) a1, k.2 _ _ _ _ _ _ (fun x => e (Or.inr x)) a2, a3⟩
  yesB := fun t ht => ⟨tl _ (by unfold Dt.tals; rw [ht]; simp [talO]) _ (h.yesB t ht).1, (h.yesB t ht).2⟩
  prnB := fun t ht => ⟨tl _ (by unfold Dt.tals; rw [ht]; simp [talO]) _ (h.prnB t ht).1, (h.prnB t ht).2⟩
  ansB := fun A hA => by
   obtain ⟨a1, a2⟩ := h.ansB A hA
   by_cases e : 51 ∈ Ts
   ·exact ⟨answer e A hA, a2⟩
   ·exact ⟨k.1 _ _ _ e a1, a2⟩ }
theorem Gc.keep {G : Gh} {D : Dt} {S : CSt} (h : Gc w0 c kb mb n id bal G Z D S w) (k : Keep Ts w w') (b : Below w0.heap.size w0 w') (q : ∀ t ∈ tyC, ¬ t ∈ Ts) : Gc w0 c kb mb n id bal G Z D S w' :=
 ⟨h.at_.keep k.1 (q _ (by decide)), h.gf.keep k b (fun t ht => q t (List.mem_cons_of_mem _ ht))⟩
theorem Gc.quiet {G : Gh} {D : Dt} {S : CSt} (h : Gc w0 c kb mb n id bal G Z D S w) (hb : Below w.heap.size w w') : Gc w0 c kb mb n id bal G Z D S w' :=
 h.keep (Ts := []) (Keep.of_below hb) ((zAd h.gf.below hb).mono (Nat.le_refl _)) (fun t _ => by simp)
def Abw (w0 w w' : World) : Prop := Touch (fun k => w0.heap.size ≤ k) w w'
theorem Abw.below (h : Below w0.heap.size w0 w) (a : Abw w0 w w') : Below w0.heap.size w0 w' := h.trans (Touch.below a h.size (fun k hk hs => by omega))
def Fr (w0 w w' : World) : Prop := KeepT tyC w w' ∧ Abw w0 w w'
theorem Fr.trans {w0 a b c : World} (h : Fr w0 a b) (k : Fr w0 b c) : Fr w0 a c := ⟨h.1.trans k.1, Touch.trans h.2 k.2⟩
theorem Fr.of_below (h : Below w.heap.size w w') : Fr w0 w w' := ⟨KeepT.of_below h, Touch.of_below h⟩
def Gs (w0 : World) (c kb mb n : Nat) (id bal : Int) (G : Gh) (Z : Nat) (w : World) : Prop := ∃ D S, Gc w0 c kb mb n id bal G Z D S w
theorem Gf.coord {G : Gh} {D : Dt} {S : CSt} (h : Gf w0 c kb mb n id bal G Z D S w) (hc : zAb w c S) (hT : Touch (fun k => k = c) w w') : Gf w0 c kb mb n id bal G Z D S w' ∧ Fr w0 w w' := by
 have k := zCO hc hT
 have hc0 := h.c0
 have ha : Abw w0 w w' := hT.mono (fun q _ e => by omega)
 exact ⟨h.keep k (ha.below h.below) (by decide), k.1.mono (by decide), ha⟩
theorem Gf.mono {G : Gh} {D : Dt} {S : CSt} (h : Gf w0 c kb mb n id bal G Z D S w) (hZ : Z ≤ Z') : Gf w0 c kb mb n id bal G Z' D S w :=
 { h with
  read := ⟨h.read.1, by have := h.read.2; omega⟩
  left := ⟨by have := h.left.1; omega, h.left.2⟩
  choL := Nat.le_trans h.choL (Nat.mul_le_mul_left _ hZ)
  pmsL := Nat.le_trans h.pmsL hZ }
def Gh.more (G : Gh) (k : Nat) : Gh := { G with bb := G.bb + k }
theorem Gf.more {G : Gh} {D : Dt} {S : CSt} (h : Gf w0 c kb mb n id bal G Z D S w) (k : Nat) : Gf w0 c kb mb n id bal (G.more k) Z D S w :=
 { h with bokL := Nat.le_trans h.bokL (Nat.le_add_right _ _) }
theorem Gs.more {G : Gh} (h : Gs w0 c kb mb n id bal G Z w) (k : Nat) : Gs w0 c kb mb n id bal (G.more k) Z w := by
 obtain ⟨D, S, h1⟩ := h
 exact ⟨D, S, h1.at_, h1.gf.more k⟩
theorem Gf.book {G : Gh} {D : Dt} {S : CSt} (h : Gf w0 c kb mb n id bal G Z D S w) (hT : Touch (fun q => q = mb) w w') (B' : List ByteArray) (hb : zAo w' kb mb B') (hX : Ext D.Bk B') (k : Nat) (hl : B'.length ≤ G.bb + k) :
  Gf w0 c kb mb n id bal (G.more k) Z { D with Bk := B' } S w' ∧ Fr w0 w w' ∧ KeepT [] w w' := by
 have hk : KeepT [] w w' := KeepT.of_touch hT (fun q _ hq => by subst hq; exact Or.inr ⟨kb, D.Bk, h.bok⟩)
 have hm0 := h.m0
 have hab : Abw w0 w w' := hT.mono (fun q _ hq => by omega)
 have no : ∀ T : TypeId, T ∈ ([] : List TypeId) → False := fun T e => by cases e
 have h1 : Gf w0 c kb mb n id bal G Z D S w → Gf w0 c kb mb n id bal (G.more k) Z { D with Bk := B' } S w' := fun h => { h with
  below := hab.below h.below
  cho := h.cho.keep hk (no _)
  img := h.img.keep hk (no _)
  agn := h.agn.keep hk (no _)
  pck := fun p hp => (h.pck p hp).keep hk (no _) (no _)
  prmT := h.prmT.keep hk (no _)
  pms := zCD h.pms hk (no _)
  jobB := fun J hJ => by
   obtain ⟨a1, a2, a3, a4⟩ := h.jobB J hJ
   exact ⟨hk.1 _ _ _ (no _) a1, a2.keep hk (no _), a3.keep hk (no _), a4⟩
  fetB := fun F hF => by
   obtain ⟨a1, a2, a3⟩ := h.fetB F hF
   exact ⟨hk.1 _ _ _ (no _) a1, a2, a3.keep hk (no _) (no _) (no _)⟩
  calB := fun C hC => by
   obtain ⟨a1, a2, a3⟩ := h.calB C hC
   exact ⟨hk.1 _ _ _ (no _) a1, hk.2 _ _ _ _ _ _ (no _) a2, a3⟩
  yesB := fun t ht => ⟨(h.yesB t ht).1.keep hk (no _), (h.yesB t ht).2⟩
  prnB := fun t ht => ⟨(h.prnB t ht).1.keep hk (no _), (h.prnB t ht).2⟩
  ansB := fun A hA => ⟨hk.1 _ _ _ (no _) (h.ansB A hA).1, (h.ansB A hA).2⟩
  bok := hb
  bokL := hl
  mk1 := fun C hC h1 h2 h3 => by
   obtain ⟨a1, a2⟩ := h.mk1 C hC h1 h2 h3
   exact ⟨(hX _ a1).1, by rw [hX.mark a1, a2]; rfl⟩ }
 exact ⟨h1 h, ⟨hk.mono (by simp), hab⟩, hk⟩
theorem Gs.mono {G : Gh} (h : Gs w0 c kb mb n id bal G Z w) (hZ : Z ≤ Z') : Gs w0 c kb mb n id bal G Z' w := by
 obtain ⟨D, S, h1⟩ := h
 exact ⟨D, S, h1.at_, h1.gf.mono hZ⟩
theorem end_nil (b : Nat) (c : CSt) (e g f : Int) (fa ma : Option Addr) (fl fc ml mc : Nat) (w : World) (h : zAb w b c) (hc : c.call = .pointer none) :
  Calls Tryz.prog 21 #[.pointer (some ⟨b, 0, none⟩), .agg #[.int .i64 e, .int .i64 g, .int .i64 f, .slice fa fl fc, .slice ma ml mc]] w fun x w' => x = .returned (.tuple #[]) ∧ Below w.heap.size w w' := by
 have hbl := h.1.lt
 have h86 : w.cell? ⟨b, 86, none⟩ = some (.pointer none) := by have := h.ft 2; rw [← hc]; exact this
 have HB := hid ((Below.refl w.heap.size w).alloc (Nat.le_refl _) (.cells #[.int .i64 e, .int .i64 g, .int .i64 f, .slice fa fl fc, .slice ma ml mc] 51))
 clear h hc
 go_enter Tryz.func21, Tryz.ntmps21
 go_wp2
 refine bodyPost_ret (results_none rfl _ _ _) rfl ⟨rfl, ?_⟩
 first | exact HB.out | exact Below.refl _ _
theorem end_job (b k j : Nat) (c : CSt) (x0 x1 x2 x3 x4 x5 x6 x7 : Value) (e g f : Int) (fa ma : Option Addr) (fl fc ml mc : Nat) (w : World) (h : zAb w b c) (hc : c.call = .pointer (some ⟨k, 0, none⟩)) (hj : c.job = .pointer (some ⟨j, 0, none⟩)) (hJ : Blk w j [x0, x1, x2, x3, x4, x5, x6, x7] 104) :
  Calls Tryz.prog 21 #[.pointer (some ⟨b, 0, none⟩), .agg #[.int .i64 e, .int .i64 g, .int .i64 f, .slice fa fl fc, .slice ma ml mc]] w fun x w' => x = .returned (.tuple #[]) ∧ ∃ a, w.heap.size ≤ a ∧ Blk w' a (zBv e g f (.slice fa fl fc) (.slice ma ml mc)) 51 ∧ zAb w' b (c.ended (.pointer (some ⟨a, 0, none⟩))) ∧ Blk w' j [x0, x1, x2, x3, x4, x5, .bool false, x7] 104 ∧ Touch (fun k => k = b ∨ k = j) w w' := by
 have hbl := h.1.lt
 have hjl := hJ.lt
 have hbj : b ≠ j := h.1.ne hJ (by decide)
 have h84 : w.cell? ⟨b, 84, none⟩ = some (.pointer (some ⟨j, 0, none⟩)) := by have := h.ft 0; rw [← hj]; exact this
 have h86 : w.cell? ⟨b, 86, none⟩ = some (.pointer (some ⟨k, 0, none⟩)) := by have := h.ft 2; rw [← hc]; exact this
 have h89 : w.cell? ⟨b, 89, none⟩ = some c.yes := h.ft 5
 have h90 : w.cell? ⟨b, 90, none⟩ = some c.pruned := h.ft 6
 have h91 : w.cell? ⟨b, 91, none⟩ = some c.answer := h.ft 7
 have hfz : ∀ o, w.frozen? ⟨b, o, none⟩ = false := fun o => h.1.free o
 have hba : b ≠ w.heap.size := by omega
 have hja : j ≠ w.heap.size := by omega
 have H := hid h
 have f86 := hfz 86
 have f89 := hfz 89
 have f90 := hfz 90
 have f91 := hfz 91
 have j6 : w.cell? ⟨j, 6, none⟩ = some x6 := hJ.cell 6
 have g6 : w.frozen? ⟨j, 6, none⟩ = false := hJ.free 6
 have HJ := hid hJ
 clear h hc hj hfz hJ
 have h1 := hid (H.out.setFt 2 (.pointer none) { c with call := .pointer none } rfl rfl rfl)
 have h2 := hid (h1.out.setFt 5 (.pointer none) { c with call := .pointer none, yes := .pointer none } rfl rfl rfl)
 have h3 := hid (h2.out.setFt 6 (.pointer none) { c with call := .pointer none, yes := .pointer none, pruned := .pointer none } rfl rfl rfl)
 have h4 := hid (h3.out.setFt 7 (.pointer (some ⟨w.heap.size, 0, none⟩)) (c.ended (.pointer (some ⟨w.heap.size, 0, none⟩))) rfl rfl rfl)
 have J4 := hid ((((HJ.out.set_other (a := ⟨b, 84 + 2, none⟩) (Ne.symm hbj) (.pointer none)).set_other (a := ⟨b, 84 + 5, none⟩) (Ne.symm hbj) (.pointer none)).set_other (a := ⟨b, 84 + 6, none⟩) (Ne.symm hbj) (.pointer none)).set_other (a := ⟨b, 84 + 7, none⟩) (Ne.symm hbj) (.pointer (some ⟨w.heap.size, 0, none⟩)))
 have t3 := zAa (o := 84 + 6) (zAa (o := 84 + 5) (zAa (o := 84 + 2) (Touch.refl (fun k => k = b) w) (.pointer none)) (.pointer none)) (.pointer none)
 have t4 := hid (zAa (o := 84 + 7) t3 (.pointer (some ⟨w.heap.size, 0, none⟩)))
 clear t3
 go_enter Tryz.func21, Tryz.ntmps21
 go_wp2
 have hs : (((((w.setCell ⟨b, 84 + 2, none⟩ (.pointer none)).setCell ⟨b, 84 + 5, none⟩ (.pointer none)).setCell ⟨b, 84 + 6, none⟩ (.pointer none)).setCell ⟨b, 84 + 7, none⟩ (.pointer (some ⟨w.heap.size, 0, none⟩))).setCell ⟨j, 6, none⟩ (.bool false)).heap.size = w.heap.size := by simp [World.setCell]
 have hA := (Blk.new (((((w.setCell ⟨b, 84 + 2, none⟩ (.pointer none)).setCell ⟨b, 84 + 5, none⟩ (.pointer none)).setCell ⟨b, 84 + 6, none⟩ (.pointer none)).setCell ⟨b, 84 + 7, none⟩ (.pointer (some ⟨w.heap.size, 0, none⟩))).setCell ⟨j, 6, none⟩ (.bool false)) (zBv e g f (.slice fa fl fc) (.slice ma ml mc)) 51)
 rw [hs] at hA
 have c5 : zAb ((((((w.setCell ⟨b, 84 + 2, none⟩ (.pointer none)).setCell ⟨b, 84 + 5, none⟩ (.pointer none)).setCell ⟨b, 84 + 6, none⟩ (.pointer none)).setCell ⟨b, 84 + 7, none⟩ (.pointer (some ⟨w.heap.size, 0, none⟩))).setCell ⟨j, 6, none⟩ (.bool false)).alloc (.cells (zBv e g f (.slice fa fl fc) (.slice ma ml mc)).toArray 51)) b (c.ended (.pointer (some ⟨w.heap.size, 0, none⟩))) :=
  ⟨(h4.out.1.set_other (a := ⟨j, 6, none⟩) hbj (.bool false)).alloc _, h4.out.2⟩
 have J5 := (J4.out.set 6 (.bool false)).alloc (.cells (zBv e g f (.slice fa fl fc) (.slice ma ml mc)).toArray 51)
 have t5 := (((t4.out.mono (S' := fun k => k = b ∨ k = j) (fun q _ e => Or.inl e)).set (p := ⟨j, 6, none⟩) (Or.inl (Or.inr rfl)) (.bool false))).alloc (.cells (zBv e g f (.slice fa fl fc) (.slice ma ml mc)).toArray 51)
 go_end0
 exact ⟨rfl, w.heap.size, Nat.le_refl _, hA, c5, J5, t5⟩
def JobD.calm (J : JobD) : JobD := { J with cl := false }
theorem zGW (o : Option JobD) : JobD.tals (o.map JobD.calm) = JobD.tals o := by cases o <;> rfl
theorem nodup_less {a : Nat} (h : (a :: (x ++ (y ++ z))).Nodup) : (a :: (x ++ ([] ++ []))).Nodup := by
 rw [List.append_nil, List.append_nil]
 rw [List.nodup_cons] at h ⊢
 exact ⟨fun e => h.1 (List.mem_append_left _ e), (List.nodup_append.1 h.2).1⟩
def Dt.ended (D : Dt) (A : AnsD) : Dt := { D with cal := none, yes := none, prn := none, ans := some A, job := D.job.map JobD.calm }
theorem Gf.ended {G : Gh} {D : Dt} {S : CSt} (h : Gf w0 c kb mb n id bal G Z D S w) (A : AnsD)
  (hJ : ∀ J, D.job = some J → Blk w J.j (zBY J.gen J.bal J.mrk J.img J.ta J.tf false J.old) 104)
  (hA : Blk w A.a (zBv A.e A.g A.f (.slice A.fa A.fl A.fc) (.slice A.ma A.ml A.mc)) 51) (hok : A.e = 0 → (G.gk = 1 → G.gb → Maj n (G.VA A.g G.gm)) ∧ (G.gk ≠ 1 → ∃ r, Maj n (G.VY r))) :
  Gf w0 c kb mb n id bal G Z (D.ended A) (S.ended (.pointer (some ⟨A.a, 0, none⟩))) w :=
 { h with
  job := by
   show S.job = ptrO ((D.job.map JobD.calm).map (·.j))
   rw [h.job]
   cases D.job <;> rfl
  jobB := fun J hJ' => by
   have hJ' : D.job.map JobD.calm = some J := hJ'
   cases hd : D.job with
   | none => rw [hd] at hJ'; cases hJ'
   | some J0 =>
    rw [hd] at hJ'
    injection hJ' with hJ'
    subst hJ'
    exact ⟨hJ J0 hd, (h.jobB J0 hd).2⟩
  cli := fun J hJ' hcl => by
   have hJ' : D.job.map JobD.calm = some J := hJ'
   cases hd : D.job with
   | none => rw [hd] at hJ'; cases hJ'
   | some J0 =>
    rw [hd] at hJ'
    injection hJ' with hJ'
    subst hJ'
    cases hcl
  cal := rfl
  calB := fun C hC => by cases hC
  yes := rfl
  yesB := fun t ht => by cases ht
  prn := rfl
  prnB := fun t ht => by cases ht
  ans := rfl
  ansB := fun A' hA' => by
   injection hA' with hA'
   subst hA'
   exact ⟨hA, hok⟩
  one := Or.inl rfl
  mk1 := fun C hC => by cases hC
  tals := by
   show (D.pt :: (JobD.tals (D.job.map JobD.calm) ++ ([] ++ []))).Nodup
   rw [zGW]
   exact nodup_less h.tals
  talB := fun t ht => by
   have ht : t ∈ D.pt :: (JobD.tals (D.job.map JobD.calm) ++ ([] ++ [])) := ht
   rw [zGW, List.append_nil, List.append_nil] at ht
   refine h.talB t ?_
   unfold Dt.tals
   rcases List.mem_cons.1 ht with e | e
   ·exact List.mem_cons.2 (Or.inl e)
   ·exact List.mem_cons.2 (Or.inr (List.mem_append_left _ e)) }
theorem zDR {G : Gh} {D : Dt} {S : CSt} (h : Gc w0 c kb mb n id bal G Z D S w) (e g f : Int) (fa ma : Option Addr) (fl fc ml mc : Nat) (hok : e = 0 → D.cal ≠ none → (G.gk = 1 → G.gb → Maj n (G.VA g G.gm)) ∧ (G.gk ≠ 1 → ∃ r, Maj n (G.VY r))) :
  Calls Tryz.prog 21 #[.pointer (some ⟨c, 0, none⟩), .agg #[.int .i64 e, .int .i64 g, .int .i64 f, .slice fa fl fc, .slice ma ml mc]] w fun x w' => x = .returned (.tuple #[]) ∧ (∃ D' S', Gc w0 c kb mb n id bal G Z D' S' w' ∧ S'.floor = S.floor ∧ S'.top = S.top) ∧ Fr w0 w w' ∧ KeepT [78, 104] w w' := by
 cases hc : D.cal with
 | none =>
  refine (end_nil c S e g f fa ma fl fc ml mc w h.at_ (by rw [h.gf.cal, hc]; rfl)).mono ?_
  rintro x w' ⟨rfl, hb⟩
  exact ⟨rfl, ⟨D, S, h.quiet hb, rfl, rfl⟩, Fr.of_below hb, KeepT.of_below hb⟩
 | some C =>
  have hcl : S.call = .pointer (some ⟨C.k, 0, none⟩) := by rw [h.gf.cal, hc]; rfl
  have hok' := fun he => hok he (by rw [hc]; exact fun x => by cases x)
  cases hj : D.job with
  | none =>
   refine (end_call c C.k S e g f fa ma fl fc ml mc w h.at_ hcl (by rw [h.gf.job, hj]; rfl)).mono ?_
   rintro x w' ⟨rfl, a, ha, hA, hC, hT⟩
   obtain ⟨g1, g2⟩ := h.gf.coord h.at_ hT
   exact ⟨rfl, ⟨_, _, ⟨hC, g1.ended ⟨a, e, g, f, fa, fl, fc, ma, ml, mc⟩ (fun J hJ => by rw [hj] at hJ; cases hJ) hA hok'⟩, rfl, rfl⟩, g2, (zCO h.at_ hT).1.mono (by decide)⟩
  | some J =>
   have hJB := (h.gf.jobB J hj).1
   have hj0 := (h.gf.jobB J hj).2.2.2.1
   have hc0 := h.gf.c0
   refine (end_job c C.k J.j S _ _ _ _ _ _ _ _ e g f fa ma fl fc ml mc w h.at_ hcl (by rw [h.gf.job, hj]; rfl) hJB).mono ?_
   rintro x w' ⟨rfl, a, ha, hA, hC, hJ', hT⟩
   have hty : ∀ q, q < w.heap.size → (q = c ∨ q = J.j) → Tyd [78, 104] w q := fun q _ hq => by
    rcases hq with rfl | rfl
    ·exact Tyd.blk h.at_.1 (by simp)
    ·exact Tyd.blk hJB (by simp)
   have hk : Keep [78, 104] w w' := Keep.of_touch hT hty (by decide)
   have hab : Abw w0 w w' := hT.mono (fun q _ hq => by rcases hq with rfl | rfl <;> omega)
   have hg0 : Gf w0 c kb mb n id bal G Z { D with job := none } { S with job := .pointer none } w := { h.gf with
    job := rfl
    jobB := fun J hJ => by cases hJ
    cli := fun J hJ => by cases hJ
    tals := by
     have := h.gf.tals
     unfold Dt.tals at this ⊢
     rw [List.nodup_cons] at this ⊢
     exact ⟨fun e => this.1 (List.mem_append_right _ e), (List.nodup_append.1 this.2).2.1⟩
    talB := fun t ht => h.gf.talB t (by
     unfold Dt.tals at ht ⊢
     rcases List.mem_cons.1 ht with e | e
     ·exact List.mem_cons.2 (Or.inl e)
     ·exact List.mem_cons.2 (Or.inr (List.mem_append_right _ e))) }
   have hg1 := hg0.keepX hk.1 (hab.below h.gf.below) (hk.2 _ _ _ h.gf.bok) (job := fun _ J hJ => by cases hJ)
   obtain ⟨b1, b2, b3, b4⟩ := h.gf.jobB J hj
   have hg2 : Gf w0 c kb mb n id bal G Z { D with job := some { J with cl := false } } S w' := { hg1 with
    job := by rw [h.gf.job, hj]; rfl
    jobB := fun J' hJ => by
     injection hJ with hJ
     subst hJ
     exact ⟨hJ', b2.keep hk.1 (by decide), b3.keep hk.1 (by decide), b4⟩
    cli := fun J' hJ hcl => by
     injection hJ with hJ
     subst hJ
     cases hcl
    tals := by have := h.gf.tals; unfold Dt.tals at this ⊢; rw [hj] at this; exact this
    talB := fun t ht => h.gf.talB t (by unfold Dt.tals at ht ⊢; rw [hj]; exact ht) }
   exact ⟨rfl, ⟨_, _, ⟨hC, hg2.ended ⟨a, e, g, f, fa, fl, fc, ma, ml, mc⟩ (fun J' hJ => by injection hJ with hJ; subst hJ; exact hJ') hA hok'⟩, rfl, rfl⟩, ⟨hk.1.mono (by decide), hab⟩, hk.1⟩
theorem zEm {G : Gh} {D : Dt} {S : CSt} (h : Gc w0 c kb mb n id bal G Z D S w) (e g f : Int) (fa ma : Option Addr) (fl fc ml mc : Nat) (hok : e = 0 → D.cal ≠ none → (G.gk = 1 → G.gb → Maj n (G.VA g G.gm)) ∧ (G.gk ≠ 1 → ∃ r, Maj n (G.VY r))) :
  Calls Tryz.prog 21 #[.pointer (some ⟨c, 0, none⟩), .agg #[.int .i64 e, .int .i64 g, .int .i64 f, .slice fa fl fc, .slice ma ml mc]] w fun x w' => x = .returned (.tuple #[]) ∧ Gs w0 c kb mb n id bal G Z w' ∧ Fr w0 w w' :=
 (zDR h e g f fa ma fl fc ml mc hok).mono (fun x w' ⟨h1, ⟨D', S', h2, _⟩, h3, _⟩ => ⟨h1, ⟨D', S', h2⟩, h3⟩)
end Go.Proofs.YtaemlplcjjbamaaGreatDoor
