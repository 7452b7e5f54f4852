/- The plain words of deltas: steps, what they make, their bytes, and that these are read back. No condition. -/
import Derived.Test.YtogobhpnlndcaaaGreatPressPlain
namespace Go.Proofs.YtogobhpnlndcaaaGreat
set_option linter.unusedVariables false

structure Stp where
  at_ : Int
  len : Int
  text : List UInt8
structure Dl where
  basis : List UInt8
  mark : List UInt8
  size : Int
  steps : List Stp
def Dl.none : Dl := ⟨[], [], 0, []⟩
/-- may a step be, for a basis of some length (below 0: of any)? -/
def stpOk (x : Stp) (basis : Int) : Prop :=
  (x.text ≠ [] ∧ x.at_ = 0 ∧ x.len = 0 ∧ x.text.length ≤ 4096) ∨
  (x.text = [] ∧ 0 < x.len ∧ 0 ≤ x.at_ ∧ x.len ≤ 524288 ∧ x.at_ ≤ 524288 - x.len ∧ (basis < 0 ∨ x.at_ + x.len ≤ basis))
instance (x : Stp) (basis : Int) : Decidable (stpOk x basis) := by unfold stpOk; infer_instance
def stpN (x : Stp) : Int := x.len + (x.text.length : Nat)
def stpOut (B : List UInt8) (x : Stp) : List UInt8 := (B.drop x.at_.toNat).take x.len.toNat ++ x.text
def outS (B : List UInt8) (l : List Stp) : List UInt8 := l.flatMap (stpOut B)
def rightGo (size : Int) : Int → List Stp → Bool
  | n, [] => decide (n = size)
  | n, x :: l => if stpOk x (-1) then (if size < n + stpN x then false else rightGo size (n + stpN x) l) else false
def dlHead (d : Dl) : Prop := d.basis.length = 32 ∧ d.mark.length = 32 ∧ 0 ≤ d.size ∧ d.size ≤ 524288 ∧ d.steps.length ≤ 524288
instance (d : Dl) : Decidable (dlHead d) := by unfold dlHead; infer_instance
def dlRight (d : Dl) : Bool := if dlHead d then rightGo d.size 0 d.steps else false
/-- what steps make of a basis -/
def runGo (B : List UInt8) : List UInt8 → List Stp → List UInt8 × Int
  | acc, [] => (acc, 0)
  | acc, x :: l => if stpOk x (B.length : Nat) then (if 524288 - (acc.length : Int) < stpN x then ([], 4) else runGo B (acc ++ stpOut B x) l) else ([], 2)
theorem stpOk.any {x : Stp} {b : Int} (h : stpOk x b) : stpOk x (-1) := by
  rcases h with h | ⟨h1, h2, h3, h4, h5, _⟩
  · exact Or.inl h
  · exact Or.inr ⟨h1, h2, h3, h4, h5, Or.inl (by decide)⟩
theorem stpOk.n_pos {x : Stp} {b : Int} (h : stpOk x b) : 0 < stpN x := by
  unfold stpN
  rcases h with ⟨h1, h2, h3, h4⟩ | ⟨h1, h2, h3, h4, h5, _⟩
  · have : 0 < x.text.length := List.length_pos_iff.2 h1
    omega
  · rw [h1]; simp; omega
theorem stpOut_len {B : List UInt8} {x : Stp} (h : stpOk x (B.length : Nat)) : ((stpOut B x).length : Int) = stpN x := by
  unfold stpOut stpN
  rw [List.length_append, List.length_take, List.length_drop]
  rcases h with ⟨h1, h2, h3, h4⟩ | ⟨h1, h2, h3, h4, h5, h6⟩
  · rw [h3]; simp
  · rw [h1]
    have : ¬ ((B.length : Nat) : Int) < 0 := by omega
    have h7 := h6.resolve_left this
    simp only [List.length_nil]
    omega
theorem outS_cons (B : List UInt8) (x : Stp) (l : List Stp) : outS B (x :: l) = stpOut B x ++ outS B l := rfl
theorem outS_append (B : List UInt8) (l m : List Stp) : outS B (l ++ m) = outS B l ++ outS B m := by unfold outS; rw [List.flatMap_append]
theorem run_all {B : List UInt8} : ∀ (l : List Stp) (acc : List UInt8), (∀ x ∈ l, stpOk x (B.length : Nat)) → (acc ++ outS B l).length ≤ 524288 → runGo B acc l = (acc ++ outS B l, 0)
  | [], acc, _, _ => by simp [runGo, outS]
  | x :: l, acc, h, hl => by
    have hx := h x (List.mem_cons_self ..)
    have hn := stpOut_len hx
    rw [outS_cons, List.length_append, List.length_append] at hl
    unfold runGo
    rw [if_pos hx, if_neg (by omega), run_all l _ (fun y hy => h y (List.mem_cons_of_mem _ hy)) (by rw [List.length_append, List.length_append]; omega), outS_cons, List.append_assoc]
theorem right_all {B : List UInt8} {size : Int} : ∀ (l : List Stp) (n : Int), (∀ x ∈ l, stpOk x (B.length : Nat)) → n + ((outS B l).length : Nat) = size → rightGo size n l = true
  | [], n, _, hl => by
    unfold rightGo
    simp [outS] at hl
    simp [hl]
  | x :: l, n, h, hl => by
    have hx := h x (List.mem_cons_self ..)
    have hn := stpOut_len hx
    rw [outS_cons, List.length_append] at hl
    unfold rightGo
    rw [if_pos hx.any, if_neg (by omega)]
    exact right_all l _ (fun y hy => h y (List.mem_cons_of_mem _ hy)) (by omega)
theorem outS_count {B : List UInt8} : ∀ (l : List Stp), (∀ x ∈ l, stpOk x (B.length : Nat)) → l.length ≤ (outS B l).length
  | [], _ => Nat.zero_le _
  | x :: l, h => by
    have hx := h x (List.mem_cons_self ..)
    have hn := stpOut_len hx
    have hp := hx.n_pos
    have := outS_count l (fun y hy => h y (List.mem_cons_of_mem _ hy))
    rw [outS_cons, List.length_append, List.length_cons]
    omega
theorem right_steps {size : Int} : ∀ (l : List Stp) (n : Int), rightGo size n l = true → ∀ x ∈ l, stpOk x (-1)
  | [], n, _, x, hx => by cases hx
  | y :: l, n, h, x, hx => by
    unfold rightGo at h
    by_cases h1 : stpOk y (-1)
    · rw [if_pos h1] at h
      by_cases h2 : size < n + stpN y
      · rw [if_pos h2] at h; exact absurd h (by decide)
      · rw [if_neg h2] at h
        rcases List.mem_cons.1 hx with e | e
        · rw [e]; exact h1
        · exact right_steps l _ h x e
    · rw [if_neg h1] at h; exact absurd h (by decide)

def stpB (x : Stp) : List UInt8 := if x.text ≠ [] then cnL (2 * x.text.length) ++ x.text else cnL (2 * x.len + 1).toNat ++ cnL x.at_.toNat
def dlBytes (d : Dl) : List UInt8 := (d.basis ++ d.mark) ++ (cnL d.size.toNat ++ (cnL d.steps.length ++ d.steps.flatMap stpB))
def stepR (R : Rr) : Stp × Rr :=
  if R.num.1 % 2 = 1 then (⟨(R.num.2.num.1 : Nat), (R.num.1 / 2 : Nat), []⟩, R.num.2.num.2)
  else if 4096 < R.num.1 / 2 then (⟨0, -1, []⟩, R.num.2)
  else (⟨0, 0, (R.num.2.raw (R.num.1 / 2)).1⟩, (R.num.2.raw (R.num.1 / 2)).2)
def stepsGo : Nat → List Stp → Rr → (List Stp × Int) × Rr
  | 0, acc, R => ((acc, 0), R)
  | k + 1, acc, R =>
    if (stepR R).2.e = 0 then (if stpOk (stepR R).1 (-1) then stepsGo k (acc ++ [(stepR R).1]) (stepR R).2 else (([], 5), (stepR R).2))
    else (([], (stepR R).2.e), (stepR R).2)
def dlHeadR (L : List UInt8) : (List UInt8 × List UInt8 × Nat × Nat) × Rr :=
  let R1 := (Rr.mk L 0).raw 32
  let R2 := R1.2.raw 32
  let R3 := R2.2.num
  let R4 := R3.2.num
  ((R1.1, R2.1, R3.1, R4.1), R4.2)
def dlEnd (d : Dl) (R : Rr) : Dl × Int := if R.fin.e = 0 then (if dlRight d = true then (d, 0) else (Dl.none, 5)) else (Dl.none, R.fin.e)
/-- the delta that bytes are -/
def dlRead (L : List UInt8) : Dl × Int :=
  let H := dlHeadR L
  let S := stepsGo H.1.2.2.2 [] H.2
  if S.1.2 = 0 then dlEnd ⟨H.1.1, H.1.2.1, (H.1.2.2.1 : Nat), S.1.1⟩ S.2 else (Dl.none, S.1.2)
theorem stepR_back {x : Stp} (h : stpOk x (-1)) (rest : List UInt8) : stepR ⟨stpB x ++ rest, 0⟩ = (x, ⟨rest, 0⟩) := by
  obtain ⟨a, n, t⟩ := x
  rcases h with ⟨h1, h2, h3, h4⟩ | ⟨h1, h2, h3, h4, h5, h6⟩
  · simp only at h1 h2 h3 h4
    subst h2 h3
    have e : stpB ⟨0, 0, t⟩ = cnL (2 * t.length) ++ t := by unfold stpB; rw [if_pos h1]
    unfold stepR
    rw [e, List.append_assoc, Rr.num_back _ _ (by omega)]
    show (if 2 * t.length % 2 = 1 then _ else if 4096 < 2 * t.length / 2 then _ else (Stp.mk 0 0 ((Rr.mk (t ++ rest) 0).raw (2 * t.length / 2)).1, ((Rr.mk (t ++ rest) 0).raw (2 * t.length / 2)).2)) = _
    rw [if_neg (by omega), if_neg (by omega), show 2 * t.length / 2 = t.length by omega, Rr.raw_back]
  · simp only at h1 h2 h3 h4 h5 h6
    subst h1
    have e : stpB ⟨a, n, []⟩ = cnL (2 * n + 1).toNat ++ cnL a.toNat := by unfold stpB; rw [if_neg (by simp)]
    unfold stepR
    rw [e, List.append_assoc, Rr.num_back _ _ (by omega)]
    show (if (2 * n + 1).toNat % 2 = 1 then (Stp.mk ((Rr.mk (cnL a.toNat ++ rest) 0).num.1 : Nat) ((2 * n + 1).toNat / 2 : Nat) [], (Rr.mk (cnL a.toNat ++ rest) 0).num.2) else _) = _
    rw [if_pos (by omega), Rr.num_back _ _ (by omega)]
    show (Stp.mk (a.toNat : Nat) ((2 * n + 1).toNat / 2 : Nat) [], Rr.mk rest 0) = _
    rw [show ((a.toNat : Nat) : Int) = a by omega, show (((2 * n + 1).toNat / 2 : Nat) : Int) = n by omega]
theorem steps_back : ∀ (l acc : List Stp) (rest : List UInt8), (∀ x ∈ l, stpOk x (-1)) → stepsGo l.length acc ⟨l.flatMap stpB ++ rest, 0⟩ = ((acc ++ l, 0), ⟨rest, 0⟩)
  | [], acc, rest, _ => by simp [stepsGo]
  | x :: l, acc, rest, h => by
    have hx := h x (List.mem_cons_self ..)
    have hb := stepR_back hx (l.flatMap stpB ++ rest)
    show stepsGo (l.length + 1) acc ⟨(stpB x ++ l.flatMap stpB) ++ rest, 0⟩ = _
    rw [List.append_assoc]
    unfold stepsGo
    rw [hb]
    show (if (0 : Int) = 0 then (if stpOk x (-1) then stepsGo l.length (acc ++ [x]) ⟨l.flatMap stpB ++ rest, 0⟩ else _) else _) = _
    rw [if_pos rfl, if_pos hx, steps_back l _ rest (fun y hy => h y (List.mem_cons_of_mem _ hy)), List.append_assoc]
    rfl
/-- a delta's bytes are read back -/
theorem dlRead_back (d : Dl) (h : dlRight d = true) : dlRead (dlBytes d) = (d, 0) := by
  have hR := h
  unfold dlRight at h
  by_cases hh : dlHead d
  · rw [if_pos hh] at h
    obtain ⟨h1, h2, h3, h4, h5⟩ := hh
    have r1 := Rr.raw_back d.basis (d.mark ++ (cnL d.size.toNat ++ (cnL d.steps.length ++ d.steps.flatMap stpB)))
    have r2 := Rr.raw_back d.mark (cnL d.size.toNat ++ (cnL d.steps.length ++ d.steps.flatMap stpB))
    rw [h1] at r1
    rw [h2] at r2
    have r3 := Rr.num_back d.size.toNat (cnL d.steps.length ++ d.steps.flatMap stpB) (by omega)
    have r4 := Rr.num_back d.steps.length (d.steps.flatMap stpB) (by omega)
    have r5 := steps_back d.steps [] [] (right_steps _ _ h)
    rw [List.append_nil] at r5
    have hH : dlHeadR (dlBytes d) = ((d.basis, d.mark, d.size.toNat, d.steps.length), ⟨d.steps.flatMap stpB, 0⟩) := by
      unfold dlHeadR dlBytes
      rw [List.append_assoc]
      simp only [r1, r2, r3, r4]
    unfold dlRead
    simp only [hH, r5, List.nil_append, if_true]
    unfold dlEnd
    have hf : (Rr.mk [] 0).fin = ⟨[], 0⟩ := by unfold Rr.fin; rw [if_neg (by simp)]
    have hs : ((d.size.toNat : Nat) : Int) = d.size := by omega
    rw [hf, hs, if_pos rfl]
    show (if dlRight d = true then (d, (0 : Int)) else _) = _
    rw [if_pos hR]
  · rw [if_neg hh] at h; exact absurd h (by decide)
/-- a delta of steps that make s of a basis -/
theorem dl_made {B bm sm s : List UInt8} {l : List Stp} (hb : bm.length = 32) (hs : sm.length = 32) (ho : ∀ x ∈ l, stpOk x (B.length : Nat)) (hout : outS B l = s) (hn : s.length ≤ 524288) :
    dlRight ⟨bm, sm, (s.length : Nat), l⟩ = true ∧ runGo B [] l = (s, 0) := by
  have hc := outS_count l ho
  rw [hout] at hc
  constructor
  · unfold dlRight
    rw [if_pos ⟨hb, hs, by show (0 : Int) ≤ (s.length : Nat); omega, by show ((s.length : Nat) : Int) ≤ 524288; omega, by show l.length ≤ 524288; omega⟩]
    exact right_all (B := B) l 0 ho (by rw [hout]; show (0 : Int) + (s.length : Nat) = (s.length : Nat); omega)
  · have := run_all l [] ho (by rw [List.nil_append, hout]; exact hn)
    rw [List.nil_append, hout] at this
    exact this

/-- bytes in no step yet, made steps -/
def Chunks (t : List UInt8) (cs : List Stp) : Prop := (∀ x ∈ cs, x.at_ = 0 ∧ x.len = 0 ∧ x.text ≠ [] ∧ x.text.length ≤ 4096) ∧ cs.flatMap Stp.text = t
theorem Chunks.ok {t : List UInt8} {cs : List Stp} (h : Chunks t cs) (B : List UInt8) : (∀ x ∈ cs, stpOk x (B.length : Nat)) ∧ outS B cs = t := by
  obtain ⟨h1, h2⟩ := h
  refine ⟨fun x hx => Or.inl ⟨(h1 x hx).2.2.1, (h1 x hx).1, (h1 x hx).2.1, (h1 x hx).2.2.2⟩, ?_⟩
  rw [← h2]
  clear h2
  induction cs with
  | nil => rfl
  | cons x cs ih =>
    have hx := h1 x (List.mem_cons_self ..)
    rw [outS_cons, ih (fun y hy => h1 y (List.mem_cons_of_mem _ hy))]
    show stpOut B x ++ _ = x.text ++ _
    have : stpOut B x = x.text := by unfold stpOut; rw [hx.2.1]; simp
    rw [this]; rfl
def addCopy (l : List Stp) (at_ n : Int) : List Stp :=
  match l.getLast? with
  | some x => if 0 < x.len ∧ x.at_ + x.len = at_ then l.dropLast ++ [⟨x.at_, x.len + n, x.text⟩] else l ++ [⟨at_, n, []⟩]
  | none => l ++ [⟨at_, n, []⟩]
/-- the steps make what was told, of the basis -/
structure Mk (B : List UInt8) (l : List Stp) (out : List UInt8) : Prop where
  ok : ∀ x ∈ l, stpOk x (B.length : Nat)
  out : outS B l = out
theorem Mk.nil (B : List UInt8) : Mk B [] [] := ⟨fun x hx => (by cases hx), rfl⟩
theorem Mk.add {B : List UInt8} {l cs : List Stp} {out t : List UInt8} (h : Mk B l out) (hc : Chunks t cs) : Mk B (l ++ cs) (out ++ t) := by
  have := hc.ok B
  refine ⟨fun x hx => ?_, by rw [outS_append, h.out, this.2]⟩
  rcases List.mem_append.1 hx with e | e
  · exact h.ok x e
  · exact this.1 x e
theorem Mk.copy {B : List UInt8} {l : List Stp} {out : List UInt8} {at_ n : Nat} (h : Mk B l out) (hn : 0 < n) (ha : at_ + n ≤ B.length) (hB : B.length ≤ 524288) : Mk B (addCopy l (at_ : Nat) (n : Nat)) (out ++ (B.drop at_).take n) := by
  have hnew : Mk B (l ++ [⟨(at_ : Nat), (n : Nat), []⟩]) (out ++ (B.drop at_).take n) := by
    refine ⟨fun x hx => ?_, ?_⟩
    · rcases List.mem_append.1 hx with e | e
      · exact h.ok x e
      · rw [List.mem_singleton.1 e]
        refine Or.inr ⟨rfl, by show (0 : Int) < (n : Nat); omega, by show (0 : Int) ≤ (at_ : Nat); omega, by show ((n : Nat) : Int) ≤ 524288; omega, by show ((at_ : Nat) : Int) ≤ 524288 - (n : Nat); omega, Or.inr (by show ((at_ : Nat) : Int) + (n : Nat) ≤ (B.length : Nat); omega)⟩
    · rw [outS_append, h.out]
      show out ++ (stpOut B _ ++ []) = _
      unfold stpOut
      simp
  unfold addCopy
  match hl : l.getLast? with
  | none => exact hnew
  | some x =>
    show Mk B (if 0 < x.len ∧ x.at_ + x.len = (at_ : Nat) then l.dropLast ++ [⟨x.at_, x.len + (n : Nat), x.text⟩] else l ++ [⟨(at_ : Nat), (n : Nat), []⟩]) _
    by_cases hc : 0 < x.len ∧ x.at_ + x.len = (at_ : Nat)
    · rw [if_pos hc]
      obtain ⟨hx0, hx1⟩ := hc
      have hsp : l = l.dropLast ++ [x] := by
        have hne : l ≠ [] := by rintro rfl; simp at hl
        have := List.dropLast_concat_getLast hne
        rw [List.getLast?_eq_some_getLast hne] at hl
        injection hl with hl
        rw [← hl]
        exact this.symm
      have hxm : x ∈ l := by rw [hsp]; simp
      have hok := h.ok x hxm
      rcases hok with ⟨_, _, h3, _⟩ | ⟨h1, h2, h3, h4, h5, h6⟩
      · omega
      · have h7 := h6.resolve_left (by omega)
        refine ⟨fun y hy => ?_, ?_⟩
        · rcases List.mem_append.1 hy with e | e
          · exact h.ok y (List.mem_of_mem_take (by rw [← List.dropLast_eq_take]; exact e))
          · rw [List.mem_singleton.1 e]
            exact Or.inr ⟨h1, by show (0 : Int) < x.len + (n : Nat); omega, h3, by show x.len + (n : Nat) ≤ 524288; omega, by show x.at_ ≤ 524288 - (x.len + (n : Nat)); omega, Or.inr (by show x.at_ + (x.len + (n : Nat)) ≤ (B.length : Nat); omega)⟩
        · have ho := h.out
          rw [hsp, outS_append] at ho
          rw [outS_append, ← ho, List.append_assoc]
          congr 1
          show stpOut B ⟨x.at_, x.len + (n : Nat), x.text⟩ ++ [] = (stpOut B x ++ []) ++ _
          unfold stpOut
          rw [h1]
          simp only [List.append_nil]
          rw [show (x.len + (n : Nat)).toNat = x.len.toNat + n by omega, show at_ = x.at_.toNat + x.len.toNat by omega, ← List.drop_drop, List.take_add]
    · rw [if_neg hc]; exact hnew
end Go.Proofs.YtogobhpnlndcaaaGreat
