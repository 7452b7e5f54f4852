/- The plain words of press: chains of places, copies, what a pressed text is, and that it is read back. No condition. -/
import Derived.Test.YtogobhpnlndcaaaGreatReadPlain
namespace Go.Proofs.YtogobhpnlndcaaaGreat
set_option linter.unusedVariables false

/-- the bytes at which two texts are alike, at most so many -/
def lcp : Nat → List UInt8 → List UInt8 → Nat
  | 0, _, _ => 0
  | n + 1, [], _ => 0
  | n + 1, _ :: _, [] => 0
  | n + 1, c :: x, d :: y => if c = d then lcp n x y + 1 else 0
theorem lcp_le (n : Nat) : ∀ x y : List UInt8, lcp n x y ≤ n ∧ lcp n x y ≤ y.length := by
  induction n with
  | zero => intro x y; simp [lcp]
  | succ n ih =>
    intro x y
    match x, y with
    | [], _ => simp [lcp]
    | _ :: _, [] => simp [lcp]
    | c :: x, d :: y =>
      unfold lcp
      by_cases h : c = d
      · rw [if_pos h]
        have := ih x y
        simp only [List.length_cons]
        omega
      · rw [if_neg h]; simp
theorem lcp_at (n : Nat) : ∀ (x y : List UInt8) (j : Nat), j < lcp n x y → x[j]? = y[j]? := by
  induction n with
  | zero => intro x y j h; simp [lcp] at h
  | succ n ih =>
    intro x y j h
    match x, y with
    | [], _ => simp [lcp] at h
    | _ :: _, [] => simp [lcp] at h
    | c :: x, d :: y =>
      unfold lcp at h
      by_cases e : c = d
      · rw [if_pos e] at h
        match j with
        | 0 => simp [e]
        | j + 1 => simp only [List.getElem?_cons_succ]; exact ih x y j (by omega)
      · rw [if_neg e] at h; omega

def pslot (L : List UInt8) (i : Nat) : Nat := ((L.getD i 0).toNat + (L.getD (i + 1) 0).toNat * 256 + (L.getD (i + 2) 0).toNat * 65536 + (L.getD (i + 3) 0).toNat * 16777216) * 2654435761 % 4294967296 / 1048576
theorem pslot_lt (L : List UInt8) (i : Nat) : pslot L i < 4096 := by unfold pslot; omega
/-- what finds copies -/
structure Fd where
  head : List Nat
  prev : List Nat
  done : Nat
def Fd.new (L : List UInt8) : Fd := ⟨List.replicate 4096 0, List.replicate L.length 0, 0⟩
def Fd.put1 (L : List UInt8) (F : Fd) : Fd := ⟨F.head.set (pslot L F.done) (F.done + 1), F.prev.set F.done (F.head.getD (pslot L F.done) 0), F.done + 1⟩
def Fd.puts (L : List UInt8) : Nat → Fd → Fd
  | 0, F => F
  | n + 1, F => Fd.puts L n (F.put1 L)
def Fd.putTo (L : List UInt8) (to_ : Nat) (F : Fd) : Fd := F.puts L (min to_ (L.length - 3) - F.done)
def chainGo (L : List UInt8) (prev : List Nat) (at_ : Nat) : Nat → Nat → Nat → Nat → Nat × Nat
  | 0, _, back, size => (back, size)
  | f + 1, p, back, size =>
    if 0 < p ∧ at_ - (p - 1) ≤ 4096 then
      if size < lcp 259 (L.drop (p - 1)) (L.drop at_) then chainGo L prev at_ f (prev.getD (p - 1) 0) (at_ - (p - 1)) (lcp 259 (L.drop (p - 1)) (L.drop at_))
      else chainGo L prev at_ f (prev.getD (p - 1) 0) back size
    else (back, size)
def Fd.headAt (L : List UInt8) (at_ : Nat) (F : Fd) : Nat := F.head.getD (pslot L at_) 0
def Fd.chain (L : List UInt8) (at_ : Nat) (F : Fd) : Nat × Nat := chainGo L F.prev at_ (F.headAt L at_ + 1) (F.headAt L at_) 0 0
def Fd.longest (L : List UInt8) (at_ : Nat) (F : Fd) : (Nat × Nat) × Fd :=
  if L.length < at_ + 4 then ((0, 0), F)
  else (if ((F.putTo L at_).chain L at_).2 < 4 then (0, 0) else (F.putTo L at_).chain L at_, F.putTo L at_)
structure Fd.Ok (L : List UInt8) (F : Fd) : Prop where
  head : F.head.length = 4096
  prev : F.prev.length = L.length
  le : ∀ x ∈ F.head, x ≤ F.done
  back : ∀ i, F.prev.getD i 0 ≤ i
  done : F.done ≤ L.length
theorem Fd.Ok.headAt {L : List UInt8} {F : Fd} (h : F.Ok L) (i : Nat) : F.head.getD (pslot L i) 0 ≤ F.done := by
  have hl : pslot L i < F.head.length := by rw [h.head]; exact pslot_lt L i
  rw [List.getD_eq_getElem?_getD, List.getElem?_eq_getElem hl]
  exact h.le _ (List.getElem_mem hl)
theorem Fd.new_ok (L : List UInt8) : (Fd.new L).Ok L := by
  refine ⟨List.length_replicate, List.length_replicate, ?_, ?_, Nat.zero_le _⟩
  · intro x hx
    have := List.eq_of_mem_replicate hx
    subst this
    exact Nat.zero_le _
  · intro i
    show (List.replicate L.length 0).getD i 0 ≤ i
    rw [List.getD_eq_getElem?_getD, List.getElem?_replicate]
    by_cases h : i < L.length
    · rw [if_pos h]; exact Nat.zero_le _
    · rw [if_neg h]; exact Nat.zero_le _
theorem Fd.put1_ok {L : List UInt8} {F : Fd} (h : F.Ok L) (hd : F.done < L.length) : (F.put1 L).Ok L := by
  have hh := h.headAt F.done
  refine ⟨by simp [Fd.put1, h.head], by simp [Fd.put1, h.prev], ?_, ?_, hd⟩
  · intro x hx
    rcases List.mem_or_eq_of_mem_set hx with h1 | h1
    · exact Nat.le_succ_of_le (h.le x h1)
    · rw [h1]; exact Nat.le_refl _
  · intro i
    show (F.prev.set F.done _).getD i 0 ≤ i
    rw [List.getD_eq_getElem?_getD, List.getElem?_set]
    by_cases e : F.done = i
    · rw [if_pos e]
      by_cases h2 : F.done < F.prev.length
      · rw [if_pos h2]; subst e; exact hh
      · rw [if_neg h2]; exact Nat.zero_le _
    · rw [if_neg e, ← List.getD_eq_getElem?_getD]; exact h.back i
theorem Fd.puts_ok {L : List UInt8} : ∀ (n : Nat) {F : Fd}, F.Ok L → F.done + n ≤ L.length → (F.puts L n).Ok L ∧ (F.puts L n).done = F.done + n
  | 0, F, h, _ => ⟨h, rfl⟩
  | n + 1, F, h, hn => by
    have := Fd.puts_ok n (Fd.put1_ok h (by omega)) (show F.done + 1 + n ≤ L.length by omega)
    refine ⟨this.1, this.2.trans ?_⟩
    show F.done + 1 + n = F.done + (n + 1)
    omega
theorem Fd.putTo_ok {L : List UInt8} {F : Fd} (to_ : Nat) (h : F.Ok L) (ht : F.done ≤ to_) (hl : to_ ≤ L.length) : (F.putTo L to_).Ok L ∧ (F.putTo L to_).done ≤ to_ := by
  have := Fd.puts_ok (min to_ (L.length - 3) - F.done) h (by omega)
  refine ⟨this.1, ?_⟩
  have h2 := this.2
  show (F.puts L (min to_ (L.length - 3) - F.done)).done ≤ to_
  omega
/-- a copy that may be told -/
def GoodCopy (L : List UInt8) (at_ : Nat) (r : Nat × Nat) : Prop := 1 ≤ r.1 ∧ r.1 ≤ at_ ∧ r.1 ≤ 4096 ∧ r.2 ≤ 259 ∧ at_ + r.2 ≤ L.length ∧ ∀ j, j < r.2 → L[at_ - r.1 + j]? = L[at_ + j]?
theorem chainGo_good {L : List UInt8} {prev : List Nat} {at_ : Nat} (hp : ∀ i, prev.getD i 0 ≤ i) (hat : at_ ≤ L.length) : ∀ (f p back size : Nat), p ≤ at_ → (size = 0 ∨ GoodCopy L at_ (back, size)) → ((chainGo L prev at_ f p back size).2 = 0 ∨ GoodCopy L at_ (chainGo L prev at_ f p back size))
  | 0, p, back, size, _, h => h
  | f + 1, p, back, size, hpa, h => by
    unfold chainGo
    by_cases h1 : 0 < p ∧ at_ - (p - 1) ≤ 4096
    · rw [if_pos h1]
      have hq := hp (p - 1)
      by_cases h2 : size < lcp 259 (L.drop (p - 1)) (L.drop at_)
      · rw [if_pos h2]
        refine chainGo_good hp hat f _ _ _ (by omega) (Or.inr ?_)
        have hl := lcp_le 259 (L.drop (p - 1)) (L.drop at_)
        rw [List.length_drop] at hl
        refine ⟨by show 1 ≤ at_ - (p - 1); omega, by show at_ - (p - 1) ≤ at_; omega, h1.2, hl.1, by show at_ + _ ≤ _; omega, fun j hj => ?_⟩
        have := lcp_at 259 _ _ j hj
        rw [List.getElem?_drop, List.getElem?_drop] at this
        rw [show at_ - (at_ - (p - 1)) + j = p - 1 + j by omega]
        exact this
      · rw [if_neg h2]
        exact chainGo_good hp hat f _ _ _ (by omega) h
    · rw [if_neg h1]; exact h
theorem Fd.longest_ok {L : List UInt8} {F : Fd} (at_ : Nat) (h : F.Ok L) (ht : F.done ≤ at_) (hl : at_ ≤ L.length) : (F.longest L at_).2.Ok L ∧ (F.longest L at_).2.done ≤ at_ ∧ ((F.longest L at_).1.2 = 0 ∨ 4 ≤ (F.longest L at_).1.2 ∧ GoodCopy L at_ (F.longest L at_).1) := by
  unfold Fd.longest
  by_cases h1 : L.length < at_ + 4
  · rw [if_pos h1]; exact ⟨h, ht, Or.inl rfl⟩
  · rw [if_neg h1]
    have h2 := Fd.putTo_ok at_ h ht hl
    refine ⟨h2.1, h2.2, ?_⟩
    have h3 : (F.putTo L at_).headAt L at_ ≤ at_ := Nat.le_trans (h2.1.headAt at_) h2.2
    have h4 := chainGo_good h2.1.back hl ((F.putTo L at_).headAt L at_ + 1) ((F.putTo L at_).headAt L at_) 0 0 h3 (Or.inl rfl)
    show (if ((F.putTo L at_).chain L at_).2 < 4 then (0, 0) else (F.putTo L at_).chain L at_).2 = 0 ∨ _
    by_cases h5 : ((F.putTo L at_).chain L at_).2 < 4
    · rw [if_pos h5]; exact Or.inl rfl
    · rw [if_neg h5]
      refine Or.inr ⟨Nat.le_of_not_lt h5, ?_⟩
      rcases h4 with h4 | h4
      · exact absurd (show ((F.putTo L at_).chain L at_).2 = 0 from h4) (by omega)
      · exact h4

def plainTok (L : List UInt8) (from_ to_ : Nat) : List UInt8 := if from_ < to_ then cnL (2 * (to_ - from_)) ++ (L.drop from_).take (to_ - from_) else []
def pressToks (L : List UInt8) : Nat → Nat → Nat → Fd → List UInt8
  | 0, _, _, _ => []
  | f + 1, at_, from_, F =>
    if at_ < L.length then
      if (F.longest L at_).1.2 = 0 then pressToks L f (at_ + 1) from_ (F.longest L at_).2
      else plainTok L from_ at_ ++ (cnL (2 * ((F.longest L at_).1.2 - 4) + 1) ++ (cnL ((F.longest L at_).1.1 - 1) ++ pressToks L f (at_ + (F.longest L at_).1.2) (at_ + (F.longest L at_).1.2) (F.longest L at_).2))
    else plainTok L from_ L.length
/-- a text, pressed -/
def press (L : List UInt8) : List UInt8 := cnL L.length ++ pressToks L (L.length + 1) 0 0 (Fd.new L)

def copied : List UInt8 → Nat → Nat → List UInt8
  | b, back, 0 => b
  | b, back, n + 1 => copied (b ++ [b.getD (b.length - back) 0]) back n
theorem copied_length : ∀ (n : Nat) (b : List UInt8) (back : Nat), (copied b back n).length = b.length + n
  | 0, b, back => rfl
  | n + 1, b, back => by
    show (copied (b ++ [b.getD (b.length - back) 0]) back n).length = _
    rw [copied_length n, List.length_append]
    simp
    omega
def wrongE (R : Rr) : Int := if R.e = 0 then 5 else R.e
def looseGo : Nat → Nat → List UInt8 → Rr → List UInt8 × Int
  | 0, _, _, _ => ([], 5)
  | f + 1, size, b, R =>
    if R.e = 0 ∧ b.length < size then
      if R.num.1 % 2 = 0 then
        if R.num.1 = 0 ∨ size - b.length < R.num.1 / 2 then ([], wrongE R.num.2)
        else looseGo f size (b ++ (R.num.2.raw (R.num.1 / 2)).1) (R.num.2.raw (R.num.1 / 2)).2
      else
        if R.num.2.num.2.e = 0 then
          if b.length < R.num.2.num.1 + 1 ∨ 4096 < R.num.2.num.1 + 1 ∨ 255 < R.num.1 / 2 ∨ size - b.length < R.num.1 / 2 + 4 then ([], 5)
          else looseGo f size (copied b (R.num.2.num.1 + 1) (R.num.1 / 2 + 4)) R.num.2.num.2
        else looseGo f size b R.num.2.num.2
    else if R.fin.e = 0 then (b, 0) else ([], R.fin.e)
theorem looseGo_succ (f size : Nat) (b : List UInt8) (R : Rr) : looseGo (f + 1) size b R =
    (if R.e = 0 ∧ b.length < size then
        if R.num.1 % 2 = 0 then
          if R.num.1 = 0 ∨ size - b.length < R.num.1 / 2 then ([], wrongE R.num.2)
          else looseGo f size (b ++ (R.num.2.raw (R.num.1 / 2)).1) (R.num.2.raw (R.num.1 / 2)).2
        else
          if R.num.2.num.2.e = 0 then
            if b.length < R.num.2.num.1 + 1 ∨ 4096 < R.num.2.num.1 + 1 ∨ 255 < R.num.1 / 2 ∨ size - b.length < R.num.1 / 2 + 4 then ([], 5)
            else looseGo f size (copied b (R.num.2.num.1 + 1) (R.num.1 / 2 + 4)) R.num.2.num.2
          else looseGo f size b R.num.2.num.2
      else if R.fin.e = 0 then (b, 0) else ([], R.fin.e)) := rfl
/-- the text that was pressed -/
def loose (L : List UInt8) : List UInt8 × Int := looseGo (L.length + 2) ((Rr.mk L 0).count 1048576).1 [] ((Rr.mk L 0).count 1048576).2

theorem copied_take {L : List UInt8} {back : Nat} (hb : 1 ≤ back) : ∀ (n at_ : Nat), back ≤ at_ → at_ + n ≤ L.length → (∀ j, j < n → L[at_ - back + j]? = L[at_ + j]?) → copied (L.take at_) back n = L.take (at_ + n)
  | 0, at_, _, _, _ => rfl
  | n + 1, at_, h1, h2, h3 => by
    have hlen : (L.take at_).length = at_ := by rw [List.length_take]; omega
    have h0 := h3 0 (by omega)
    simp only [Nat.add_zero] at h0
    have hx : (L.take at_).getD (at_ - back) 0 = L[at_]'(by omega) := by
      rw [List.getD_eq_getElem?_getD, List.getElem?_take, if_pos (by omega), h0, List.getElem?_eq_getElem (by omega)]
      rfl
    show copied (L.take at_ ++ [(L.take at_).getD ((L.take at_).length - back) 0]) back n = _
    rw [hlen, hx]
    have hs : L.take at_ ++ [L[at_]'(by omega)] = L.take (at_ + 1) := by rw [List.take_add_one, List.getElem?_eq_getElem (by omega)]; rfl
    rw [hs, copied_take hb n (at_ + 1) (by omega) (by omega) (fun j hj => by
      have := h3 (j + 1) (by omega)
      rw [show at_ + 1 - back + j = at_ - back + (j + 1) by omega, show at_ + 1 + j = at_ + (j + 1) by omega]
      exact this)]
    rw [show at_ + 1 + n = at_ + (n + 1) by omega]
theorem loose_plain {L : List UInt8} {from_ to_ : Nat} (h : from_ < to_) (hl : to_ ≤ L.length) (hm : L.length ≤ 1048576) (g : Nat) (rest : List UInt8) :
    looseGo (g + 1) L.length (L.take from_) ⟨plainTok L from_ to_ ++ rest, 0⟩ = looseGo g L.length (L.take to_) ⟨rest, 0⟩ := by
  have hlen : (L.take from_).length = from_ := by rw [List.length_take]; omega
  have hseg : ((L.drop from_).take (to_ - from_)).length = to_ - from_ := by rw [List.length_take, List.length_drop]; omega
  unfold plainTok
  rw [if_pos h, List.append_assoc]
  have hn := Rr.num_back (2 * (to_ - from_)) ((L.drop from_).take (to_ - from_) ++ rest) (by omega)
  rw [looseGo_succ, if_pos ⟨rfl, by rw [hlen]; omega⟩, hn]
  show (if 2 * (to_ - from_) % 2 = 0 then _ else _) = _
  rw [if_pos (by omega)]
  show (if 2 * (to_ - from_) = 0 ∨ L.length - (L.take from_).length < 2 * (to_ - from_) / 2 then _ else _) = _
  rw [if_neg (by rw [hlen]; omega)]
  show looseGo g L.length (L.take from_ ++ ((Rr.mk ((L.drop from_).take (to_ - from_) ++ rest) 0).raw (2 * (to_ - from_) / 2)).1) ((Rr.mk ((L.drop from_).take (to_ - from_) ++ rest) 0).raw (2 * (to_ - from_) / 2)).2 = _
  have hr := Rr.raw_back ((L.drop from_).take (to_ - from_)) rest
  rw [hseg] at hr
  rw [show 2 * (to_ - from_) / 2 = to_ - from_ by omega, hr]
  show looseGo g L.length (L.take from_ ++ (L.drop from_).take (to_ - from_)) ⟨rest, 0⟩ = _
  rw [show L.take from_ ++ (L.drop from_).take (to_ - from_) = L.take to_ by
    have e := List.take_add (l := L) (i := from_) (j := to_ - from_)
    rw [← e, show from_ + (to_ - from_) = to_ by omega]]
theorem loose_copy {L : List UInt8} {at_ : Nat} {r : Nat × Nat} (h4 : 4 ≤ r.2) (hg : GoodCopy L at_ r) (hm : L.length ≤ 1048576) (g : Nat) (rest : List UInt8) :
    looseGo (g + 1) L.length (L.take at_) ⟨cnL (2 * (r.2 - 4) + 1) ++ (cnL (r.1 - 1) ++ rest), 0⟩ = looseGo g L.length (L.take (at_ + r.2)) ⟨rest, 0⟩ := by
  obtain ⟨g1, g2, g3, g4, g5, g6⟩ := hg
  have hlen : (L.take at_).length = at_ := by rw [List.length_take]; omega
  have hn := Rr.num_back (2 * (r.2 - 4) + 1) (cnL (r.1 - 1) ++ rest) (by omega)
  have hn2 := Rr.num_back (r.1 - 1) rest (by omega)
  rw [looseGo_succ, if_pos ⟨rfl, by rw [hlen]; omega⟩, hn]
  show (if (2 * (r.2 - 4) + 1) % 2 = 0 then _ else _) = _
  rw [if_neg (by omega)]
  show (if (Rr.mk (cnL (r.1 - 1) ++ rest) 0).num.2.e = 0 then _ else _) = _
  rw [hn2]
  show (if (0 : Int) = 0 then (if (L.take at_).length < r.1 - 1 + 1 ∨ 4096 < r.1 - 1 + 1 ∨ 255 < (2 * (r.2 - 4) + 1) / 2 ∨ L.length - (L.take at_).length < (2 * (r.2 - 4) + 1) / 2 + 4 then _ else looseGo g L.length (copied (L.take at_) (r.1 - 1 + 1) ((2 * (r.2 - 4) + 1) / 2 + 4)) ⟨rest, 0⟩) else _) = _
  rw [if_pos rfl, if_neg (by rw [hlen]; omega), show r.1 - 1 + 1 = r.1 by omega, show (2 * (r.2 - 4) + 1) / 2 + 4 = r.2 by omega, copied_take g1 r.2 at_ g2 g5 g6]
theorem plainTok_some {L : List UInt8} {from_ to_ : Nat} (h : from_ < to_) : 0 < (plainTok L from_ to_).length := by
  unfold plainTok
  rw [if_pos h, List.length_append]
  have := cnL_pos (2 * (to_ - from_))
  omega
theorem loose_toks {L : List UInt8} (hm : L.length ≤ 1048576) : ∀ (f at_ from_ : Nat) (F : Fd), F.Ok L → F.done ≤ at_ → from_ ≤ at_ → at_ ≤ L.length → L.length + 1 ≤ f + at_ → ∀ g, (pressToks L f at_ from_ F).length + 1 ≤ g →
    looseGo g L.length (L.take from_) ⟨pressToks L f at_ from_ F, 0⟩ = (L, 0)
  | 0, at_, from_, F, _, _, _, h1, h2, g, _ => by omega
  | f + 1, at_, from_, F, hF, hd, hfa, hal, hf, g, hg => by
    unfold pressToks at hg ⊢
    by_cases h1 : at_ < L.length
    · rw [if_pos h1] at hg ⊢
      have hk := Fd.longest_ok at_ hF hd hal
      by_cases h0 : (F.longest L at_).1.2 = 0
      · rw [if_pos h0] at hg ⊢
        exact loose_toks hm f (at_ + 1) from_ _ hk.1 (by omega) (by omega) (by omega) (by omega) g hg
      · rw [if_neg h0] at hg ⊢
        rcases hk.2.2 with h | ⟨h4, hgood⟩
        · exact absurd h h0
        · have hg5 := hgood.2.2.2.2.1
          have ih := fun g hg => loose_toks hm f (at_ + (F.longest L at_).1.2) (at_ + (F.longest L at_).1.2) (F.longest L at_).2 hk.1 (by omega) (Nat.le_refl _) hg5 (by omega) g hg
          generalize pressToks L f (at_ + (F.longest L at_).1.2) (at_ + (F.longest L at_).1.2) (F.longest L at_).2 = T at hg ih ⊢
          have hp1 := cnL_pos (2 * ((F.longest L at_).1.2 - 4) + 1)
          have hp2 := cnL_pos ((F.longest L at_).1.1 - 1)
          simp only [List.length_append] at hg
          by_cases h5 : from_ < at_
          · have hp3 := plainTok_some (L := L) h5
            obtain ⟨g, rfl⟩ : ∃ g', g = g' + 1 := ⟨g - 1, by omega⟩
            rw [loose_plain h5 hal hm]
            obtain ⟨g, rfl⟩ : ∃ g', g = g' + 1 := ⟨g - 1, by omega⟩
            rw [loose_copy h4 hgood hm]
            exact ih g (by omega)
          · have e : from_ = at_ := by omega
            subst e
            have e2 : plainTok L from_ from_ = [] := by unfold plainTok; rw [if_neg (by omega)]
            rw [e2, List.nil_append]
            obtain ⟨g, rfl⟩ : ∃ g', g = g' + 1 := ⟨g - 1, by omega⟩
            rw [loose_copy h4 hgood hm]
            exact ih g (by omega)
    · rw [if_neg h1] at hg ⊢
      have e : at_ = L.length := by omega
      have hend : ∀ g, looseGo (g + 1) L.length (L.take L.length) ⟨[], 0⟩ = (L, 0) := by
        intro g
        rw [looseGo_succ, List.take_length, if_neg (by simp)]
        rfl
      by_cases h5 : from_ < L.length
      · have hp3 := plainTok_some (L := L) h5
        obtain ⟨g, rfl⟩ : ∃ g', g = g' + 1 := ⟨g - 1, by omega⟩
        have := loose_plain h5 (Nat.le_refl _) hm g []
        rw [List.append_nil] at this
        rw [this]
        obtain ⟨g, rfl⟩ : ∃ g', g = g' + 1 := ⟨g - 1, by omega⟩
        exact hend g
      · have e3 : from_ = L.length := by omega
        rw [e3]
        have e2 : plainTok L L.length L.length = [] := by unfold plainTok; rw [if_neg (by omega)]
        rw [e2]
        obtain ⟨g, rfl⟩ : ∃ g', g = g' + 1 := ⟨g - 1, by omega⟩
        exact hend g
/-- what was pressed is read back -/
theorem loose_press (L : List UInt8) (hm : L.length ≤ 1048576) : loose (press L) = (L, 0) := by
  unfold loose press
  have hn := Rr.num_back L.length (pressToks L (L.length + 1) 0 0 (Fd.new L)) (by omega)
  have hc : (Rr.mk (cnL L.length ++ pressToks L (L.length + 1) 0 0 (Fd.new L)) 0).count 1048576 = (L.length, ⟨pressToks L (L.length + 1) 0 0 (Fd.new L), 0⟩) := by
    unfold Rr.count
    rw [hn, if_neg]
    rintro ⟨_, h⟩
    exact absurd (show 1048576 < L.length from h) (by omega)
  rw [hc]
  have := loose_toks hm (L.length + 1) 0 0 (Fd.new L) (Fd.new_ok L) (Nat.le_refl _) (Nat.le_refl _) (Nat.zero_le _) (by omega) ((cnL L.length ++ pressToks L (L.length + 1) 0 0 (Fd.new L)).length + 2) (by rw [List.length_append]; omega)
  exact this
/-- a text, pressed if that has fewer bytes; the first byte tells -/
def wrapL (L : List UInt8) : List UInt8 := if (press L).length < L.length then 90 :: press L else 82 :: L
/-- the text that was wrapped -/
def openL : List UInt8 → List UInt8 × Int
  | [] => ([], 3)
  | c :: r => if c = 82 then (r, 0) else if c = 90 then loose r else ([], 5)
theorem open_wrap (L : List UInt8) (hm : L.length ≤ 1048576) : openL (wrapL L) = (L, 0) := by
  unfold wrapL
  by_cases h : (press L).length < L.length
  · rw [if_pos h]
    show (if (90 : UInt8) = 82 then (press L, (0 : Int)) else if (90 : UInt8) = 90 then loose (press L) else ([], (5 : Int))) = _
    rw [if_neg (by decide), if_pos rfl, loose_press L hm]
  · rw [if_neg h]
    show (if (82 : UInt8) = 82 then (L, (0 : Int)) else if (82 : UInt8) = 90 then loose L else ([], (5 : Int))) = _
    rw [if_pos rfl]
theorem wrapL_len (L : List UInt8) : (wrapL L).length ≤ L.length + 1 := by
  unfold wrapL
  by_cases h : (press L).length < L.length
  · rw [if_pos h, List.length_cons]; omega
  · rw [if_neg h, List.length_cons]; exact Nat.le_refl _
end Go.Proofs.YtogobhpnlndcaaaGreat
