/- A device and the document's device side by side in memory. No condition. -/
import Derived.Test.YtlmodbaeoheiiaaDuoPlain
import Derived.Test.YtlmodbaeoheiiaaCopy
import Derived.Test.YtlmodbaeoheiiaaDiskFull
namespace Go.Proofs.Ytlmodbaeoheiiaa
open Go.RowKit
set_option linter.unusedVariables false

structure Duo (w : World) (b q : Nat) (S : DSt) (R : RSt) : Prop where
  disk : DiskAt w b S
  ref : RefD w q R
  apart : ∀ k, foot b S k → ¬ rfoot q R k
def dfoot (b q : Nat) (S : DSt) (R : RSt) (k : Nat) : Prop := foot b S k ∨ rfoot q R k
structure DStep (b q : Nat) (S : DSt) (R : RSt) (w : World) (S' : DSt) (R' : RSt) (w' : World) : Prop where
  duo : Duo w' b q S' R'
  touch : Touch (dfoot b q S R) w w'
  foot_ : ∀ k, dfoot b q S' R' k → dfoot b q S R k ∨ w.heap.size ≤ k
theorem Duo.lt {w : World} {b q : Nat} {S : DSt} {R : RSt} (h : Duo w b q S R) {k : Nat} (hk : dfoot b q S R k) : k < w.heap.size := by
  rcases hk with hk | hk
  · exact foot_lt h.disk hk
  · exact rfoot_lt h.ref hk
theorem Duo.below {w w' : World} {b q : Nat} {S : DSt} {R : RSt} (h : Duo w b q S R) (hb : Below w.heap.size w w') : Duo w' b q S R := ⟨h.disk.below hb, h.ref.below hb, h.apart⟩
theorem DStep.refl {w : World} {b q : Nat} {S : DSt} {R : RSt} (h : Duo w b q S R) : DStep b q S R w S R w := ⟨h, Touch.refl _ _, fun _ hk => Or.inl hk⟩
theorem DStep.trans {b q : Nat} {S S1 S2 : DSt} {R R1 R2 : RSt} {w w1 w2 : World} (h1 : DStep b q S R w S1 R1 w1) (h2 : DStep b q S1 R1 w1 S2 R2 w2) : DStep b q S R w S2 R2 w2 :=
  ⟨h2.duo, ⟨h2.touch.os.trans h1.touch.os, h2.touch.tape.trans h1.touch.tape, h2.touch.output.trans h1.touch.output, Nat.le_trans h1.touch.size h2.touch.size, fun k hk hn => by
    rw [h2.touch.block k (Nat.lt_of_lt_of_le hk h1.touch.size) (fun hf => by
      rcases h1.foot_ k hf with h | h
      · exact hn h
      · omega)]
    exact h1.touch.block k hk hn⟩, fun k hk => by
    rcases h2.foot_ k hk with h | h
    · exact h1.foot_ k h
    · right; have := h1.touch.size; omega⟩
theorem DStep.below {b q : Nat} {S S1 : DSt} {R R1 : RSt} {w w1 w2 : World} (h : DStep b q S R w S1 R1 w1) (hb : Below w1.heap.size w1 w2) : DStep b q S R w S1 R1 w2 :=
  h.trans ⟨h.duo.below hb, Touch.of_below hb, fun _ hk => Or.inl hk⟩
theorem DStep.after {b q : Nat} {S S1 : DSt} {R R1 : RSt} {w w1 w2 : World} (hb : Below w.heap.size w w1) (h : DStep b q S R w1 S1 R1 w2) : DStep b q S R w S1 R1 w2 :=
  ⟨h.duo, (Touch.of_below hb).trans h.touch, fun k hk => by
    rcases h.foot_ k hk with h1 | h1
    · exact Or.inl h1
    · right; have := hb.size; omega⟩
theorem Duo.dev {w w' : World} {b q : Nat} {S S' : DSt} {R : RSt} (h : Duo w b q S R) (hd : Dev b S w S' w') : DStep b q S R w S' R w' :=
  ⟨⟨hd.at_, h.ref.away hd.touch (fun k hk hf => h.apart k hf hk), fun k hk hr => by
    rcases hd.foot_ k hk with h1 | h1
    · exact h.apart k h1 hr
    · have := rfoot_lt h.ref hr; omega⟩, hd.touch.mono (fun k _ hk => Or.inl hk), fun k hk => by
    rcases hk with hk | hk
    · rcases hd.foot_ k hk with h1 | h1
      · exact Or.inl (Or.inl h1)
      · exact Or.inr h1
    · exact Or.inl (Or.inr hk)⟩
theorem Duo.rdev {w w' : World} {b q : Nat} {S : DSt} {R R' : RSt} (h : Duo w b q S R) (hd : RDev q R w R' w') : DStep b q S R w S R' w' :=
  ⟨⟨h.disk.touch hd.touch (fun k hk hf => h.apart k hk hf), hd.at_, fun k hk hr => by
    rcases hd.foot_ k hr with h1 | h1
    · exact h.apart k hk h1
    · have := foot_lt h.disk hk; omega⟩, hd.touch.mono (fun k _ hk => Or.inr hk), fun k hk => by
    rcases hk with hk | hk
    · exact Or.inl (Or.inl hk)
    · rcases hd.foot_ k hk with h1 | h1
      · exact Or.inl (Or.inr h1)
      · exact Or.inr h1⟩
/-- a block that is neither's stays -/
theorem DStep.blk {b q : Nat} {S S' : DSt} {R R' : RSt} {w w' : World} (h : DStep b q S R w S' R' w') {g : Nat} {cs : List Value} {T : TypeId} (hb : Blk w g cs T) (hg : ¬ dfoot b q S R g) : Blk w' g cs T := hb.touch h.touch hg
structure QOk (R : RSt) : Prop where
  flen : R.files.length ≤ 1000000
  wlen : R.wait.length ≤ 1000000000
  small : RSmall R.files
  wait : ∀ p ∈ R.wait, OkRP p
  most : 0 ≤ R.most ∧ R.most ≤ 32768
  made : 0 ≤ R.made ∧ R.made ≤ 1000000000
  count : 0 ≤ R.count ∧ R.count ≤ 1000000000000
  fuse : R.fuse ≤ 9223372036854775807
theorem Rel.ok {S : DSt} {R : RSt} {n : Nat} (hr : Rel S.pl R.pl) (h : OkP n S.pl) (hn : n ≤ 1000000) : QOk R := by
  have hl : (S.pl.files.map toRF).length = R.pl.files.length := hr.files.length_eq
  rw [List.length_map] at hl
  have hw : (S.pl.wait.map toRP).length = R.pl.wait.length := congrArg List.length hr.wait
  rw [List.length_map] at hw
  have h1 := h.flen
  have h2 := h.wlen
  have h3 := h.count
  have h4 := h.made
  have h5 := h.most
  have h6 := h.fuse
  have e1 : R.pl.files.length = R.files.length := rfl
  have e2 : R.pl.wait.length = R.wait.length := rfl
  have e3 : S.pl.count = R.count := hr.count
  have e4 : S.pl.made = R.made := hr.made
  have e5 : S.pl.most = R.most := hr.most
  have e6 : S.pl.fuse = R.fuse := hr.fuse
  refine ⟨by omega, by omega, fun f hf => ?_, fun p hp => ?_, by omega, by omega, by omega, by omega⟩
  · have hm := (hr.files.mem_iff).2 (show f ∈ R.pl.files from hf)
    obtain ⟨g, hg, rfl⟩ := List.mem_map.1 hm
    have := h.small g hg
    exact ⟨Nat.le_trans this.1 (by omega), Nat.le_trans this.2 (by omega)⟩
  · have hm : p ∈ S.pl.wait.map toRP := by rw [hr.wait]; exact hp
    obtain ⟨g, hg, rfl⟩ := List.mem_map.1 hm
    obtain ⟨k1, k2, k3⟩ := h.wait g hg
    exact ⟨by show 0 ≤ g.at_ * 64 + g.from_; omega, k3⟩
def StepOk (b q n : Nat) (S : DSt) (R : RSt) (w : World) (e : Ending) (w' : World) : Prop := e = .returned (.bool true) ∧ ∃ S' R', DStep b q S R w S' R' w' ∧ Rel S'.pl R'.pl ∧ OkP (n + 701) S'.pl
theorem spoil_any (b n : Nat) (S : DSt) (s : ByteArray) (a y : Int) (w : World) (h : DiskAt w b S) (hok : OkP n S.pl) (hn : n ≤ 1000000) :
    Calls Try.prog 32 #[.pointer (some ⟨b, 0, none⟩), .string s, .int .i64 a, .int .i64 y] w fun e w' => e = .returned (.int .i64 (S.pl.spoil s a y).1) ∧ ∃ S', Dev b S w S' w' ∧ S'.pl = (S.pl.spoil s a y).2 := by
  obtain ⟨hor, hl, _⟩ := hok.ready hn
  rcases find_both hor s with ⟨h1, h2⟩ | ⟨i, hi, h1, h2, h3⟩
  · have e0 : S.pl.spoil s a y = (8, S.pl) := by unfold PS.spoil; rw [pl_files, h2]
    rw [e0]
    refine (spoil_none b S s a y w h hor hl h1).mono ?_
    rintro e w' ⟨rfl, rfl⟩
    exact ⟨rfl, S, Dev.refl h, rfl⟩
  · have e8 : S.pl.files[i]? = some S.files[i].pl := by rw [pl_files, List.getElem?_map, List.getElem?_eq_getElem hi]; rfl
    have eF : findI S.pl.files s = some i := by rw [pl_files]; exact h2
    by_cases hr : a < 0 ∨ (S.files[i].last.length : Int) ≤ a
    · have e0 : S.pl.spoil s a y = (2, S.pl) := by
        unfold PS.spoil
        rw [eF]
        show (match S.pl.files[i]? with | none => _ | some f => _ : Int × PS) = _
        rw [e8]
        exact if_pos hr
      rw [e0]
      refine (spoil_range b S s a y _ w h hor hl h1 hr).mono ?_
      rintro e w' ⟨rfl, rfl⟩
      exact ⟨rfl, S, Dev.refl h, rfl⟩
    · obtain ⟨m, rfl⟩ := Int.eq_ofNat_of_zero_le (show 0 ≤ a by omega)
      have e0 : S.pl.spoil s (m : Int) y = (0, ({ S with files := S.files.set i (bentF m y S.files[i]) } : DSt).pl) := by
        unfold PS.spoil
        rw [eF]
        show (match S.pl.files[i]? with | none => _ | some f => _ : Int × PS) = _
        rw [e8]
        refine (if_neg hr).trans ?_
        show (0, PS.mk (S.pl.files.set i _) _ _ _ _ _ _) = (0, PS.mk ((S.files.set i _).map DFile.pl) _ _ _ _ _ _)
        rw [List.map_set, pl_files]
        rfl
      rw [e0]
      have fin : ∀ {e : Ending} {w' : World}, e = .returned (.int .i64 0) ∧ Dev b S w { S with files := S.files.set i (bentF m y S.files[i]) } w' → e = .returned (.int .i64 0) ∧ ∃ S', Dev b S w S' w' ∧ S'.pl = ({ S with files := S.files.set i (bentF m y S.files[i]) } : DSt).pl := fun ⟨he, hd⟩ => ⟨he, _, hd, rfl⟩
      by_cases hs : S.files[i].seen.length ≤ m
      · exact (spoil_last b S s m y i hi w h hor hl h1 (by omega) hs).mono fun _ _ hh => fin hh
      · exact (spoil_both b S s m y i hi w h hor hl h1 (by omega) (by omega)).mono fun _ _ hh => fin hh
theorem OkP.spoil {n : Nat} {P : PS} (h : OkP n P) (s : ByteArray) (a y : Int) : OkP n (P.spoil s a y).2 := by
  unfold PS.spoil
  split
  · exact h
  · next i hi =>
    split
    · exact h
    · next f hf =>
      split
      · exact h
      · have hil : i < P.files.length := (List.getElem?_eq_some_iff.1 hf).1
        have hfe : P.files[i] = f := (List.getElem?_eq_some_iff.1 hf).2
        have hb : ∀ (l : List UInt8) (m : Nat), (bentAt l m y).length = l.length := fun l m => by unfold bentAt; rw [List.length_set]
        refine ⟨?_, ?_, h.wlen, h.count, h.made, h.most, h.fuse, ?_, h.wait⟩
        · show (P.files.set i _).Pairwise _
          have hn := h.names
          rw [List.pairwise_iff_getElem] at hn ⊢
          have key : ∀ j (hj : j < (P.files.set i { f with last := bentAt f.last a.toNat y, seen := bentAt f.seen a.toNat y }).length) (hj2 : j < P.files.length), (P.files.set i { f with last := bentAt f.last a.toNat y, seen := bentAt f.seen a.toNat y })[j].name = P.files[j].name := fun j hj hj2 => by
            rw [List.getElem_set]
            split
            · next e => subst e; rw [hfe]
            · rfl
          intro x y2 hx hy hxy
          rw [key x hx (by simpa using hx), key y2 hy (by simpa using hy)]
          exact hn x y2 (by simpa using hx) (by simpa using hy) hxy
        · show (P.files.set i _).length ≤ n
          rw [List.length_set]; exact h.flen
        · intro g hg
          rcases List.mem_or_eq_of_mem_set hg with h1 | h1
          · exact h.small g h1
          · subst h1
            have := h.small f (List.mem_of_getElem? hf)
            exact ⟨by show (bentAt _ _ _).length ≤ _; rw [hb]; exact this.1, by show (bentAt _ _ _).length ≤ _; rw [hb]; exact this.2⟩
theorem low_any (n : Int) (w : World) (h : (Lit.int .i64 n).wf = true) : Calls Try.prog 51 #[.int .i64 n] w fun e w' => e = .returned (.int .i64 (if 5000 < n ∧ n ≤ 2097152 then n % 5000 else n)) ∧ w = w' := by
  have hb := int_bounds h
  clear h
  by_cases h1 : 5000 < n
  · by_cases h2 : n ≤ 2097152
    · rw [if_pos ⟨h1, h2⟩]
      have ht : n.tmod 5000 = n % 5000 := Int.tmod_eq_emod_of_nonneg (by omega)
      go_enter Try.func51, Try.ntmps51
      go_wp2_with fail
      go_ret
      exact ⟨ret_int (by first | rfl | exact ht), rfl⟩
    · rw [if_neg (fun h => h2 h.2)]
      go_enter Try.func51, Try.ntmps51
      go_wp2_with fail
      go_ret
      exact ⟨rfl, rfl⟩
  · rw [if_neg (fun h => h1 h.1)]
    go_enter Try.func51, Try.ntmps51
    go_wp2_with fail
    go_ret
    exact ⟨rfl, rfl⟩
end Go.Proofs.Ytlmodbaeoheiiaa
