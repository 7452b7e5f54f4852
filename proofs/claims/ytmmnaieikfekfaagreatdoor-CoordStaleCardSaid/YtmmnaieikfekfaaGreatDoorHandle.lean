/- The walk of Handle at a promise, while the coordinator prepares. Conditions as at promise. -/
import Derived.Test.YtmmnaieikfekfaaGreatDoorPromise
import Derived.Test.YtmmnaieikfekfaaGreatDoorTallyLaw
namespace Go.Proofs.YtmmnaieikfekfaaGreatDoor
open Go.RowKit

def noPeer : Peer := ⟨false, 0, 0, 0, ⟨#[]⟩, false, 0, .pointer none⟩
/-- a promise of whom has promised changes nothing -/
theorem promise_old (w0 : World) (c t : Nat) (S : CSt) (n : Nat) (m : List Bool) (ps : List Prom) (qs : List Peer) (v : Nat) (kind to' bal gen basis fl tp rd pa po : Int) (mk pt : ByteArray) (ls : Value) (w : World)
    (h : Prep w0 w c t S n m ps qs) (hv : v < n) (hm : m.getD v false = true) :
    Calls Tryz.prog 45 #[.pointer (some ⟨c, 0, none⟩), .agg #[.int .i64 kind, .int .i64 (v : Int), .int .i64 to', .int .i64 bal, .int .i64 gen, .int .i64 basis, .int .i64 fl, .int .i64 tp, .int .i64 rd, .string mk, .int .i64 pa, .int .i64 po, .string pt, ls]] w fun e w' => e = .returned (.tuple #[]) ∧ Below w.heap.size w w' := by
  have hat := h.at_
  have htl := h.tally
  have hcl := hat.1.lt
  have c9 : w.cell? ⟨c, 9, none⟩ = some (.pointer (some ⟨t, 0, none⟩)) := by rw [← h.promised]; exact hat.hd 9 (by omega)
  have Htl := Lib.hid htl
  have Hm := Lib.hid hm
  clear h hat htl hm
  go_enter Tryz.func45, Tryz.ntmps45
  go_wp2
  have Htl1 := Lib.hid (show TallyAt (w.alloc (.cells #[.int .i64 kind, .int .i64 (v : Int), .int .i64 to', .int .i64 bal, .int .i64 gen, .int .i64 basis, .int .i64 fl, .int .i64 tp, .int .i64 rd, .string mk, .int .i64 pa, .int .i64 po, .string pt, ls] 61)) t n m from ⟨Htl.out.1.alloc _, Htl.out.2⟩)
  go_quiet ((go_at_call 64; first | exact quiet_left (has_in t n m v _ (Htl1.out.drewN _) hv) | exact quiet_add_left (has_in t n m v _ (Htl1.out.drewN _) hv)))
  rw [Hm.out]
  go_wp2
  refine bodyPost_ret (results_none rfl _ _ _) rfl ?_
  exact ⟨rfl, below_drewN ((Below.refl _ _).alloc (Nat.le_refl _) _) _⟩

theorem Prep.below' {w0 w w' : World} {c t : Nat} {S : CSt} {n : Nat} {m : List Bool} {ps : List Prom} {qs : List Peer} (h : Prep w0 w c t S n m ps qs) (hb : Below w.heap.size w w') : Prep w0 w' c t S n m ps qs := by
  obtain ⟨cs, h1, h2⟩ := h.row
  exact ⟨h.at_.below hb, h.n_, h.n1, h.n9, h.promised, tallyAt_below h.tally hb, ⟨cs, ownsRow_below h1 hb, h2⟩, h.peers, h.qs9, below_step h.below hb, h.c0, h.t0⟩

set_option maxRecDepth 100000 in
set_option maxHeartbeats 4000000 in
/-- Handle, a promise of the coordinator's own ballot, while it prepares: what 'promise' does -/
theorem handle_promise {R : Ending → World → Prop} (w0 : World) (c t : Nat) (S : CSt) (n : Nat) (m : List Bool) (ps : List Prom) (qs : List Peer) (v : Nat) (gen basis fl tp rd pa po : Int) (mk pt : ByteArray) (ls : Value) (w : World)
    (h : Prep w0 w c t S n m ps qs) (hv : v < n) (hph : S.phase = 1)
    (hp : ∀ w1, Below w.heap.size w w1 → Calls Tryz.prog 45 #[.pointer (some ⟨c, 0, none⟩), .agg #[.int .i64 2, .int .i64 (v : Int), .int .i64 S.id, .int .i64 S.ballot, .int .i64 gen, .int .i64 basis, .int .i64 fl, .int .i64 tp, .int .i64 rd, .string mk, .int .i64 pa, .int .i64 po, .string pt, ls]] w1 fun e w' => e = .returned (.tuple #[]) ∧ R e w') :
    Calls Tryz.prog 25 #[.pointer (some ⟨c, 0, none⟩), .agg #[.int .i64 2, .int .i64 (v : Int), .int .i64 S.id, .int .i64 S.ballot, .int .i64 gen, .int .i64 basis, .int .i64 fl, .int .i64 tp, .int .i64 rd, .string mk, .int .i64 pa, .int .i64 po, .string pt, ls]] w R := by
  have hat := h.at_
  have hcl := hat.1.lt
  have hn1 := h.n1
  have hn := h.n_
  have hvn : (v : Int) < (n : Int) := by omega
  have c0 : w.cell? ⟨c, 0, none⟩ = some (.int .i64 S.id) := hat.hd 0 (by omega)
  have c1 : w.cell? ⟨c, 1, none⟩ = some (.int .i64 (n : Int)) := by rw [← hn]; exact hat.hd 1 (by omega)
  have c3 : w.cell? ⟨c, 3, none⟩ = some (.int .i64 S.ballot) := hat.hd 3 (by omega)
  have c4 : w.cell? ⟨c, 4, none⟩ = some (.int .i64 1) := by rw [← hph]; exact hat.hd 4 (by omega)
  have Hat := Lib.hid hat
  have Hn := Lib.hid (show 1 ≤ S.n by omega)
  have HP := Lib.hid hp
  clear h hat hn hph hp
  go_enter Tryz.func25, Tryz.ntmps25
  go_wp2
  have Hat1 := Lib.hid (Hat.out.alloc (.cells #[.int .i64 2, .int .i64 (v : Int), .int .i64 S.id, .int .i64 S.ballot, .int .i64 gen, .int .i64 basis, .int .i64 fl, .int .i64 tp, .int .i64 rd, .string mk, .int .i64 pa, .int .i64 po, .string pt, ls] 61))
  go_quiet ((go_at_call 32; first | exact quiet_left (none_any c S _ (Hat1.out.drewN _) Hn.out) | exact quiet_add_left (none_any c S _ (Hat1.out.drewN _) Hn.out)))
  go_wp2
  go_quiet (fail)
  go_wp2_with fail
  have hb1 := (Below.refl w.heap.size w).alloc (Nat.le_refl _) (.cells #[.int .i64 2, .int .i64 (v : Int), .int .i64 S.id, .int .i64 S.ballot, .int .i64 gen, .int .i64 basis, .int .i64 fl, .int .i64 tp, .int .i64 rd, .string mk, .int .i64 pa, .int .i64 po, .string pt, ls] 61)
  refine (HP.out _ (by repeat (first | exact hb1 | refine below_drewN ?_ _))).mono ?_
  rintro e w2 ⟨rfl, hR⟩
  have HR := Lib.hid hR
  clear hR
  go_wp2_with fail
  refine bodyPost_ret (results_none rfl _ _ _) rfl ?_
  exact HR.out

/-- Handle at a promise that says nothing but that it is one: the coordinator prepares on, or leads -/
def HandleSays (w0 : World) (c t : Nat) (S : CSt) (n : Nat) (m : List Bool) (v K : Nat) (w : World) (e : Ending) (w' : World) : Prop :=
  e = .returned (.tuple #[]) ∧ Touch (InPrep c t S) w w' ∧
  (wonT (addTo m v n) n = false → ∃ S' ps qs, Prep w0 w' c t S' n (addTo m v n) ps qs ∧ ps.length ≤ K + 1 ∧ (∀ p ∈ ps, p.top = 0 ∧ p.list = []) ∧ S'.phase = 1 ∧ S'.id = S.id ∧ S'.ballot = S.ballot ∧ S'.call = S.call) ∧
  (wonT (addTo m v n) n = true → ∃ S', CoordAt w' c S' ∧ S'.n = (n : Int) ∧ S'.phase = 2)

theorem handle_empty (w0 : World) (c t : Nat) (S : CSt) (n : Nat) (m : List Bool) (ps : List Prom) (qs : List Peer) (v K : Nat) (w : World)
    (h : Prep w0 w c t S n m ps qs) (hv : v < n) (hph : S.phase = 1) (hnw : wonT m n = false) (hK : K ≤ 100) (hps : ps.length ≤ K) (hall : ∀ p ∈ ps, p.top = 0 ∧ p.list = []) :
    Calls Tryz.prog 25 #[.pointer (some ⟨c, 0, none⟩), .agg #[.int .i64 2, .int .i64 (v : Int), .int .i64 S.id, .int .i64 S.ballot, .int .i64 0, .int .i64 0, .int .i64 0, .int .i64 0, .int .i64 0, .string ⟨#[]⟩, .int .i64 0, .int .i64 0, .string ⟨#[]⟩, .slice none 0 0]] w (HandleSays w0 c t S n m v K w) := by
  refine handle_promise w0 c t S n m ps qs v 0 0 0 0 0 0 0 ⟨#[]⟩ ⟨#[]⟩ (.slice none 0 0) w h hv hph (fun w1 hb1 => ?_)
  have h1 := h.below' hb1
  have hone : isOne (v : Int) n = true := by unfold isOne; simp; omega
  cases hm : m.getD v false with
  | true =>
    refine (promise_old w0 c t S n m ps qs v 2 _ _ 0 0 0 0 0 0 0 ⟨#[]⟩ ⟨#[]⟩ (.slice none 0 0) w1 h1 hv hm).mono ?_
    rintro e w' ⟨he, hb⟩
    have hsame : addTo m v n = m := add_same hone (by simpa using hm)
    refine ⟨he, he, (Touch.of_below hb1).trans (Touch.of_below hb |>.mono (fun k _ h => h)), ?_, ?_⟩
    · intro _
      rw [hsame]
      exact ⟨S, ps, qs, h1.below' hb, by omega, hall, hph, rfl, rfl, rfl⟩
    · intro hw
      rw [hsame, hnw] at hw
      cases hw
  | false =>
    refine (promise_new w0 c t S n m ps qs v 2 _ _ 0 0 0 0 0 0 0 ⟨#[]⟩ ⟨#[]⟩ none 0 [] w1 h1 hv hm (by omega) (Or.inl rfl) ?_ ?_).mono ?_
    · intro p hp
      rcases List.mem_append.1 hp with hp | hp
      · rw [(hall p hp).1]; omega
      · rw [List.mem_singleton.1 hp]; decide
    · intro p hp
      rcases List.mem_append.1 hp with hp | hp
      · rw [(hall p hp).2]; simp
      · rw [List.mem_singleton.1 hp]; simp
    · rintro e w' ⟨he, ht, hn, hy⟩
      refine ⟨he, he, (Touch.of_below hb1).trans ht, ?_, ?_⟩
      · intro hw
        obtain ⟨v', hP, _⟩ := hn hw
        refine ⟨_, _, _, hP, by rw [List.length_append]; simp; omega, ?_, hph, rfl, rfl, rfl⟩
        intro p hp
        rcases List.mem_append.1 hp with hp | hp
        · exact hall p hp
        · rw [List.mem_singleton.1 hp]; exact ⟨rfl, rfl⟩
      · intro hw
        obtain ⟨v1, v2, hC, _⟩ := hy hw
        exact ⟨_, hC, h.n_, rfl⟩
end Go.Proofs.YtmmnaieikfekfaaGreatDoor
