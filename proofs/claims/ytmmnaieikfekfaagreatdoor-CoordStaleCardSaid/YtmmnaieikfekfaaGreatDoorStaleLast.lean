/- The last calls of CoordStale's statement, each by its own contract. No condition. -/
import Derived.Test.YtmmnaieikfekfaaGreatDoorTold
import Derived.Test.YtmmnaieikfekfaaGreatDoorLeadProm
import Derived.Test.YtmmnaieikfekfaaGreatDoorSends
import Derived.Test.YtmmnaieikfekfaaGreatDoorReply2
import Derived.Deep.RegionHeld3
import Derived.Test.YtmmnaieikfekfaaGreatDoorCoordAsks
namespace Go.Proofs.YtmmnaieikfekfaaGreatDoor
open Go Go.RowKit
set_option linter.unusedVariables false

def Known0 (S : CSt) : Prop := S.id = 1 ∧ S.ballot = 21 ∧ S.answer = .pointer none
/-- it prepares, or leads and knows nothing; at most K promises -/
def Mode (w0 : World) (c t K : Nat) (w : World) : Prop :=
  (∃ S m ps qs, Prep w0 w c t S 3 m ps qs ∧ wonT m 3 = false ∧ ps.length ≤ K ∧ FlatP ps ∧ FlatQ qs ∧ S.phase = 1 ∧ Known0 S ∧ S.call = .pointer none ∧ S.job = .pointer none ∧ S.fetch = .pointer none) ∨
  (∃ S qs, CoordAt w c S ∧ LeadS S qs ∧ Known0 S)
def prepRow (L : List Nat) : List Value := L.flatMap fun v : Nat => (msgArr 1 1 (v : Int) 21).toList
theorem prepRow_ask (S : CSt) (h : Known0 S) (L : List Nat) : askVals S L = prepRow L := by unfold askVals prepRow; rw [h.1, h.2.1]
structure St (w0 : World) (c t wb bk : Nat) (sa : Option Addr) (sc : Nat) (L : List Nat) (K : Nat) (w : World) : Prop where
  mode : Mode w0 c t K w
  world : ∃ av k xs, Blk w wb (worldV c bk 1 3 (.slice sa L.length sc) av) 49 ∧ w.ownsRow w0.heap.size 61 14 (.slice sa L.length sc) L.length (prepRow L) ∧ w.ownsRow w0.heap.size 71 5 av k xs ∧ k ≤ K
  below : Below w0.heap.size w0 w
  wb0 : w0.heap.size ≤ wb
  c0 : w0.heap.size ≤ c
theorem Prep.told {w0 w w1 : World} {c t : Nat} {S : CSt} {n : Nat} {m : List Bool} {ps : List Prom} {qs : List Peer} {T : Nat → Prop} (h : Prep w0 w c t S n m ps qs) (hT : Touch T w w1) (h1 : ¬ T c) (h2 : ¬ T t) (h3 : ∀ g, S.promises.ownBlock = some g → ¬ T g) (hb : Below w0.heap.size w0 w1) : Prep w0 w1 c t S n m ps qs := by
  obtain ⟨cs, hr1, hr2⟩ := h.row
  exact ⟨⟨h.at_.1.touch hT h1, h.at_.2⟩, h.n_, h.n1, h.n9, h.promised, ⟨h.tally.1.touch hT h2, h.tally.2⟩, ⟨cs, row_touch hr1 hT h3, hr2⟩, h.peers, h.qs9, hb, h.c0, h.t0⟩
theorem not_inPrepS {w0 w : World} {c t : Nat} {S : CSt} {n : Nat} {m : List Bool} {ps : List Prom} {qs : List Peer} (h : Prep w0 w c t S n m ps qs) {b : Nat} {cs : List Value} {T : TypeId} (hb : Blk w b cs T)
    (h1 : T ≠ 91) (h2 : T ≠ 114) (h3 : T ≠ 136) : ¬ InPrep c t S b := by
  intro hi
  rcases hi with e | e | e
  · exact hb.ne h.at_.1 h1 e
  · exact hb.ne h.tally.1 h2 e
  · obtain ⟨cs', hr, _⟩ := h.row
    exact row_ne hr hb (Ne.symm h3) e
theorem St.quiet {w0 : World} {c t wb bk : Nat} {sa : Option Addr} {sc : Nat} {L : List Nat} {K : Nat} {w w' : World} (h : St w0 c t wb bk sa sc L K w) (hb : Below w.heap.size w w') : St w0 c t wb bk sa sc L K w' := by
  refine ⟨?_, ?_, below_step h.below hb, h.wb0, h.c0⟩
  · rcases h.mode with ⟨S, m, ps, qs, h1, h2⟩ | ⟨S, qs, h1, h2⟩
    · exact Or.inl ⟨S, m, ps, qs, h1.below' hb, h2⟩
    · exact Or.inr ⟨S, qs, h1.below hb, h2⟩
  · obtain ⟨av, k, xs, h1, h2, h3, h4⟩ := h.world
    exact ⟨av, k, xs, h1.below hb, ownsRow_below h2 hb, ownsRow_below h3 hb, h4⟩

def Far5 (T : TypeId) : Prop := T ≠ 49 ∧ T ≠ 91 ∧ T ≠ 114 ∧ T ≠ 136 ∧ T ≠ 71
/-- blocks of other types stay as they are -/
def Keeps (w w' : World) : Prop := ∀ (q : Nat) (cs : List Value) (T : TypeId), Far5 T → Blk w q cs T → Blk w' q cs T
theorem Keeps.of_below {w w' : World} (h : Below w.heap.size w w') : Keeps w w' := fun q cs T _ hq => hq.below h
theorem Keeps.trans {w w1 w2 : World} (h : Keeps w w1) (k : Keeps w1 w2) : Keeps w w2 := fun q cs T hf hq => k q cs T hf (h q cs T hf hq)
theorem St.mono {w0 : World} {c t wb bk : Nat} {sa : Option Addr} {sc : Nat} {L : List Nat} {K K' : Nat} {w : World} (h : St w0 c t wb bk sa sc L K w) (hk : K ≤ K') : St w0 c t wb bk sa sc L K' w := by
  refine ⟨?_, ?_, h.below, h.wb0, h.c0⟩
  · rcases h.mode with ⟨S, m, ps, qs, h1, h2, h3, h4⟩ | h1
    · exact Or.inl ⟨S, m, ps, qs, h1, h2, by omega, h4⟩
    · exact Or.inr h1
  · obtain ⟨av, k, xs, h1, h2, h3, h4⟩ := h.world
    exact ⟨av, k, xs, h1, h2, h3, by omega⟩

theorem st_handle (w0 : World) (c t wb bk : Nat) (sa : Option Addr) (sc : Nat) (L : List Nat) (K v : Nat) (w : World) (h : St w0 c t wb bk sa sc L K w) (hK : K ≤ 100) (hv : v < 3) :
    Calls Tryz.prog 58 #[.pointer (some ⟨wb, 0, none⟩), .agg #[.int .i64 2, .int .i64 (v : Int), .int .i64 1, .int .i64 21, .int .i64 0, .int .i64 0, .int .i64 0, .int .i64 0, .int .i64 0, .string ⟨#[]⟩, .int .i64 0, .int .i64 0, .string ⟨#[]⟩, .slice none 0 0]] w fun e w' => e = .returned (.tuple #[]) ∧ St w0 c t wb bk sa sc L (K + 1) w' ∧ Keeps w w' := by
  obtain ⟨av, k, xs, hW, hR, hA, hk⟩ := h.world
  have hbel := h.below
  have hwb0 := h.wb0
  have hc0 := h.c0
  have hbase : ∀ j, j < w0.heap.size → ¬ InTold wb av j := by
    intro j hj hi
    rcases hi with e | e
    · omega
    · have := (row_lt hA e).1; omega
  have hsent : ∀ g, (Value.slice sa L.length sc).ownBlock = some g → ¬ InTold wb av g := by
    intro g hg hi
    rcases hi with e | e
    · exact row_ne hR hW (by decide) (by rw [hg, e])
    · exact row_ne_row hR hA (by decide) hg e
  rcases h.mode with ⟨S, m, ps, qs, hP, hnw, hps, hfp, hfq, hph, hkn, hcl, hj, hf⟩ | ⟨S, qs, hC, hL, hkn⟩
  · have hnc : ¬ InTold wb av c := fun hi => by
      rcases hi with e | e
      · exact hP.at_.1.ne hW (by decide) e
      · exact row_ne hA hP.at_.1 (by decide) e
    have hnt : ¬ InTold wb av t := fun hi => by
      rcases hi with e | e
      · exact hP.tally.1.ne hW (by decide) e
      · exact row_ne hA hP.tally.1 (by decide) e
    have hnp : ∀ g, S.promises.ownBlock = some g → ¬ InTold wb av g := fun g hg hi => by
      obtain ⟨cs, hr1, _⟩ := hP.row
      rcases hi with e | e
      · exact row_ne hr1 hW (by decide) (by rw [hg, e])
      · exact row_ne_row hr1 hA (by decide) hg e
    refine wHandle_prom (R := fun w' => St w0 c t wb bk sa sc L (K + 1) w' ∧ Keeps w w') wb c bk v k w0.heap.size 1 21 (.slice sa L.length sc) av xs S w hW hP.at_ (by rw [hP.n_]; decide) hkn.2.1 hA hbel.size (by omega) hv (fun w1 av' hT1 hW1 hA1 hav => ?_)
    have hb1 : Below w0.heap.size w0 w1 := hbel.trans (hT1.below hbel.size hbase)
    have hkeep1 : Keeps w w1 := fun q cs T hf hq => hq.touch hT1 (fun hi => by
      rcases hi with e | e
      · exact hq.ne hW hf.1 e
      · exact row_ne hA hq (Ne.symm hf.2.2.2.2) e)
    have hP1 := hP.told hT1 hnc hnt hnp hb1
    have hR1 := row_touch hR hT1 hsent
    have hH := handle_flat w0 c t S m ps qs v K w1 hP1 hv hph hnw hK hps hfp hfq
    rw [hkn.1, hkn.2.1] at hH
    refine hH.mono ?_
    rintro e w2 ⟨he, hT2, hno, hyes⟩
    obtain ⟨cs1, hr1, _⟩ := hP1.row
    have hW2 := hW1.touch hT2 (not_inPrepS hP1 hW1 (by decide) (by decide) (by decide))
    have hrowno : ∀ {T : TypeId} {n sz : Nat} {vv : Value} {ys : List Value}, w1.ownsRow w0.heap.size T sz vv n ys → T ≠ 91 → T ≠ 114 → T ≠ 136 → ∀ g, vv.ownBlock = some g → ¬ InPrep c t S g := by
      intro T n sz vv ys hr q1 q2 q3 g hg hi
      rcases hi with e | e | e
      · exact row_ne hr hP1.at_.1 q1 (by rw [hg, e])
      · exact row_ne hr hP1.tally.1 q2 (by rw [hg, e])
      · exact row_ne_row hr hr1 q3 hg e
    have hb2 : Below w0.heap.size w0 w2 := hb1.trans (hT2.below hb1.size (inPrep_base hc0 hP1.t0 hr1))
    have hkeep2 : Keeps w1 w2 := fun q cs T hf hq => hq.touch hT2 (not_inPrepS hP1 hq hf.2.1 hf.2.2.1 hf.2.2.2.1)
    refine ⟨he, ⟨?_, ⟨av', k + 1, _, hW2, row_touch hR1 hT2 (hrowno hR1 (by decide) (by decide) (by decide)), row_touch hA1 hT2 (hrowno hA1 (by decide) (by decide) (by decide)), by omega⟩, hb2, hwb0, hc0⟩, hkeep1.trans hkeep2⟩
    cases hw : wonT (addTo m v 3) 3 with
    | false =>
      obtain ⟨S', ps', qs', a1, a2, a3, a4, a5, a6, a7, a8, a9, a10, a11⟩ := hno hw
      exact Or.inl ⟨S', _, ps', qs', a1, hw, a2, a3, a4, a5, ⟨a6.trans hkn.1, a7.trans hkn.2.1, a11.trans hkn.2.2⟩, a8.trans hcl, a9.trans hj, a10.trans hf⟩
    | true =>
      obtain ⟨S', qs', b1, b2, b3, b4, b5⟩ := hyes hw
      exact Or.inr ⟨S', qs', b1, b2 hj hf hcl, b3.trans hkn.1, b4.trans hkn.2.1, b5.trans hkn.2.2⟩
  · have hnc : ¬ InTold wb av c := fun hi => by
      rcases hi with e | e
      · exact hC.1.ne hW (by decide) e
      · exact row_ne hA hC.1 (by decide) e
    refine wHandle_prom (R := fun w' => St w0 c t wb bk sa sc L (K + 1) w' ∧ Keeps w w') wb c bk v k w0.heap.size 1 21 (.slice sa L.length sc) av xs S w hW hC (by rw [hL.n]; decide) hkn.2.1 hA hbel.size (by omega) hv (fun w1 av' hT1 hW1 hA1 hav => ?_)
    have hb1 : Below w0.heap.size w0 w1 := hbel.trans (hT1.below hbel.size hbase)
    have hkeep1 : Keeps w w1 := fun q cs T hf hq => hq.touch hT1 (fun hi => by
      rcases hi with e | e
      · exact hq.ne hW hf.1 e
      · exact row_ne hA hq (Ne.symm hf.2.2.2.2) e)
    have hC1 : CoordAt w1 c S := ⟨hC.1.touch hT1 hnc, hC.2⟩
    have hR1 := row_touch hR hT1 hsent
    have hH := handle_lead c v S qs w1 hC1 hL hv
    rw [hkn.1, hkn.2.1] at hH
    refine hH.mono ?_
    rintro e w2 ⟨he, ⟨S', qs', b1, b2, b3, b4, b5⟩, hT2⟩
    have hW2 := hW1.touch hT2 (fun e => hW1.ne hC1.1 (by decide) e)
    have hb2 : Below w0.heap.size w0 w2 := hb1.trans (hT2.below hb1.size (fun j hj e => by omega))
    have hkeep2 : Keeps w1 w2 := fun q cs T hf hq => hq.touch hT2 (fun e => hq.ne hC1.1 hf.2.1 e)
    exact ⟨he, ⟨Or.inr ⟨S', qs', b1, b2, b3, b4, b5.trans hkn.2.2⟩, ⟨av', k + 1, _, hW2, row_touch hR1 hT2 (fun g hg e => row_ne hR1 hC1.1 (by decide) (by rw [hg, e])), row_touch hA1 hT2 (fun g hg e => row_ne hA1 hC1.1 (by decide) (by rw [hg, e])), by omega⟩, hb2, hwb0, hc0⟩, hkeep1.trans hkeep2⟩
end Go.Proofs.YtmmnaieikfekfaaGreatDoor
namespace Go.Proofs.YtmmnaieikfekfaaGreatDoor
open Go Go.RowKit
set_option linter.unusedVariables false

theorem Mode.coord {w0 w : World} {c t K : Nat} (h : Mode w0 c t K w) : ∃ S, CoordAt w c S ∧ Known0 S ∧ 1 ≤ S.n := by
  rcases h with ⟨S, m, ps, qs, h1, _, _, _, _, _, hk, _⟩ | ⟨S, qs, h1, h2, hk⟩
  · exact ⟨S, h1.at_, hk, by rw [h1.n_]; decide⟩
  · exact ⟨S, h1, hk, by rw [h2.n]; decide⟩
theorem lackers_lt (m : List Bool) (n : Nat) : ∀ v ∈ lackers m n, v < n := by
  intro v hv
  unfold lackers at hv
  exact List.mem_range.1 (List.mem_filter.1 hv).1
theorem st_tickCall {w0 w : World} {c t wb bk K : Nat} {sb : Option Addr} {sd : Nat} {L : List Nat} (h : St w0 c t wb bk sb sd L K w) :
    Calls Tryz.prog 24 #[.pointer (some ⟨c, 0, none⟩)] w fun e w' => ∃ sa sc L', e = .returned (.slice sa L'.length sc) ∧ w'.ownsRow w0.heap.size 61 14 (.slice sa L'.length sc) L'.length (prepRow L') ∧ (∀ v ∈ L', v < 3) ∧ L'.length ≤ 3 ∧ Below w.heap.size w w' := by
  rcases h.mode with ⟨S, m, ps, qs, hP, hnw, hps, hfp, hfq, hph, hkn, hcl, hj, hf⟩ | ⟨S, qs, hC, hL, hkn⟩
  · refine (noCall_tick c t S m 3 w hP.at_ hP.n_ (by omega) (by omega) hP.promised hP.tally hph hcl).mono ?_
    rintro e w' ⟨v, rfl, hown, hb⟩
    rw [prepRow_ask S hkn] at hown
    obtain ⟨sa, sc, rfl⟩ := row_shape hown
    exact ⟨sa, sc, _, rfl, row_base hown h.below.size, lackers_lt m 3, lackers_le m 3, hb⟩
  · refine (tick_lead c S qs w hC hL).mono ?_
    rintro e w' ⟨rfl, hb⟩
    exact ⟨none, 0, [], rfl, World.ownsRow_nil _ _ _ _, (fun v hv => by cases hv), by simp, hb⟩
theorem Mode.told {w0 w w1 : World} {c t K wb : Nat} {cs : List Value} (h : Mode w0 c t K w) (hW : Blk w wb cs 49) (hT : Touch (fun k => k = wb) w w1) (hb : Below w0.heap.size w0 w1) : Mode w0 c t K w1 := by
  rcases h with ⟨S, m, ps, qs, hP, h2⟩ | ⟨S, qs, hC, h2⟩
  · exact Or.inl ⟨S, m, ps, qs, hP.told hT (fun e => hP.at_.1.ne hW (by decide) e) (fun e => hP.tally.1.ne hW (by decide) e) (fun g hg e => by
      obtain ⟨cs', hr, _⟩ := hP.row
      exact row_ne hr hW (by decide) (by rw [hg, e])) hb, h2⟩
  · exact Or.inr ⟨S, qs, ⟨hC.1.touch hT (fun e => hC.1.ne hW (by decide) e), hC.2⟩, h2⟩
theorem st_sent {w0 w : World} {c t wb bk K : Nat} {sb : Option Addr} {sd : Nat} {L L' : List Nat} {sa : Option Addr} {sc : Nat} (h : St w0 c t wb bk sb sd L K w) (hr : w.ownsRow w0.heap.size 61 14 (.slice sa L'.length sc) L'.length (prepRow L')) :
    St w0 c t wb bk sa sc L' K (w.setCell ⟨wb, 4, none⟩ (.slice sa L'.length sc)) := by
  obtain ⟨av, k, xs, hW, hR, hA, hk⟩ := h.world
  have hT : Touch (fun k => k = wb) w (w.setCell ⟨wb, 4, none⟩ (.slice sa L'.length sc)) := touchOne_set (Touch.refl (fun k => k = wb) w) _
  have hb : Below w0.heap.size w0 (w.setCell ⟨wb, 4, none⟩ (.slice sa L'.length sc)) := h.below.setCell (p := ⟨wb, 4, none⟩) h.wb0 _
  exact ⟨h.mode.told hW hT hb, ⟨av, k, xs, hW.set 4 (.slice sa L'.length sc), row_touch hr hT (fun g hg e => row_ne hr hW (by decide) (by rw [hg, e])), row_touch hA hT (fun g hg e => row_ne hA hW (by decide) (by rw [hg, e])), hk⟩, hb, h.wb0, h.c0⟩

set_option maxRecDepth 100000 in
set_option maxHeartbeats 4000000 in
theorem st_tick (w0 : World) (c t wb bk : Nat) (sb : Option Addr) (sd : Nat) (L : List Nat) (K : Nat) (o1 m0 m1 m2 m3 m4 m5 m6 m7 m8 m9 m10 m11 m12 m13 tx k0 k1 k2 : Value) (w : World) (h : St w0 c t wb bk sb sd L K w) :
    Calls Tryz.prog 27 #[.pointer (some ⟨wb, 0, none⟩), .agg #[.int .i64 0, o1, m0, m1, m2, m3, m4, m5, m6, m7, m8, m9, m10, m11, m12, m13, tx, k0, k1, k2]] w fun e w' => ∃ r sa sc L', e = .returned (.bool r) ∧ (∀ v ∈ L', v < 3) ∧ L'.length ≤ 3 ∧ St w0 c t wb bk sa sc L' K w' := by
  have h1 := h.quiet ((Below.refl w.heap.size w).alloc (Nat.le_refl _) (.cells #[.int .i64 0, o1, m0, m1, m2, m3, m4, m5, m6, m7, m8, m9, m10, m11, m12, m13, tx, k0, k1, k2] 65))
  obtain ⟨av, k, xs, hW, _⟩ := h1.world
  have w00 := hW.cell 0
  have HH := Lib.hid h1
  obtain ⟨_, _, _, hW0, _⟩ := h.world
  have hwl : wb < w.heap.size := hW0.lt
  have w01 : w.cell? ⟨wb, 0, none⟩ = some (.pointer (some ⟨c, 0, none⟩)) := hW0.cell 0
  clear h h1 hW hW0 w00
  go_enter Tryz.func27, Tryz.ntmps27
  go_wp2_with fail
  refine (st_tickCall HH.out).mono ?_
  rintro e w1 ⟨sa, sc, L', rfl, hrow, hL3, hl3, hb1⟩
  have H1 := HH.out.quiet hb1
  have H2 := Lib.hid (st_sent H1 hrow)
  obtain ⟨av1, k1', xs1, hW1, _⟩ := H1.world
  have c4 : w1.cell? ⟨wb, 4, none⟩ = some (.slice sb L.length sd) := hW1.cell 4
  have f4 : w1.frozen? ⟨wb, 4, none⟩ = false := hW1.free 4
  have HL3 := Lib.hid hL3
  clear H1 hW1 hrow hb1 HH hL3
  go_wp2_with fail
  generalize w1.setCell ⟨wb, 4, none⟩ (.slice sa L'.length sc) = w2 at H2 ⊢
  obtain ⟨av2, k2', xs2, hW2, hR2, _⟩ := H2.out.world
  obtain ⟨S, hC, hkn, hn⟩ := H2.out.mode.coord
  have hS := sends_prep wb c bk w0.heap.size sa sc av2 L' S w2 (by rw [hkn.1]; exact hW2) hC hn (by rw [hkn.1]; decide) (by rw [hkn.2.1]; decide) (by rw [prepRow_ask S hkn]; exact hR2) HL3.out (by omega)
  have HS := Lib.hid hS
  clear hS hC hkn hn hW2 hR2 c4 f4
  refine HS.out.mono ?_
  rintro e w3 ⟨rfl, hb3⟩
  have H3 := Lib.hid (H2.out.quiet hb3)
  go_wp2_with fail
  go_ret
  exact ⟨_, sa, sc, L', rfl, HL3.out, hl3, H3.out⟩
end Go.Proofs.YtmmnaieikfekfaaGreatDoor
namespace Go.Proofs.YtmmnaieikfekfaaGreatDoor
open Go Go.RowKit
set_option linter.unusedVariables false

/-- what the walk reads of the statement's struct and of the message that it answers -/
def FiveAt (wb g k v len : Nat) (sc : Nat) (w : World) : Prop :=
  w.cell? ⟨wb, 4, none⟩ = some (.slice (some ⟨g, 0, none⟩) len sc) ∧ w.cell? ⟨wb, 2, none⟩ = some (.int .i64 1) ∧
  w.cell? ⟨g, k * 14, none⟩ = some (.int .i64 1) ∧ w.cell? ⟨g, k * 14 + 1, none⟩ = some (.int .i64 1) ∧ w.cell? ⟨g, k * 14 + 2, none⟩ = some (.int .i64 (v : Int)) ∧ w.cell? ⟨g, k * 14 + 3, none⟩ = some (.int .i64 21) ∧ w.cell? ⟨g, k * 14 + 4, none⟩ = some (.int .i64 0) ∧ w.cell? ⟨g, k * 14 + 5, none⟩ = some (.int .i64 0) ∧ w.cell? ⟨g, k * 14 + 6, none⟩ = some (.int .i64 0) ∧ w.cell? ⟨g, k * 14 + 7, none⟩ = some (.int .i64 0) ∧ w.cell? ⟨g, k * 14 + 8, none⟩ = some (.int .i64 0) ∧ w.cell? ⟨g, k * 14 + 9, none⟩ = some (.string ⟨#[]⟩) ∧ w.cell? ⟨g, k * 14 + 10, none⟩ = some (.int .i64 0) ∧ w.cell? ⟨g, k * 14 + 11, none⟩ = some (.int .i64 0) ∧ w.cell? ⟨g, k * 14 + 12, none⟩ = some (.string ⟨#[]⟩) ∧ w.cell? ⟨g, k * 14 + 13, none⟩ = some (.slice none 0 0)
theorem prepRow_at (L : List Nat) (k : Nat) (hk : k < L.length) (j : Nat) (hj : j < 14) : (prepRow L)[k * 14 + j]? = (msgArr 1 1 ((L[k] : Nat) : Int) 21).toList[j]? := by
  have h := askVals_at (newCoord 1 3 5 (.pointer none) (.pointer none)) L k hk j hj
  rw [prepRow_ask _ ⟨rfl, rfl, rfl⟩] at h
  exact h
theorem St.five {w0 : World} {c t wb bk g : Nat} {sc : Nat} {L : List Nat} {K k v : Nat} {w : World} (h : St w0 c t wb bk (some ⟨g, 0, none⟩) sc L K w) (hk : k < L.length) (hv : L[k] = v) : FiveAt wb g k v L.length sc w := by
  obtain ⟨av, k', xs, hW, hR, _⟩ := h.world
  obtain ⟨g', cap, hsv, hg0, hg, _, _, hcell⟩ := row_some hR (by omega)
  have hsa : some (⟨g, 0, none⟩ : Addr) = some ⟨g', 0, none⟩ := by injection hsv
  obtain rfl : g = g' := by injection hsa with e; injection e
  have hx : ∀ j, j < 14 → w.cell? ⟨g, k * 14 + j, none⟩ = (msgArr 1 1 ((L[k] : Nat) : Int) 21).toList[j]? := fun j hj => (hcell (k * 14 + j) (by omega)).trans (prepRow_at L k hk j hj)
  rw [hv] at hx
  exact ⟨hW.cell 4, hW.cell 2, hx 0 (by omega), hx 1 (by omega), hx 2 (by omega), hx 3 (by omega), hx 4 (by omega), hx 5 (by omega), hx 6 (by omega), hx 7 (by omega), hx 8 (by omega), hx 9 (by omega), hx 10 (by omega), hx 11 (by omega), hx 12 (by omega), hx 13 (by omega)⟩

set_option maxRecDepth 100000 in
set_option maxHeartbeats 8000000 in
theorem st_five (w0 : World) (c t wb bk : Nat) (sa : Option Addr) (sc : Nat) (L : List Nat) (K : Nat) (o : Int) (m0 m1 m2 m3 m4 m5 m6 m7 m8 m9 m10 m11 m12 m13 tx k0 k1 k2 : Value) (w : World) (h : St w0 c t wb bk sa sc L K w) (hK : K ≤ 90) (hL3 : ∀ v ∈ L, v < 3) (hl3 : L.length ≤ 3) :
    Calls Tryz.prog 27 #[.pointer (some ⟨wb, 0, none⟩), .agg #[.int .i64 5, .int .i64 o, m0, m1, m2, m3, m4, m5, m6, m7, m8, m9, m10, m11, m12, m13, tx, k0, k1, k2]] w fun e w' => ∃ r, e = .returned (.bool r) ∧ St w0 c t wb bk sa sc L (K + 3) w' := by
  have h1 := h.quiet ((Below.refl w.heap.size w).alloc (Nat.le_refl _) (.cells #[.int .i64 5, .int .i64 o, m0, m1, m2, m3, m4, m5, m6, m7, m8, m9, m10, m11, m12, m13, tx, k0, k1, k2] 65))
  have Q1 := Blk.new w [.int .i64 5, .int .i64 o, m0, m1, m2, m3, m4, m5, m6, m7, m8, m9, m10, m11, m12, m13, tx, k0, k1, k2] 65
  have HH := Lib.hid h1
  have HQ := Lib.hid Q1
  have HL3 := Lib.hid hL3
  clear h h1 Q1 hL3
  go_enter Tryz.func27, Tryz.ntmps27
  go_upto_region 14 with fail
  have H0 := HH.out
  have Q0 := HQ.out
  generalize w.alloc (.cells #[.int .i64 5, .int .i64 o, m0, m1, m2, m3, m4, m5, m6, m7, m8, m9, m10, m11, m12, m13, tx, k0, k1, k2] 65) = w1 at H0 Q0 ⊢
  generalize w.heap.size = q at Q0 ⊢
  have HH1 := Lib.hid H0
  have HQ1 := Lib.hid Q0
  clear HH HQ H0 Q0
  go_wp2_with fail
  go_loopw [6] (fun i wr => ∃ k : Nat, i = .int .i64 k ∧ k ≤ L.length ∧ Hid (St w0 c t wb bk sa sc L (K + k) wr) ∧ Hid (Blk wr q [.int .i64 5, .int .i64 o, m0, m1, m2, m3, m4, m5, m6, m7, m8, m9, m10, m11, m12, m13, tx, k0, k1, k2] 65)) (fun i _ => L.length - (intOf i).toNat)
  case atStart => exact ⟨0, rfl, Nat.zero_le _, HH1, HQ1⟩
  case round =>
    obtain ⟨k, rfl, hk, HS, HQ⟩ := hrel
    clear HH1 HQ1
    obtain ⟨av, k', xs, hW, hR, _⟩ := HS.out.world
    by_cases hlt : k < L.length
    · obtain ⟨g, cap, hsv, hg0, hg, _, _, hcell⟩ := row_some hR (by omega)
      have hsa : sa = some ⟨g, 0, none⟩ := by injection hsv
      subst hsa
      obtain ⟨v, hv⟩ : ∃ v, v = L[k] := ⟨_, rfl⟩
      have hv3 : v < 3 := by rw [hv]; exact HL3.out _ (List.getElem_mem hlt)
      have HV := Lib.hid hv.symm
      have HF := Lib.hid (fun (w' : World) (K' : Nat) (h' : St w0 c t wb bk (some ⟨g, 0, none⟩) sc L K' w') => h'.five hlt HV.out)
      have hq1 : wr.cell? ⟨q, 1, none⟩ = some (.int .i64 o) := HQ.out.cell 1
      have hc := HF.out _ _ HS.out
      unfold FiveAt at hc
      obtain ⟨c4, c2, x0, x1, x2, x3, x4, x5, x6, x7, x8, x9, x10, x11, x12, x13⟩ := hc
      clear hcell hR hW hsv hv
      by_cases ho : (v : Int) = o
      · have ho1 : ((v : Int) == o) = true := by rw [beq_iff_eq]; exact ho
        have Ho := Lib.hid ho
        clear ho
        go_upto_region 17 with fail
        go_quiet (fail)
        go_upto_region 18 with fail
        have hn1 := HS.out.quiet (below_drewN (Below.refl _ _) nq)
        have hq2 := HQ.out.drewN nq
        generalize wr.drewN nq = w2 at hn1 hq2 ⊢
        have HS2 := Lib.hid (hn1.quiet (Below.refl _ _).drew)
        have HQ2 := Lib.hid hq2.drew
        have HFC := Lib.hid (show ∀ w' K', St w0 c t wb bk (some ⟨g, 0, none⟩) sc L K' w' → (w'.cell? ⟨wb, 4, none⟩ = some (.slice (some ⟨g, 0, none⟩) L.length sc) ∧ w'.cell? ⟨wb, 2, none⟩ = some (.int .i64 1) ∧ w'.cell? ⟨g, k * 14, none⟩ = some (.int .i64 1) ∧ w'.cell? ⟨g, k * 14 + 1, none⟩ = some (.int .i64 1) ∧ w'.cell? ⟨g, k * 14 + 2, none⟩ = some (.int .i64 (v : Int)) ∧ w'.cell? ⟨g, k * 14 + 3, none⟩ = some (.int .i64 21) ∧ w'.cell? ⟨g, k * 14 + 4, none⟩ = some (.int .i64 0) ∧ w'.cell? ⟨g, k * 14 + 5, none⟩ = some (.int .i64 0) ∧ w'.cell? ⟨g, k * 14 + 6, none⟩ = some (.int .i64 0) ∧ w'.cell? ⟨g, k * 14 + 7, none⟩ = some (.int .i64 0) ∧ w'.cell? ⟨g, k * 14 + 8, none⟩ = some (.int .i64 0) ∧ w'.cell? ⟨g, k * 14 + 9, none⟩ = some (.string ⟨#[]⟩) ∧ w'.cell? ⟨g, k * 14 + 10, none⟩ = some (.int .i64 0) ∧ w'.cell? ⟨g, k * 14 + 11, none⟩ = some (.int .i64 0) ∧ w'.cell? ⟨g, k * 14 + 12, none⟩ = some (.string ⟨#[]⟩) ∧ w'.cell? ⟨g, k * 14 + 13, none⟩ = some (.slice none 0 0)) from fun w' K' h' => HF.out w' K' h')
        have hk0 := HFC.out _ _ HS2.out
        have HRP := Lib.hid (fun w1 => reply_prep 1 (v : Int) 21 1 w1)
        have HHD := Lib.hid (fun w' h' => st_handle w0 c t wb bk (some ⟨g, 0, none⟩) sc L (K + k) v w' h' (by omega) hv3)
        clear x0 x1 x2 x3 x4 x5 x6 x7 x8 x9 x10 x11 x12 x13 c4 c2 hq1 HS HQ hn1 hq2 HF
        go_region_held3 (fun w' => w'.cell? ⟨wb, 4, none⟩ = some (.slice (some ⟨g, 0, none⟩) L.length sc) ∧ w'.cell? ⟨wb, 2, none⟩ = some (.int .i64 1) ∧ w'.cell? ⟨g, k * 14, none⟩ = some (.int .i64 1) ∧ w'.cell? ⟨g, k * 14 + 1, none⟩ = some (.int .i64 1) ∧ w'.cell? ⟨g, k * 14 + 2, none⟩ = some (.int .i64 (v : Int)) ∧ w'.cell? ⟨g, k * 14 + 3, none⟩ = some (.int .i64 21) ∧ w'.cell? ⟨g, k * 14 + 4, none⟩ = some (.int .i64 0) ∧ w'.cell? ⟨g, k * 14 + 5, none⟩ = some (.int .i64 0) ∧ w'.cell? ⟨g, k * 14 + 6, none⟩ = some (.int .i64 0) ∧ w'.cell? ⟨g, k * 14 + 7, none⟩ = some (.int .i64 0) ∧ w'.cell? ⟨g, k * 14 + 8, none⟩ = some (.int .i64 0) ∧ w'.cell? ⟨g, k * 14 + 9, none⟩ = some (.string ⟨#[]⟩) ∧ w'.cell? ⟨g, k * 14 + 10, none⟩ = some (.int .i64 0) ∧ w'.cell? ⟨g, k * 14 + 11, none⟩ = some (.int .i64 0) ∧ w'.cell? ⟨g, k * 14 + 12, none⟩ = some (.string ⟨#[]⟩) ∧ w'.cell? ⟨g, k * 14 + 13, none⟩ = some (.slice none 0 0))
          (first | with_reducible exact hk0 | with_reducible exact HFC.out _ _ (by assumption) | go_keep)
          (first
          | (go_at_call 60; refine (HRP.out _).mono ?_; rintro e w3 ⟨rfl, hb3⟩; have hs3 := HS2.out.quiet hb3; have hq3 := HQ2.out.below hb3)
          | (go_at_call 58; refine (HHD.out _ (by assumption)).mono ?_; rintro e w4 ⟨rfl, hs4, hkp⟩; have hq4 := hkp _ _ _ (by unfold Far5; decide) hq3))
        have HS4 := Lib.hid hs4
        have HQ4 := Lib.hid hq4
        clear hs3 hq3 hb3 hs4 hkp hq4 HS2 HQ2 hk0 HRP HHD HFC
        go_wp2_with fail
        go_roundw
        case rel => exact ⟨k + 1, by go_num, by omega, Lib.hid (HS4.out.mono (by omega)), HQ4⟩
        case measure => simp [intOf]; omega
      · have ho1 : ((v : Int) == o) = false := beq_eq_false_iff_ne.2 ho
        clear ho x0 x1 x3 x4 x5 x6 x7 x8 x9 x10 x11 x12 x13 c2
        go_upto_region 17 with fail
        go_quiet (fail)
        go_wp2_with fail
        go_roundw
        case rel => exact ⟨k + 1, by go_num, by omega, Lib.hid ((HS.out.quiet (below_drewN (Below.refl _ _) _)).mono (by omega)), Lib.hid (HQ.out.drewN _)⟩
        case measure => simp [intOf]; omega
    · have c4 : wr.cell? ⟨wb, 4, none⟩ = some (.slice sa L.length sc) := hW.cell 4
      clear hR hW
      go_wp2_with fail
      go_ret
      exact ⟨_, rfl, HS.out.mono (by omega)⟩
end Go.Proofs.YtmmnaieikfekfaaGreatDoor
namespace Go.Proofs.YtmmnaieikfekfaaGreatDoor
open Go Go.RowKit
set_option linter.unusedVariables false

set_option maxRecDepth 100000 in
theorem tick_off (b : Nat) (S : CSt) (w : World) (h : CoordAt w b S) (hn : 1 ≤ S.n) (hph : S.phase = 0) :
    Calls Tryz.prog 24 #[.pointer (some ⟨b, 0, none⟩)] w fun e w' => e = .returned (.slice none 0 0) ∧ w = w' := by
  have h4 : w.cell? ⟨b, 4, none⟩ = some (.int .i64 0) := by rw [← hph]; exact h.hd 4 (by omega)
  have H := Lib.hid h
  clear h hph
  go_enter Tryz.func24, Tryz.ntmps24
  go_wp2_with (go_at_call 32; refine (none_any b S _ H.out hn).mono ?_; rintro e w' ⟨rfl, rfl⟩)
  go_ret
  exact ⟨rfl, rfl⟩
set_option maxRecDepth 100000 in
theorem ask_off (b : Nat) (S : CSt) (kind gen : Int) (x : Option Addr) (n y : Nat) (w : World) (h : CoordAt w b S) (hn : 1 ≤ S.n) (hph : S.phase = 0) :
    Calls Tryz.prog 23 #[.pointer (some ⟨b, 0, none⟩), .agg #[.int .i64 kind, .int .i64 gen, .slice x n y]] w fun e w' => e = .returned (.int .i64 16) ∧ Below w.heap.size w w' := by
  have hbl := h.1.lt
  have h4 : w.cell? ⟨b, 4, none⟩ = some (.int .i64 0) := by rw [← hph]; exact h.hd 4 (by omega)
  have H := Lib.hid h
  have HB0 := Lib.hid ((Below.refl w.heap.size w).alloc (Nat.le_refl _) (.cells #[.int .i64 kind, .int .i64 gen, .slice x n y] 40))
  clear h hph
  go_enter Tryz.func23, Tryz.ntmps23
  go_wp2_with fail
  refine (none_any b S _ (H.out.alloc _) hn).mono ?_
  rintro e wx ⟨rfl, rfl⟩
  go_wp2_with fail
  go_ret
  exact ⟨rfl, HB0.out⟩

/-- a coordinator, the statement's struct, its message and its call, all behind B -/
structure Sk (w0 : World) (B c wb qm qk : Nat) (V M Kc : List Value) (S : CSt) (w : World) : Prop where
  at_ : CoordAt w c S
  blk : Blk w wb V 49
  msg : Blk w qm M 61
  arg : Blk w qk Kc 40
  below : Below B w0 w
  c0 : B ≤ c
theorem Sk.quiet {w0 : World} {B c wb qm qk : Nat} {V M Kc : List Value} {S : CSt} {w w' : World} (h : Sk w0 B c wb qm qk V M Kc S w) (hB : B ≤ w.heap.size) (hb : Below w.heap.size w w') : Sk w0 B c wb qm qk V M Kc S w' :=
  ⟨h.at_.below hb, h.blk.below hb, h.msg.below hb, h.arg.below hb, h.below.trans (hb.mono hB), h.c0⟩
theorem Sk.touch {w0 : World} {B c wb qm qk : Nat} {V M Kc : List Value} {S S' : CSt} {w w' : World} (h : Sk w0 B c wb qm qk V M Kc S w) (hB : B ≤ w.heap.size) (hC : CoordAt w' c S') (hT : Touch (fun k => k = c) w w') : Sk w0 B c wb qm qk V M Kc S' w' :=
  ⟨hC, h.blk.touch hT (fun e => h.blk.ne h.at_.1 (by decide) e), h.msg.touch hT (fun e => h.msg.ne h.at_.1 (by decide) e), h.arg.touch hT (fun e => h.arg.ne h.at_.1 (by decide) e), h.below.trans (hT.below hB (fun k hk e => by have := h.c0; omega)), h.c0⟩
theorem Sk.cells {w0 : World} {B c wb qm qk : Nat} {k0 k1 k2 b1 b2 b3 b4 b5 b6 : Value} {M : List Value} {S : CSt} {w : World} (h : Sk w0 B c wb qm qk [.pointer (some ⟨c, 0, none⟩), b1, b2, b3, b4, b5, b6] M [k0, k1, k2] S w) :
    w.cell? ⟨wb, 0, none⟩ = some (.pointer (some ⟨c, 0, none⟩)) ∧ w.cell? ⟨qk, 0, none⟩ = some k0 ∧ w.cell? ⟨qk, 1, none⟩ = some k1 ∧ w.cell? ⟨qk, 2, none⟩ = some k2 := ⟨h.blk.cell 0, h.arg.cell 0, h.arg.cell 1, h.arg.cell 2⟩
theorem Sk.msgs {w0 : World} {B c wb qm qk : Nat} {V Kc : List Value} {x0 x1 x2 x3 x4 x5 x6 x7 x8 x9 x10 x11 x12 x13 : Value} {S : CSt} {w : World} (h : Sk w0 B c wb qm qk V [x0, x1, x2, x3, x4, x5, x6, x7, x8, x9, x10, x11, x12, x13] Kc S w) :
    w.cell? ⟨qm, 0, none⟩ = some x0 ∧ w.cell? ⟨qm, 1, none⟩ = some x1 ∧ w.cell? ⟨qm, 2, none⟩ = some x2 ∧ w.cell? ⟨qm, 3, none⟩ = some x3 ∧ w.cell? ⟨qm, 4, none⟩ = some x4 ∧ w.cell? ⟨qm, 5, none⟩ = some x5 ∧ w.cell? ⟨qm, 6, none⟩ = some x6 ∧ w.cell? ⟨qm, 7, none⟩ = some x7 ∧ w.cell? ⟨qm, 8, none⟩ = some x8 ∧ w.cell? ⟨qm, 9, none⟩ = some x9 ∧ w.cell? ⟨qm, 10, none⟩ = some x10 ∧ w.cell? ⟨qm, 11, none⟩ = some x11 ∧ w.cell? ⟨qm, 12, none⟩ = some x12 ∧ w.cell? ⟨qm, 13, none⟩ = some x13 :=
  ⟨h.msg.cell 0, h.msg.cell 1, h.msg.cell 2, h.msg.cell 3, h.msg.cell 4, h.msg.cell 5, h.msg.cell 6, h.msg.cell 7, h.msg.cell 8, h.msg.cell 9, h.msg.cell 10, h.msg.cell 11, h.msg.cell 12, h.msg.cell 13⟩

/-- it is on: its number and ballot are the statement's -/
def OnS (S : CSt) : Prop := S.n = 3 ∧ (S.phase == 0) = false ∧ S.job = .pointer none ∧ S.id = 1 ∧ S.ballot = 21
/-- what the state of the ticks and promises tells of the coordinator -/
theorem St.on {w0 w : World} {c t wb bk K sc : Nat} {sa : Option Addr} {L : List Nat} (h : St w0 c t wb bk sa sc L K w) : ∃ S, CoordAt w c S ∧ OnS S ∧ S.call = .pointer none ∧ S.answer = .pointer none := by
  rcases h.mode with ⟨S, m, ps, qs, hP, _, _, _, _, hph, hk, hc, hj, _⟩ | ⟨S, qs, hC, hL, hk⟩
  · exact ⟨S, hP.at_, ⟨hP.n_, by rw [hph]; rfl, hj, hk.1, hk.2.1⟩, hc, hk.2.2⟩
  · exact ⟨S, hC, ⟨hL.n, by rw [hL.phase]; rfl, hL.job, hk.1, hk.2.1⟩, hL.call, hk.2.2⟩
theorem st_fresh {w0 w1 : World} {c t wb bk : Nat} (hW : Blk w1 wb (worldVals c bk 1 3) 49) (hc : CoordAt w1 c (newCoord 1 3 5 (.pointer (some ⟨bk, 0, none⟩)) (.pointer (some ⟨t, 0, none⟩)))) (ht : TallyAt w1 t 3 (List.replicate 9 false))
    (hwb : w0.heap.size ≤ wb) (hc0 : w0.heap.size ≤ c) (ht0 : w0.heap.size ≤ t) (hb : Below w0.heap.size w0 w1) : St w0 c t wb bk none 0 [] 0 w1 := by
  refine ⟨Or.inl ⟨_, List.replicate 9 false, [], List.replicate 9 noPeer, ⟨hc, rfl, by omega, by omega, rfl, ht, ⟨[], World.ownsRow_nil _ _ _ _, rfl⟩, rfl, rfl, hb, hc0, ht0⟩, ?_, by simp, (fun p hp => by cases hp), (fun q hq => ?_), rfl, ⟨rfl, rfl, rfl⟩, rfl, rfl, rfl⟩, ⟨.slice none 0 0, 0, [], hW, World.ownsRow_nil _ _ _ _, World.ownsRow_nil _ _ _ _, by omega⟩, hb, hwb, hc0⟩
  · have hcz : cnt (List.replicate 9 false) 3 = 0 := cnt_zero 3
    unfold wonT; rw [hcz]; simp
  · have := List.eq_of_mem_replicate hq
    subst this
    exact ⟨rfl, rfl⟩
end Go.Proofs.YtmmnaieikfekfaaGreatDoor
namespace Go.Proofs.YtmmnaieikfekfaaGreatDoor
open Go Go.RowKit
set_option linter.unusedVariables false

/-- an operation whose guard is false -/
theorem held_skip {P : Program} {ops : Array Oper} {Q : Exit → Act → World → Prop} {md : Region.Mode} {S : World → Prop} {i : Nat} {oi : Oper} {rest : List Oper} {fuel : Nat} {listed : Array Bool} {a : Act} {w : World} (hi : ops.toList.drop i = oi :: rest)
    (hs : Region.noSelect ops = true) (hf : Region.free md ops listed i = true) (hr : (Region.ready md ops listed).contains i = true)
    (hQ : ∀ c a w, Q (.panic c) (a.put oi.dst undef) w → Q (.panic c) a w) (hw : Region.wanted oi (yielded ops a.tmps) = false) (hS : S w)
    (h : wpAnyH P md ops Q S fuel (listed.setIfInBounds i true) (a.put oi.dst undef) w) : wpAnyH P md ops Q S (fuel + 1) listed a w :=
  wpAnyH_take (at_of_drop hi) hs hf hr hQ (.inr ⟨hw, rfl⟩) hS h
def nackArr (fr to_ bal : Int) (x4 x5 x6 x7 x8 x9 x10 x11 x12 x13 : Value) : List Value := [.int .i64 3, .int .i64 fr, .int .i64 to_, .int .i64 bal, x4, x5, x6, x7, x8, x9, x10, x11, x12, x13]
/-- where the ticks and promises end: the message is a nack now -/
theorem sk_start {W w0 w : World} {c t wb bk K sc qm qk : Nat} {sa : Option Addr} {L : List Nat} {x0 x4 x5 x6 x7 x8 x9 x10 x11 x12 x13 : Value} {fr to_ bal : Int} {Kc : List Value} (h : St w0 c t wb bk sa sc L K w)
    (hm : Blk w0 qm [x0, .int .i64 fr, .int .i64 to_, .int .i64 bal, x4, x5, x6, x7, x8, x9, x10, x11, x12, x13] 61) (hk : Blk w0 qk Kc 40) (hb : Below W.heap.size W w0) (hqm : W.heap.size ≤ qm) :
    ∃ S sv av, OnS S ∧ S.call = .pointer none ∧ S.answer = .pointer none ∧ Sk W W.heap.size c wb qm qk (worldV c bk 1 3 sv av) (nackArr fr to_ bal x4 x5 x6 x7 x8 x9 x10 x11 x12 x13) Kc S (w.setCell ⟨qm, 0, none⟩ (.int .i64 3)) := by
  obtain ⟨S, hC, hon, hcl, han⟩ := h.on
  obtain ⟨av, k, xs, hW, _, _, _⟩ := h.world
  have hml := hm.lt
  have hc0 := h.c0
  have hwb0 := h.wb0
  refine ⟨S, _, av, hon, hcl, han, ⟨hC.1.set_other (a := ⟨qm, 0, none⟩) (by show c ≠ qm; omega) _, hC.2⟩, hW.set_other (a := ⟨qm, 0, none⟩) (by show wb ≠ qm; omega) _, (hm.below h.below).set 0 _, (hk.below h.below).set_other (a := ⟨qm, 0, none⟩) (fun e => hk.ne hm (by decide) e) _, ?_, Nat.le_trans hb.size hc0⟩
  have h1 : Below W.heap.size W w := hb.trans (h.below.mono hb.size)
  have h2 : Touch (fun _ => False) W w := Touch.of_below h1
  exact (h2.set (p := ⟨qm, 0, none⟩) (Or.inr hqm) _).below (Nat.le_refl _) (fun _ _ h => h)

/-- the call was taken, or answered at once -/
def AskedS (S : CSt) (w : World) : Prop := OnS S ∧ ((S.answer = .pointer none ∧ ∃ k, S.call = .pointer (some ⟨k, 0, none⟩)) ∨ (S.call = .pointer none ∧ ∃ a E, E ≠ 0 ∧ S.answer = .pointer (some ⟨a, 0, none⟩) ∧ answerAt w a E 0 0))
theorem sk_few {W w : World} {c wb qm qk : Nat} {V M Kc : List Value} {S : CSt} (ka ga : Int) (aa : Option Addr) (ca : Nat) (fa : List TFile) (h : Sk W W.heap.size c wb qm qk V M Kc S w) (ha : TfsAt W aa fa) (hla : fa.length ≤ maxLen) :
    Calls Tryz.prog 21 #[.agg #[.int .i64 ka, .int .i64 ga, .slice aa fa.length ca]] w fun e w' => ∃ x y, e = .returned (.agg #[.int .i64 ka, .int .i64 ga, .slice x (fewL fa).length y]) ∧ Hid (w'.ownsRow 0 101 3 (.slice x (fewL fa).length y) (fewL fa).length (tfsVals (fewL fa))) ∧ Sk W W.heap.size c wb qm qk V M Kc S w' := by
  refine (few_any ka ga aa ca fa w (ha.below h.below) hla).mono ?_
  rintro e w' ⟨x, y, rfl, hr, hb⟩
  exact ⟨x, y, rfl, Lib.hid (row_base hr (Nat.zero_le _)), h.quiet h.below.size hb⟩
theorem sk_ask {W w : World} {c wb qm qk : Nat} {V M Kc : List Value} {S : CSt} (ka ga : Int) (x : Option Addr) (y : Nat) (l : List TFile) (hl : FewFiles l) (hl2 : l.length ≤ 1000000) (hr : Hid (w.ownsRow 0 101 3 (.slice x l.length y) l.length (tfsVals l))) (h : Sk W W.heap.size c wb qm qk V M Kc S w) (hon : OnS S) (hcl : S.call = .pointer none) (han : S.answer = .pointer none) :
    Calls Tryz.prog 23 #[.pointer (some ⟨c, 0, none⟩), .agg #[.int .i64 ka, .int .i64 ga, .slice x l.length y]] w fun e w' => e = .returned (.int .i64 0) ∧ ∃ S', AskedS S' w' ∧ Sk W W.heap.size c wb qm qk V M Kc S' w' := by
  have hR := rightSays (kind := ka) (gen := ga) hr.out h.at_ hl
  refine (ask_any c S ka ga (.slice x l.length y) l 0 _ w h.at_ (by have := hon.1; omega) hon.2.1 hcl han hon.2.2.1 hr.out hl2 hR).mono ?_
  rintro e w' ⟨rfl, hT, hy, hn⟩
  refine ⟨rfl, ?_⟩
  by_cases hE : rightE ka ga l = 0
  · obtain ⟨k, hC⟩ := hy hE
    exact ⟨S.asked (.pointer (some ⟨k, 0, none⟩)), ⟨⟨hon.1, hon.2.1, hon.2.2.1, hon.2.2.2.1, hon.2.2.2.2⟩, Or.inl ⟨han, k, rfl⟩⟩, h.touch h.below.size hC hT⟩
  · obtain ⟨v, a, _, hA, hC⟩ := hn hE
    exact ⟨(S.asked v).ended (.pointer (some ⟨a, 0, none⟩)), ⟨⟨hon.1, hon.2.1, hon.2.2.1, hon.2.2.2.1, hon.2.2.2.2⟩, Or.inr ⟨rfl, a, _, hE, rfl, hA⟩⟩, h.touch h.below.size hC hT⟩
/-- behind the first Take: the call was answered, or waits -/
def TookS (is : Bool) (E : Int) (S : CSt) : Prop := OnS S ∧ S.answer = .pointer none ∧ (is = true → E ≠ 0 ∧ S.call = .pointer none) ∧ (is = false → ∃ k, S.call = .pointer (some ⟨k, 0, none⟩))
theorem sk_take {W w : World} {c wb qm qk : Nat} {V M Kc : List Value} {S : CSt} (h : Sk W W.heap.size c wb qm qk V M Kc S w) (hA : AskedS S w) :
    Calls Tryz.prog 17 #[.pointer (some ⟨c, 0, none⟩)] w fun e w' => ∃ E is, e = .returned (.tuple #[.agg #[.int .i64 E, .int .i64 0, .int .i64 0, .slice none 0 0, .slice none 0 0], .bool is]) ∧ ∃ S', TookS is E S' ∧ Sk W W.heap.size c wb qm qk V M Kc S' w' := by
  obtain ⟨hon, ⟨han, k, hk⟩ | ⟨hcl, a, E, hE, han, hat⟩⟩ := hA
  · refine (take_none c S w h.at_ (by have := hon.1; omega) han).mono ?_
    rintro e w' ⟨rfl, hb⟩
    exact ⟨0, false, rfl, S, ⟨hon, han, fun e => (by cases e), fun _ => ⟨k, hk⟩⟩, h.quiet h.below.size hb⟩
  · refine (take_some c a S E 0 0 none none 0 0 0 0 w h.at_ (by have := hon.1; omega) han hat).mono ?_
    rintro e w' ⟨rfl, hC, hT⟩
    exact ⟨E, true, rfl, { S with answer := .pointer none }, ⟨⟨hon.1, hon.2.1, hon.2.2.1, hon.2.2.2.1, hon.2.2.2.2⟩, rfl, fun _ => ⟨hE, hcl⟩, fun e => (by cases e)⟩, h.touch h.below.size hC hT⟩
theorem sk_nack_no {W w : World} {c wb qm qk : Nat} {V M Kc : List Value} {S : CSt} {is : Bool} {E : Int} (fr to_ bal : Int) (x4 x5 x6 x7 x8 x9 x10 x11 x12 x13 : Value) (h : Sk W W.heap.size c wb qm qk V M Kc S w) (hT : TookS is E S) (hs : ¬ (to_ = 1 ∧ 0 ≤ fr ∧ fr < 3 ∧ 21 < bal)) :
    Calls Tryz.prog 25 #[.pointer (some ⟨c, 0, none⟩), .agg #[.int .i64 3, .int .i64 fr, .int .i64 to_, .int .i64 bal, x4, x5, x6, x7, x8, x9, x10, x11, x12, x13]] w fun e w' => e = .returned (.tuple #[]) ∧ Sk W W.heap.size c wb qm qk V M Kc S w' := by
  have hon := hT.1
  refine (nack_no c S fr to_ bal x4 x5 x6 x7 x8 x9 x10 x11 x12 x13 w h.at_ (by have := hon.1; omega) hon.2.1 (by unfold staleP; rw [hon.2.2.2.1, hon.1, hon.2.2.2.2]; exact hs)).mono ?_
  rintro e w' ⟨rfl, hb⟩
  exact ⟨rfl, h.quiet h.below.size hb⟩
/-- behind the nack that counts: off; the call that waited is told -/
def GoneS (is : Bool) (S : CSt) (w : World) : Prop := S.n = 3 ∧ S.ballot = 21 ∧ S.phase = 0 ∧ (is = true → S.answer = .pointer none) ∧ (is = false → ∃ a, S.answer = .pointer (some ⟨a, 0, none⟩) ∧ answerAt w a 16 0 0)
theorem sk_nack_yes {W w : World} {c wb qm qk : Nat} {V M Kc : List Value} {S : CSt} {is : Bool} {E : Int} (fr to_ bal : Int) (x4 x5 x6 x7 x8 x9 x10 x11 x12 x13 : Value) (h : Sk W W.heap.size c wb qm qk V M Kc S w) (hT : TookS is E S) (hs : to_ = 1 ∧ 0 ≤ fr ∧ fr < 3 ∧ 21 < bal) :
    Calls Tryz.prog 25 #[.pointer (some ⟨c, 0, none⟩), .agg #[.int .i64 3, .int .i64 fr, .int .i64 to_, .int .i64 bal, x4, x5, x6, x7, x8, x9, x10, x11, x12, x13]] w fun e w' => e = .returned (.tuple #[]) ∧ Touch (fun k => k = c) w w' ∧ ∃ S', GoneS is S' w' ∧ Sk W W.heap.size c wb qm qk V M Kc S' w' := by
  obtain ⟨hon, han, h1, h2⟩ := hT
  refine nack_yes (R := fun w' => Touch (fun k => k = c) w w' ∧ ∃ S', GoneS is S' w' ∧ Sk W W.heap.size c wb qm qk V M Kc S' w') c S fr to_ bal x4 x5 x6 x7 x8 x9 x10 x11 x12 x13 w h.at_ (by have := hon.1; omega) hon.2.1 (by unfold staleP; rw [hon.2.2.2.1, hon.1, hon.2.2.2.2]; exact hs) (fun w1 hb1 => ?_)
  have h' := h.quiet h.below.size hb1
  cases is with
  | true =>
    refine (depose_none c S w1 h'.at_ (h1 rfl).2).mono ?_
    rintro e w2 ⟨rfl, hC, hT⟩
    exact ⟨rfl, (Touch.of_below hb1).trans hT, S.gone, ⟨hon.1, hon.2.2.2.2, rfl, fun _ => han, fun e => (by cases e)⟩, h'.touch h'.below.size hC hT⟩
  | false =>
    obtain ⟨k, hk⟩ := h2 rfl
    refine (depose_call c k S w1 h'.at_ hk hon.2.2.1).mono ?_
    rintro e w2 ⟨rfl, a, _, hA, hC, hT⟩
    exact ⟨rfl, (Touch.of_below hb1).trans hT, (S.ended (.pointer (some ⟨a, 0, none⟩))).gone, ⟨hon.1, hon.2.2.2.2, rfl, fun e => (by cases e), fun _ => ⟨a, rfl, hA⟩⟩, h'.touch h'.below.size hC hT⟩
theorem sk_take_none {W w : World} {c wb qm qk : Nat} {V M Kc : List Value} {S : CSt} (h : Sk W W.heap.size c wb qm qk V M Kc S w) (hn : S.n = 3) (ha : S.answer = .pointer none) :
    Calls Tryz.prog 17 #[.pointer (some ⟨c, 0, none⟩)] w fun e w' => e = .returned (.tuple #[.agg #[.int .i64 0, .int .i64 0, .int .i64 0, .slice none 0 0, .slice none 0 0], .bool false]) ∧ Below w.heap.size w w' ∧ Sk W W.heap.size c wb qm qk V M Kc S w' := by
  refine (take_none c S w h.at_ (by omega) ha).mono ?_
  rintro e w' ⟨rfl, hb⟩
  exact ⟨rfl, hb, h.quiet h.below.size hb⟩
/-- the second Take where it is off -/
theorem sk_take_gone {W w : World} {c wb qm qk : Nat} {V M Kc : List Value} {S : CSt} {is : Bool} (h : Sk W W.heap.size c wb qm qk V M Kc S w) (hG : GoneS is S w) :
    Calls Tryz.prog 17 #[.pointer (some ⟨c, 0, none⟩)] w fun e w' => ∃ F, e = .returned (.tuple #[.agg #[.int .i64 F, .int .i64 0, .int .i64 0, .slice none 0 0, .slice none 0 0], .bool (!is)]) ∧ (is = false → F = 16) ∧ Touch (fun k => k = c) w w' ∧ ∃ S', S'.n = 3 ∧ S'.phase = 0 ∧ Sk W W.heap.size c wb qm qk V M Kc S' w' := by
  obtain ⟨hn, _, hph, h1, h2⟩ := hG
  cases is with
  | true =>
    refine (take_none c S w h.at_ (by omega) (h1 rfl)).mono ?_
    rintro e w' ⟨rfl, hb⟩
    exact ⟨0, rfl, fun e => (by cases e), Touch.of_below hb, S, hn, hph, h.quiet h.below.size hb⟩
  | false =>
    obtain ⟨a, han, hA⟩ := h2 rfl
    refine (take_some c a S 16 0 0 none none 0 0 0 0 w h.at_ (by omega) han hA).mono ?_
    rintro e w' ⟨rfl, hC, hT⟩
    exact ⟨16, rfl, fun _ => rfl, hT, { S with answer := .pointer none }, hn, hph, h.touch h.below.size hC hT⟩
end Go.Proofs.YtmmnaieikfekfaaGreatDoor
