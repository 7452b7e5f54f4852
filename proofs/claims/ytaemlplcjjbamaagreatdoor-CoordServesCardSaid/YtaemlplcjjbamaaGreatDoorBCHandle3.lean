/- What stays where only blocks of some types turn; a leading coordinator's state in memory, and the statement's struct. No condition. The walks of a coordinator's Handle at a leading coordinator: kinds 5, 8, 10 (printed by wip/mkchandle.py). Condition: it leads; the message is for it, from a peer, of its ballot. The walks of prunedBy and Handle at a promise that comes while the coordinator leads (printed by wip/mkchandle2.py). Condition: it leads; the message is for it, from a peer, of its ballot. The walk of Handle at a yes (printed by wip/mkchandle2.py). Condition: it leads; the message is for -/
import Derived.Test.YtaemlplcjjbamaaGreatDoorBPRow
import Derived.Test.YtaemlplcjjbamaaGreatDoorBCParts
import Derived.Test.YtaemlplcjjbamaaGreatDoorBCTold
import Derived.Test.YtaemlplcjjbamaaGreatDoorBCAcc
import Derived.Test.YtaemlplcjjbamaaGreatDoorBCGot
import Derived.Test.YtaemlplcjjbamaaGreatDoorBKn
namespace Go.Proofs.YtaemlplcjjbamaaGreatDoor
open Go Go.RowKit
set_option linter.unusedVariables false
theorem BookIs.not_blk {w : World} {k mb : Nat} {B : List ByteArray} (h : BookIs w k mb B) {cs : List Value} {T : TypeId} (hb : Blk w mb cs T) : False := by
  obtain ⟨D, ⟨es, clock, k1, _⟩, _⟩ := h.own
  unfold Blk at hb
  rw [k1] at hb
  cases hb
theorem BookIs.not_row {w : World} {k mb : Nat} {B : List ByteArray} (h : BookIs w k mb B) {base n sz : Nat} {e : TypeId} {v : Value} {xs : List Value} (hr : w.ownsRow base e sz v n xs) (hv : v.ownBlock = some mb) : False := by
  obtain ⟨D, ⟨es, clock, k1, _⟩, _⟩ := h.own
  rcases hr.2 with ⟨rfl, _⟩ | ⟨g, cap, cur, rfl, _, hb, _⟩
  · cases hv
  · have hg : g = mb := by simpa [Value.ownBlock] using hv
    subst hg
    rw [k1] at hb
    cases hb
/-- blocks and rows of other types stay as they are -/
def KeepT (Ts : List TypeId) (w w' : World) : Prop :=
  (∀ q cs T, ¬ T ∈ Ts → Blk w q cs T → Blk w' q cs T) ∧ (∀ B T sz v k xs, ¬ T ∈ Ts → w.ownsRow B T sz v k xs → w'.ownsRow B T sz v k xs)
/-- a block of one of the types -/
def Tyd (Ts : List TypeId) (w : World) (q : Nat) : Prop := (∃ cs T, T ∈ Ts ∧ Blk w q cs T) ∨ (∃ B T sz v k xs, T ∈ Ts ∧ w.ownsRow B T sz v k xs ∧ v.ownBlock = some q)
def IsMap (w : World) (q : Nat) : Prop := ∃ kb Bk, BookIs w kb q Bk
theorem Tyd.mono {Ts Us : List TypeId} {w : World} {q : Nat} (h : Tyd Ts w q) (hs : ∀ t ∈ Ts, t ∈ Us) : Tyd Us w q := by
  rcases h with ⟨cs, T, h1, h2⟩ | ⟨B, T, sz, v, k, xs, h1, h2, h3⟩
  · exact Or.inl ⟨cs, T, hs T h1, h2⟩
  · exact Or.inr ⟨B, T, sz, v, k, xs, hs T h1, h2, h3⟩
theorem Tyd.blk {Ts : List TypeId} {w : World} {q : Nat} {cs : List Value} {T : TypeId} (h : Blk w q cs T) (hT : T ∈ Ts) : Tyd Ts w q := Or.inl ⟨cs, T, hT, h⟩
theorem Tyd.row {Ts : List TypeId} {w : World} {q B sz k : Nat} {v : Value} {xs : List Value} {T : TypeId} (h : w.ownsRow B T sz v k xs) (hT : T ∈ Ts) (hq : v.ownBlock = some q) : Tyd Ts w q := Or.inr ⟨B, T, sz, v, k, xs, hT, h, hq⟩
theorem KeepT.of_touch {Ts : List TypeId} {S : Nat → Prop} {w w' : World} (h : Touch S w w') (hS : ∀ q, q < w.heap.size → S q → Tyd Ts w q ∨ IsMap w q) : KeepT Ts w w' := by
  constructor
  · intro q cs T hT hq
    refine hq.touch h (fun hs => ?_)
    rcases hS q hq.lt hs with (⟨cs', T', h1, h2⟩ | ⟨B, T', sz, v, k, xs, h1, h2, h3⟩) | ⟨kb, Bk, hk⟩
    · exact hq.ne h2 (fun e => hT (e ▸ h1)) rfl
    · exact row_ne h2 hq (fun e => hT (e ▸ h1)) h3
    · exact hk.not_blk hq
  · intro B T sz v k xs hT hr
    refine row_touch hr h (fun g hg hs => ?_)
    rcases hS g (row_lt hr hg).2 hs with (⟨cs', T', h1, h2⟩ | ⟨B', T', sz', v', k', xs', h1, h2, h3⟩) | ⟨kb, Bk, hk⟩
    · exact row_ne hr h2 (fun e => hT (e ▸ h1)) hg
    · exact row_ne_row hr h2 (fun e => hT (e ▸ h1)) hg h3
    · exact hk.not_row hr hg
theorem KeepT.trans {Ts : List TypeId} {a b c : World} (h : KeepT Ts a b) (k : KeepT Ts b c) : KeepT Ts a c :=
  ⟨fun q cs T hT hq => k.1 q cs T hT (h.1 q cs T hT hq), fun B T sz v n xs hT hr => k.2 B T sz v n xs hT (h.2 B T sz v n xs hT hr)⟩
theorem KeepT.mono {Ts Us : List TypeId} {a b : World} (h : KeepT Ts a b) (hs : ∀ t ∈ Ts, t ∈ Us) : KeepT Us a b :=
  ⟨fun q cs T hT hq => h.1 q cs T (fun e => hT (hs T e)) hq, fun B T sz v n xs hT hr => h.2 B T sz v n xs (fun e => hT (hs T e)) hr⟩
theorem KeepT.of_below {Ts : List TypeId} {w w' : World} (h : Below w.heap.size w w') : KeepT Ts w w' := ⟨fun q cs T _ hq => hq.below h, fun B T sz v k xs _ hr => ownsRow_below hr h⟩
theorem KeepT.of_grown {Ts : List TypeId} {w w' : World} {B sz k : Nat} {T : TypeId} {ov : Value} {xs : List Value} (hr : w.ownsRow B T sz ov k xs) (hg : w.grownBy w' ov.ownBlock) (hT : T ∈ Ts) : KeepT Ts w w' :=
  ⟨fun q cs T' hT' hq => blk_grown hq hg (row_ne hr hq (fun e => hT' (e ▸ hT))), fun B' T' sz' v' k' xs' hT' hr' => row_grown hr' hg (fun g hg' e => row_ne_row hr' hr (fun e => hT' (e ▸ hT)) hg' e)⟩
/-- books stay too -/
def KeepK (w w' : World) : Prop := ∀ kb mb Bk, BookIs w kb mb Bk → BookIs w' kb mb Bk
theorem KeepK.trans {a b c : World} (h : KeepK a b) (k : KeepK b c) : KeepK a c := fun kb mb Bk hb => k kb mb Bk (h kb mb Bk hb)
theorem KeepK.of_below {w w' : World} (h : Below w.heap.size w w') : KeepK w w' := fun kb mb Bk hb => hb.below h
theorem KeepK.of_touch {Ts : List TypeId} {S : Nat → Prop} {w w' : World} (h : Touch S w w') (hS : ∀ q, q < w.heap.size → S q → Tyd Ts w q) (hT : ¬ 91 ∈ Ts) : KeepK w w' := by
  intro kb mb Bk hb
  refine hb.touch h (fun hs => ?_) (fun hs => ?_)
  · have hl : kb < w.heap.size := hb.at_.lt
    rcases hS kb hl hs with ⟨cs', T', h1, h2⟩ | ⟨B', T', sz', v', k', xs', h1, h2, h3⟩
    · exact (hb.ne_blk h2 (fun e => hT (e ▸ h1))).1 rfl
    · exact (hb.ne_row h2 (fun e => hT (e ▸ h1))).1 h3
  · rcases hS mb hb.map_lt hs with ⟨cs', T', h1, h2⟩ | ⟨B', T', sz', v', k', xs', h1, h2, h3⟩
    · exact hb.not_blk h2
    · exact hb.not_row h2 h3
theorem KeepK.of_grown {w w' : World} {B sz k : Nat} {T : TypeId} {ov : Value} {xs : List Value} (hr : w.ownsRow B T sz ov k xs) (hg : w.grownBy w' ov.ownBlock) (hT : T ≠ 91) : KeepK w w' :=
  KeepK.of_touch (Ts := [T]) (S := fun q => ov.ownBlock = some q) (touch_grown (Touch.refl _ w) hg (fun g hg => Or.inl hg)) (fun q _ hq => Tyd.row hr (by simp) hq) (by simp; exact fun e => hT e.symm)
/-- blocks of other types and books stay -/
def Keep (Ts : List TypeId) (w w' : World) : Prop := KeepT Ts w w' ∧ KeepK w w'
theorem Keep.trans {Ts : List TypeId} {a b c : World} (h : Keep Ts a b) (k : Keep Ts b c) : Keep Ts a c := ⟨h.1.trans k.1, h.2.trans k.2⟩
theorem Keep.mono {Ts Us : List TypeId} {a b : World} (h : Keep Ts a b) (hs : ∀ t ∈ Ts, t ∈ Us) : Keep Us a b := ⟨h.1.mono hs, h.2⟩
theorem Keep.of_below {Ts : List TypeId} {w w' : World} (h : Below w.heap.size w w') : Keep Ts w w' := ⟨KeepT.of_below h, KeepK.of_below h⟩
theorem Keep.of_touch {Ts : List TypeId} {S : Nat → Prop} {w w' : World} (h : Touch S w w') (hS : ∀ q, q < w.heap.size → S q → Tyd Ts w q) (hT : ¬ 91 ∈ Ts) : Keep Ts w w' := ⟨KeepT.of_touch h (fun q hq hs => Or.inl (hS q hq hs)), KeepK.of_touch h hS hT⟩
theorem Keep.of_grown {Ts : List TypeId} {w w' : World} {B sz k : Nat} {T : TypeId} {ov : Value} {xs : List Value} (hr : w.ownsRow B T sz ov k xs) (hg : w.grownBy w' ov.ownBlock) (hT : T ∈ Ts) (hB : T ≠ 91) : Keep Ts w w' := ⟨KeepT.of_grown hr hg hT, KeepK.of_grown hr hg hB⟩
theorem CoordAt.keep {Ts : List TypeId} {w w' : World} {c : Nat} {S : CSt} (h : CoordAt w c S) (k : KeepT Ts w w') (hT : ¬ 78 ∈ Ts) : CoordAt w' c S := ⟨k.1 _ _ _ hT h.1, h.2⟩
theorem TallyAt.keep {Ts : List TypeId} {w w' : World} {t n : Nat} {m : List Bool} (h : TallyAt w t n m) (k : KeepT Ts w w') (hT : ¬ 115 ∈ Ts) : TallyAt w' t n m := ⟨k.1 _ _ _ hT h.1, h.2⟩
/-- the statement's struct: what was told has at most K rows -/
structure Wst (w0 : World) (c wb kb n K : Nat) (sv : Value) (w : World) : Prop where
  world : ∃ av k xs, Blk w wb (worldC c kb 1 (n : Int) sv av) 43 ∧ w.ownsRow w0.heap.size 57 5 av k xs ∧ k ≤ K
  below : Below w0.heap.size w0 w
  wb0 : w0.heap.size ≤ wb
  c0 : w0.heap.size ≤ c
theorem Wst.keep {Ts : List TypeId} {w0 : World} {c wb kb n K : Nat} {sv : Value} {w w' : World} (h : Wst w0 c wb kb n K sv w) (k : KeepT Ts w w') (hb : Below w0.heap.size w0 w') (h1 : ¬ 43 ∈ Ts) (h2 : ¬ 57 ∈ Ts) : Wst w0 c wb kb n K sv w' := by
  obtain ⟨av, kk, xs, a1, a2, a3⟩ := h.world
  exact ⟨⟨av, kk, xs, k.1 _ _ _ h1 a1, k.2 _ _ _ _ _ _ h2 a2, a3⟩, hb, h.wb0, h.c0⟩
theorem Wst.mono {w0 : World} {c wb kb n K K' : Nat} {sv : Value} {w : World} (h : Wst w0 c wb kb n K sv w) (hk : K ≤ K') : Wst w0 c wb kb n K' sv w := by
  obtain ⟨av, kk, xs, a1, a2, a3⟩ := h.world
  exact ⟨⟨av, kk, xs, a1, a2, by omega⟩, h.below, h.wb0, h.c0⟩
theorem Wst.size {w0 : World} {c wb kb n K : Nat} {sv : Value} {w : World} (h : Wst w0 c wb kb n K sv w) : w0.heap.size ≤ w.heap.size := h.below.size
/-- a coordinator that leads: it knows l as chosen, has the images I at hand; what is known of its peers is ps -/
structure Ld (w0 : World) (c kb mb n : Nat) (l : List Ent) (I : List (Int × List UInt8)) (ps : List Peer) (S : CSt) (Bk : List ByteArray) (w : World) : Prop where
  at_ : CoordAt w c S
  id_ : S.id = 1
  n_ : S.n = (n : Int)
  bk_ : S.book = .pointer (some ⟨kb, 0, none⟩)
  bal : S.ballot = 17
  ph : S.phase = 2
  fl : S.floor = 0
  top : S.top = (l.length : Int)
  again : ∃ a cc, S.again = .slice a 0 cc
  fetch : S.fetch = .pointer none
  prs : S.peers = peersVals ps
  len : ps.length = 9
  cho : w.ownsRow w0.heap.size 102 3 S.chosen l.length (entsVals l)
  img : w.ownsRow w0.heap.size 151 2 S.images I.length (knV I)
  bok : BookIs w kb mb Bk
theorem Ld.keep {Ts : List TypeId} {w0 : World} {c kb mb n : Nat} {l : List Ent} {I : List (Int × List UInt8)} {ps : List Peer} {S : CSt} {Bk : List ByteArray} {w w' : World} (h : Ld w0 c kb mb n l I ps S Bk w) (k : Keep Ts w w') (h1 : ¬ 78 ∈ Ts) (h2 : ¬ 102 ∈ Ts) (h3 : ¬ 151 ∈ Ts) : Ld w0 c kb mb n l I ps S Bk w' :=
  ⟨h.at_.keep k.1 h1, h.id_, h.n_, h.bk_, h.bal, h.ph, h.fl, h.top, h.again, h.fetch, h.prs, h.len, k.1.2 _ _ _ _ _ _ h2 h.cho, k.1.2 _ _ _ _ _ _ h3 h.img, k.2 _ _ _ h.bok⟩
theorem Ld.below {w0 : World} {c kb mb n : Nat} {l : List Ent} {I : List (Int × List UInt8)} {ps : List Peer} {S : CSt} {Bk : List ByteArray} {w w' : World} (h : Ld w0 c kb mb n l I ps S Bk w) (hb : Below w.heap.size w w') : Ld w0 c kb mb n l I ps S Bk w' :=
  h.keep (Ts := []) (Keep.of_below hb) (by simp) (by simp) (by simp)
/-- only the coordinator's own block turns: its peers -/
theorem Ld.setPeers {w0 : World} {c kb mb n : Nat} {l : List Ent} {I : List (Int × List UInt8)} {ps ps' : List Peer} {S : CSt} {Bk : List ByteArray} {w w' : World} (h : Ld w0 c kb mb n l I ps S Bk w) (hC : CoordAt w' c { S with peers := peersVals ps' }) (hl : ps'.length = 9) (k : Keep [78] w w') : Ld w0 c kb mb n l I ps' { S with peers := peersVals ps' } Bk w' :=
  ⟨hC, h.id_, h.n_, h.bk_, h.bal, h.ph, h.fl, h.top, h.again, h.fetch, rfl, hl, k.1.2 _ _ _ _ _ _ (by decide) h.cho, k.1.2 _ _ _ _ _ _ (by decide) h.img, k.2 _ _ _ h.bok⟩
theorem keep_coord {w w' : World} {c : Nat} {S : CSt} (h : CoordAt w c S) (hT : Touch (fun k => k = c) w w') : Keep [78] w w' :=
  Keep.of_touch hT (fun q _ hq => by subst hq; exact Tyd.blk h.1 (by simp)) (by decide)
end Go.Proofs.YtaemlplcjjbamaaGreatDoor
namespace Go.Proofs.YtaemlplcjjbamaaGreatDoor
open Go Go.RowKit
set_option linter.unusedVariables false
set_option maxRecDepth 100000 in
set_option maxHeartbeats 4000000 in
theorem handle_got (b v n : Nat) (c : CSt) (gen basis fl tp rd pa po : Int) (mk pt : ByteArray) (la : Option Addr) (ll lc : Nat) (w : World) (Q : World → Prop) (h : CoordAt w b c) (hcn : c.n = (n : Int)) (hph : c.phase = 2) (hv : v < n) (hn9 : n ≤ 9)
    (hcall : ∀ w1, CoordAt w1 b c → Below w.heap.size w w1 → Calls Tryz.prog 84 #[.pointer (some ⟨b, 0, none⟩), .agg #[.int .i64 5, .int .i64 (v : Int), .int .i64 c.id, .int .i64 c.ballot, .int .i64 gen, .int .i64 basis, .int .i64 fl, .int .i64 tp, .int .i64 rd, .string mk, .int .i64 pa, .int .i64 po, .string pt, .slice la ll lc]] w1 fun e w' => e = .returned (.tuple #[]) ∧ Q w') :
    Calls Tryz.prog 47 #[.pointer (some ⟨b, 0, none⟩), .agg #[.int .i64 5, .int .i64 (v : Int), .int .i64 c.id, .int .i64 c.ballot, .int .i64 gen, .int .i64 basis, .int .i64 fl, .int .i64 tp, .int .i64 rd, .string mk, .int .i64 pa, .int .i64 po, .string pt, .slice la ll lc]] w fun e w' => e = .returned (.tuple #[]) ∧ Q w' := by
  have hbl := h.1.lt
  have c0 : w.cell? ⟨b, 0, none⟩ = some (.int .i64 c.id) := h.hd 0 (by omega)
  have c1 : w.cell? ⟨b, 1, none⟩ = some (.int .i64 (n : Int)) := by rw [← hcn]; exact h.hd 1 (by omega)
  have c3 : w.cell? ⟨b, 3, none⟩ = some (.int .i64 c.ballot) := h.hd 3 (by omega)
  have c4 : w.cell? ⟨b, 4, none⟩ = some (.int .i64 2) := by rw [← hph]; exact h.hd 4 (by omega)
  have Hn := Lib.hid (show 1 ≤ c.n by omega)
  have Hat1 := Lib.hid (h.alloc (.cells #[.int .i64 5, .int .i64 (v : Int), .int .i64 c.id, .int .i64 c.ballot, .int .i64 gen, .int .i64 basis, .int .i64 fl, .int .i64 tp, .int .i64 rd, .string mk, .int .i64 pa, .int .i64 po, .string pt, .slice la ll lc] 30))
  have HB := Lib.hid ((Below.refl w.heap.size w).alloc (Nat.le_refl _) (.cells #[.int .i64 5, .int .i64 (v : Int), .int .i64 c.id, .int .i64 c.ballot, .int .i64 gen, .int .i64 basis, .int .i64 fl, .int .i64 tp, .int .i64 rd, .string mk, .int .i64 pa, .int .i64 po, .string pt, .slice la ll lc] 30))
  have e1 : (c.id != c.id) = false := by simp
  have e2 : (c.ballot != c.ballot) = false := by simp
  have hv0 : ¬ (v : Int) < 0 := by omega
  have hv3 : (v : Int) < (n : Int) := by omega
  have HCl := Lib.hid hcall
  clear h hcn hph hcall
  go_enter Tryz.func47, Tryz.ntmps47
  go_wp2
  go_quiet ((go_at_call 18; first | exact quiet_left (none_any b c _ (Hat1.out.drewN _) Hn.out) | exact quiet_add_left (none_any b c _ (Hat1.out.drewN _) Hn.out)))
  go_wp2_with fail

  go_quiet (fail)
  go_wp2_with fail

  refine (HCl.out _ (Hat1.out.drewN _) (below_drewN HB.out _)).mono ?_
  rintro e w2 ⟨rfl, hQ⟩
  go_wp2_with fail
  go_end0
  exact ⟨rfl, hQ⟩
set_option maxRecDepth 100000 in
set_option maxHeartbeats 4000000 in
theorem handle_accepted (b v n : Nat) (c : CSt) (gen basis fl tp rd pa po : Int) (mk pt : ByteArray) (la : Option Addr) (ll lc : Nat) (w : World) (Q : World → Prop) (h : CoordAt w b c) (hcn : c.n = (n : Int)) (hph : c.phase = 2) (hv : v < n) (hn9 : n ≤ 9)
    (hcall : ∀ w1, CoordAt w1 b c → Below w.heap.size w w1 → Calls Tryz.prog 86 #[.pointer (some ⟨b, 0, none⟩), .agg #[.int .i64 8, .int .i64 (v : Int), .int .i64 c.id, .int .i64 c.ballot, .int .i64 gen, .int .i64 basis, .int .i64 fl, .int .i64 tp, .int .i64 rd, .string mk, .int .i64 pa, .int .i64 po, .string pt, .slice la ll lc]] w1 fun e w' => e = .returned (.tuple #[]) ∧ Q w') :
    Calls Tryz.prog 47 #[.pointer (some ⟨b, 0, none⟩), .agg #[.int .i64 8, .int .i64 (v : Int), .int .i64 c.id, .int .i64 c.ballot, .int .i64 gen, .int .i64 basis, .int .i64 fl, .int .i64 tp, .int .i64 rd, .string mk, .int .i64 pa, .int .i64 po, .string pt, .slice la ll lc]] w fun e w' => e = .returned (.tuple #[]) ∧ Q w' := by
  have hbl := h.1.lt
  have c0 : w.cell? ⟨b, 0, none⟩ = some (.int .i64 c.id) := h.hd 0 (by omega)
  have c1 : w.cell? ⟨b, 1, none⟩ = some (.int .i64 (n : Int)) := by rw [← hcn]; exact h.hd 1 (by omega)
  have c3 : w.cell? ⟨b, 3, none⟩ = some (.int .i64 c.ballot) := h.hd 3 (by omega)
  have c4 : w.cell? ⟨b, 4, none⟩ = some (.int .i64 2) := by rw [← hph]; exact h.hd 4 (by omega)
  have Hn := Lib.hid (show 1 ≤ c.n by omega)
  have Hat1 := Lib.hid (h.alloc (.cells #[.int .i64 8, .int .i64 (v : Int), .int .i64 c.id, .int .i64 c.ballot, .int .i64 gen, .int .i64 basis, .int .i64 fl, .int .i64 tp, .int .i64 rd, .string mk, .int .i64 pa, .int .i64 po, .string pt, .slice la ll lc] 30))
  have HB := Lib.hid ((Below.refl w.heap.size w).alloc (Nat.le_refl _) (.cells #[.int .i64 8, .int .i64 (v : Int), .int .i64 c.id, .int .i64 c.ballot, .int .i64 gen, .int .i64 basis, .int .i64 fl, .int .i64 tp, .int .i64 rd, .string mk, .int .i64 pa, .int .i64 po, .string pt, .slice la ll lc] 30))
  have e1 : (c.id != c.id) = false := by simp
  have e2 : (c.ballot != c.ballot) = false := by simp
  have hv0 : ¬ (v : Int) < 0 := by omega
  have hv3 : (v : Int) < (n : Int) := by omega
  have HCl := Lib.hid hcall
  clear h hcn hph hcall
  go_enter Tryz.func47, Tryz.ntmps47
  go_wp2
  go_quiet ((go_at_call 18; first | exact quiet_left (none_any b c _ (Hat1.out.drewN _) Hn.out) | exact quiet_add_left (none_any b c _ (Hat1.out.drewN _) Hn.out)))
  go_wp2_with fail

  go_quiet (fail)
  go_wp2_with fail

  refine (HCl.out _ (Hat1.out.drewN _) (below_drewN HB.out _)).mono ?_
  rintro e w2 ⟨rfl, hQ⟩
  go_wp2_with fail
  go_end0
  exact ⟨rfl, hQ⟩
set_option maxRecDepth 100000 in
set_option maxHeartbeats 4000000 in
theorem handle_far (b v n : Nat) (c : CSt) (gen basis bl fl tp rd pa po : Int) (mk pt : ByteArray) (la : Option Addr) (ll lc : Nat) (w : World) (Q : World → Prop) (h : CoordAt w b c) (hcn : c.n = (n : Int)) (hph : c.phase = 2) (hv : v < n) (hn9 : n ≤ 9)
    (hcall : ∀ w1, CoordAt w1 b c → Below w.heap.size w w1 → Calls Tryz.prog 81 #[.pointer (some ⟨b, 0, none⟩), .agg #[.int .i64 10, .int .i64 (v : Int), .int .i64 c.id, .int .i64 bl, .int .i64 gen, .int .i64 basis, .int .i64 fl, .int .i64 tp, .int .i64 rd, .string mk, .int .i64 pa, .int .i64 po, .string pt, .slice la ll lc]] w1 fun e w' => e = .returned (.tuple #[]) ∧ Q w') :
    Calls Tryz.prog 47 #[.pointer (some ⟨b, 0, none⟩), .agg #[.int .i64 10, .int .i64 (v : Int), .int .i64 c.id, .int .i64 bl, .int .i64 gen, .int .i64 basis, .int .i64 fl, .int .i64 tp, .int .i64 rd, .string mk, .int .i64 pa, .int .i64 po, .string pt, .slice la ll lc]] w fun e w' => e = .returned (.tuple #[]) ∧ Q w' := by
  have hbl := h.1.lt
  have c0 : w.cell? ⟨b, 0, none⟩ = some (.int .i64 c.id) := h.hd 0 (by omega)
  have c1 : w.cell? ⟨b, 1, none⟩ = some (.int .i64 (n : Int)) := by rw [← hcn]; exact h.hd 1 (by omega)
  have c3 : w.cell? ⟨b, 3, none⟩ = some (.int .i64 c.ballot) := h.hd 3 (by omega)
  have c4 : w.cell? ⟨b, 4, none⟩ = some (.int .i64 2) := by rw [← hph]; exact h.hd 4 (by omega)
  have Hn := Lib.hid (show 1 ≤ c.n by omega)
  have Hat1 := Lib.hid (h.alloc (.cells #[.int .i64 10, .int .i64 (v : Int), .int .i64 c.id, .int .i64 bl, .int .i64 gen, .int .i64 basis, .int .i64 fl, .int .i64 tp, .int .i64 rd, .string mk, .int .i64 pa, .int .i64 po, .string pt, .slice la ll lc] 30))
  have HB := Lib.hid ((Below.refl w.heap.size w).alloc (Nat.le_refl _) (.cells #[.int .i64 10, .int .i64 (v : Int), .int .i64 c.id, .int .i64 bl, .int .i64 gen, .int .i64 basis, .int .i64 fl, .int .i64 tp, .int .i64 rd, .string mk, .int .i64 pa, .int .i64 po, .string pt, .slice la ll lc] 30))
  have e1 : (c.id != c.id) = false := by simp
  have e2 : (c.ballot != c.ballot) = false := by simp
  have hv0 : ¬ (v : Int) < 0 := by omega
  have hv3 : (v : Int) < (n : Int) := by omega
  have HCl := Lib.hid hcall
  clear h hcn hph hcall
  go_enter Tryz.func47, Tryz.ntmps47
  go_wp2
  go_quiet ((go_at_call 18; first | exact quiet_left (none_any b c _ (Hat1.out.drewN _) Hn.out) | exact quiet_add_left (none_any b c _ (Hat1.out.drewN _) Hn.out)))
  go_wp2_with fail

  refine (HCl.out _ (Hat1.out.drewN _) (below_drewN HB.out _)).mono ?_
  rintro e w2 ⟨rfl, hQ⟩
  go_wp2_with fail
  refine bodyPost_ret (results_none rfl _ _ _) rfl ?_
  exact ⟨rfl, hQ⟩
end Go.Proofs.YtaemlplcjjbamaaGreatDoor
namespace Go.Proofs.YtaemlplcjjbamaaGreatDoor
open Go Go.RowKit
set_option linter.unusedVariables false
set_option maxRecDepth 100000 in
set_option maxHeartbeats 2000000 in
theorem prunedBy_two (b : Nat) (v id bal : Int) (gen basis fl tp rd pa po : Int) (mk pt : ByteArray) (la : Option Addr) (ll lc : Nat) (w : World) :
    Calls Tryz.prog 82 #[.pointer (some ⟨b, 0, none⟩), .agg #[.int .i64 2, .int .i64 v, .int .i64 id, .int .i64 bal, .int .i64 gen, .int .i64 basis, .int .i64 fl, .int .i64 tp, .int .i64 rd, .string mk, .int .i64 pa, .int .i64 po, .string pt, .slice la ll lc]] w fun e w' => e = .returned (.tuple #[]) ∧ Below w.heap.size w w' := by
  have HB := Lib.hid ((Below.refl w.heap.size w).alloc (Nat.le_refl _) (.cells #[.int .i64 2, .int .i64 v, .int .i64 id, .int .i64 bal, .int .i64 gen, .int .i64 basis, .int .i64 fl, .int .i64 tp, .int .i64 rd, .string mk, .int .i64 pa, .int .i64 po, .string pt, .slice la ll lc] 30))
  go_enter Tryz.func82, Tryz.ntmps82
  go_wp2
  go_quiet (fail)
  go_wp2
  refine bodyPost_ret (results_none rfl _ _ _) rfl ?_
  exact ⟨rfl, below_drewN HB.out _⟩
set_option maxRecDepth 100000 in
set_option maxHeartbeats 4000000 in
theorem handle_two (b v n : Nat) (c : CSt) (gen basis fl tp rd pa po : Int) (mk pt : ByteArray) (la : Option Addr) (ll lc : Nat) (w : World) (Q : World → Prop) (h : CoordAt w b c) (hcn : c.n = (n : Int)) (hph : c.phase = 2) (hv : v < n) (hn9 : n ≤ 9)
    (hcall : ∀ w1, CoordAt w1 b c → Below w.heap.size w w1 → Calls Tryz.prog 81 #[.pointer (some ⟨b, 0, none⟩), .agg #[.int .i64 2, .int .i64 (v : Int), .int .i64 c.id, .int .i64 c.ballot, .int .i64 gen, .int .i64 basis, .int .i64 fl, .int .i64 tp, .int .i64 rd, .string mk, .int .i64 pa, .int .i64 po, .string pt, .slice la ll lc]] w1 fun e w' => e = .returned (.tuple #[]) ∧ Q w' ∧ Touch (fun k => k = b) w1 w')
    (hkeep : ∀ w1 w2, Q w1 → Below w1.heap.size w1 w2 → Q w2) :
    Calls Tryz.prog 47 #[.pointer (some ⟨b, 0, none⟩), .agg #[.int .i64 2, .int .i64 (v : Int), .int .i64 c.id, .int .i64 c.ballot, .int .i64 gen, .int .i64 basis, .int .i64 fl, .int .i64 tp, .int .i64 rd, .string mk, .int .i64 pa, .int .i64 po, .string pt, .slice la ll lc]] w fun e w' => e = .returned (.tuple #[]) ∧ Q w' := by
  have hbl := h.1.lt
  have c0 : w.cell? ⟨b, 0, none⟩ = some (.int .i64 c.id) := h.hd 0 (by omega)
  have c1 : w.cell? ⟨b, 1, none⟩ = some (.int .i64 (n : Int)) := by rw [← hcn]; exact h.hd 1 (by omega)
  have c3 : w.cell? ⟨b, 3, none⟩ = some (.int .i64 c.ballot) := h.hd 3 (by omega)
  have c4 : w.cell? ⟨b, 4, none⟩ = some (.int .i64 2) := by rw [← hph]; exact h.hd 4 (by omega)
  have Hn := Lib.hid (show 1 ≤ c.n by omega)
  have Hat1 := Lib.hid (h.alloc (.cells #[.int .i64 2, .int .i64 (v : Int), .int .i64 c.id, .int .i64 c.ballot, .int .i64 gen, .int .i64 basis, .int .i64 fl, .int .i64 tp, .int .i64 rd, .string mk, .int .i64 pa, .int .i64 po, .string pt, .slice la ll lc] 30))
  have HM := Lib.hid (Blk.new w [.int .i64 2, .int .i64 (v : Int), .int .i64 c.id, .int .i64 c.ballot, .int .i64 gen, .int .i64 basis, .int .i64 fl, .int .i64 tp, .int .i64 rd, .string mk, .int .i64 pa, .int .i64 po, .string pt, .slice la ll lc] 30)
  have HB := Lib.hid ((Below.refl w.heap.size w).alloc (Nat.le_refl _) (.cells #[.int .i64 2, .int .i64 (v : Int), .int .i64 c.id, .int .i64 c.ballot, .int .i64 gen, .int .i64 basis, .int .i64 fl, .int .i64 tp, .int .i64 rd, .string mk, .int .i64 pa, .int .i64 po, .string pt, .slice la ll lc] 30))
  have e1 : (c.id != c.id) = false := by simp
  have e2 : (c.ballot != c.ballot) = false := by simp
  have hv0 : ¬ (v : Int) < 0 := by omega
  have hv3 : (v : Int) < (n : Int) := by omega
  have HCl := Lib.hid hcall
  have HK := Lib.hid hkeep
  clear h hcn hph hcall hkeep
  go_enter Tryz.func47, Tryz.ntmps47
  go_wp2
  go_quiet ((go_at_call 18; first | exact quiet_left (none_any b c _ (Hat1.out.drewN _) Hn.out) | exact quiet_add_left (none_any b c _ (Hat1.out.drewN _) Hn.out)))
  go_wp2_with fail
  go_quiet (fail)
  go_wp2_with fail
  have M1 := HM.out
  have B1 := HB.out
  have A1 := Hat1.out
  generalize hw1 : (w.alloc (.cells #[.int .i64 2, .int .i64 (v : Int), .int .i64 c.id, .int .i64 c.ballot, .int .i64 gen, .int .i64 basis, .int .i64 fl, .int .i64 tp, .int .i64 rd, .string mk, .int .i64 pa, .int .i64 po, .string pt, .slice la ll lc] 30)) = w0 at M1 B1 A1 ⊢
  generalize hnn : w0.drewN _ = nn
  have HM1 := Lib.hid (show Blk nn w.heap.size [.int .i64 2, .int .i64 (v : Int), .int .i64 c.id, .int .i64 c.ballot, .int .i64 gen, .int .i64 basis, .int .i64 fl, .int .i64 tp, .int .i64 rd, .string mk, .int .i64 pa, .int .i64 po, .string pt, .slice la ll lc] 30 by rw [← hnn]; exact M1.drewN _)
  have HB1 := Lib.hid (show Below w.heap.size w nn by rw [← hnn]; exact below_drewN B1 _)
  have HA1 := Lib.hid (show CoordAt nn b c by rw [← hnn]; exact A1.drewN _)
  clear hnn hw1 M1 B1 A1 HM HB Hat1
  refine (HCl.out nn HA1.out HB1.out).mono ?_
  rintro e w2 ⟨rfl, hS, hT⟩
  have HS := Lib.hid hS
  have hcq : b ≠ w.heap.size := by omega
  obtain ⟨q, hq⟩ : ∃ q, q = w.heap.size := ⟨_, rfl⟩
  rw [← hq] at HM1 hcq ⊢
  have HM2 := Lib.hid (HM1.out.touch hT (Ne.symm hcq))
  have y0 : w2.cell? ⟨q, 0, none⟩ = some (.int .i64 2) := HM2.out.cell 0
  have y1 : w2.cell? ⟨q, 1, none⟩ = some (.int .i64 (v : Int)) := HM2.out.cell 1
  have y2 : w2.cell? ⟨q, 2, none⟩ = some (.int .i64 c.id) := HM2.out.cell 2
  have y3 : w2.cell? ⟨q, 3, none⟩ = some (.int .i64 c.ballot) := HM2.out.cell 3
  have y4 : w2.cell? ⟨q, 4, none⟩ = some (.int .i64 gen) := HM2.out.cell 4
  have y5 : w2.cell? ⟨q, 5, none⟩ = some (.int .i64 basis) := HM2.out.cell 5
  have y6 : w2.cell? ⟨q, 6, none⟩ = some (.int .i64 fl) := HM2.out.cell 6
  have y7 : w2.cell? ⟨q, 7, none⟩ = some (.int .i64 tp) := HM2.out.cell 7
  have y8 : w2.cell? ⟨q, 8, none⟩ = some (.int .i64 rd) := HM2.out.cell 8
  have y9 : w2.cell? ⟨q, 9, none⟩ = some (.string mk) := HM2.out.cell 9
  have y10 : w2.cell? ⟨q, 10, none⟩ = some (.int .i64 pa) := HM2.out.cell 10
  have y11 : w2.cell? ⟨q, 11, none⟩ = some (.int .i64 po) := HM2.out.cell 11
  have y12 : w2.cell? ⟨q, 12, none⟩ = some (.string pt) := HM2.out.cell 12
  have y13 : w2.cell? ⟨q, 13, none⟩ = some (.slice la ll lc) := HM2.out.cell 13
  clear hS hT HCl HM1 HB1 HA1 hq
  go_wp2_with fail
  refine (prunedBy_two b (v : Int) c.id c.ballot gen basis fl tp rd pa po mk pt la ll lc _).mono ?_
  rintro e w3 ⟨rfl, hb3⟩
  have HS3 := Lib.hid (HK.out _ _ HS.out hb3)
  go_wp2_with fail
  go_end0
  exact ⟨rfl, HS3.out⟩
end Go.Proofs.YtaemlplcjjbamaaGreatDoor
namespace Go.Proofs.YtaemlplcjjbamaaGreatDoor
open Go Go.RowKit
set_option linter.unusedVariables false
set_option maxRecDepth 100000 in
set_option maxHeartbeats 4000000 in
theorem handle_yes (b v n t : Nat) (c : CSt) (ps : List Peer) (M : List Bool) (gen basis fl tp pa po : Int) (mk pt : ByteArray) (la : Option Addr) (ll lc : Nat) (w : World) (h : CoordAt w b c) (hp : c.peers = peersVals ps) (hps : ps.length = 9) (hcn : c.n = (n : Int)) (hph : c.phase = 2) (hv : v < n) (hn9 : n ≤ 9) (hy : c.yes = .pointer (some ⟨t, 0, none⟩)) (hta : TallyAt w t n M) :
    Calls Tryz.prog 47 #[.pointer (some ⟨b, 0, none⟩), .agg #[.int .i64 12, .int .i64 (v : Int), .int .i64 c.id, .int .i64 c.ballot, .int .i64 gen, .int .i64 basis, .int .i64 fl, .int .i64 tp, .int .i64 c.read, .string mk, .int .i64 pa, .int .i64 po, .string pt, .slice la ll lc]] w fun e w' => e = .returned (.tuple #[]) ∧ CoordAt w' b { c with peers := peersVals (ps.set v (farPeer (ps[v]'(by omega)) fl tp)) } ∧ TallyAt w' t n (addTo M (v : Int) n) ∧ Touch (fun k => k = b ∨ k = t) w w' := by
  have hbl := h.1.lt
  have c0 : w.cell? ⟨b, 0, none⟩ = some (.int .i64 c.id) := h.hd 0 (by omega)
  have c1 : w.cell? ⟨b, 1, none⟩ = some (.int .i64 (n : Int)) := by rw [← hcn]; exact h.hd 1 (by omega)
  have c3 : w.cell? ⟨b, 3, none⟩ = some (.int .i64 c.ballot) := h.hd 3 (by omega)
  have c4 : w.cell? ⟨b, 4, none⟩ = some (.int .i64 2) := by rw [← hph]; exact h.hd 4 (by omega)
  have Hn := Lib.hid (show 1 ≤ c.n by omega)
  have Hat1 := Lib.hid (h.alloc (.cells #[.int .i64 12, .int .i64 (v : Int), .int .i64 c.id, .int .i64 c.ballot, .int .i64 gen, .int .i64 basis, .int .i64 fl, .int .i64 tp, .int .i64 c.read, .string mk, .int .i64 pa, .int .i64 po, .string pt, .slice la ll lc] 30))
  have HM := Lib.hid (Blk.new w [.int .i64 12, .int .i64 (v : Int), .int .i64 c.id, .int .i64 c.ballot, .int .i64 gen, .int .i64 basis, .int .i64 fl, .int .i64 tp, .int .i64 c.read, .string mk, .int .i64 pa, .int .i64 po, .string pt, .slice la ll lc] 30)
  have HB := Lib.hid ((Below.refl w.heap.size w).alloc (Nat.le_refl _) (.cells #[.int .i64 12, .int .i64 (v : Int), .int .i64 c.id, .int .i64 c.ballot, .int .i64 gen, .int .i64 basis, .int .i64 fl, .int .i64 tp, .int .i64 c.read, .string mk, .int .i64 pa, .int .i64 po, .string pt, .slice la ll lc] 30))
  have e1 : (c.id != c.id) = false := by simp
  have e2 : (c.ballot != c.ballot) = false := by simp
  have hv0 : ¬ (v : Int) < 0 := by omega
  have hv3 : (v : Int) < (n : Int) := by omega
  have htl := hta.1.lt
  have htb : t ≠ b := hta.1.ne h.1 (by decide)
  have HCl := Lib.hid (fun w1 h1 => far_any b c ps v 12 c.id c.ballot gen basis fl tp c.read pa po mk pt (.slice la ll lc) w1 h1 hp hps (by omega))
  have Hy := Lib.hid hy
  have HT0 := Lib.hid hta
  obtain ⟨X, hX⟩ : ∃ X, X = peersVals (ps.set v (farPeer (ps[v]'(by omega)) fl tp)) := ⟨_, rfl⟩
  rw [← hX] at HCl ⊢
  clear h hcn hph hp hy hta hX
  go_enter Tryz.func47, Tryz.ntmps47
  go_wp2
  go_quiet ((go_at_call 18; first | exact quiet_left (none_any b c _ (Hat1.out.drewN _) Hn.out) | exact quiet_add_left (none_any b c _ (Hat1.out.drewN _) Hn.out)))
  go_wp2_with fail
  go_quiet (fail)
  go_wp2_with fail
  have M1 := HM.out
  have B1 := HB.out
  have A1 := Hat1.out
  generalize hw1 : (w.alloc (.cells #[.int .i64 12, .int .i64 (v : Int), .int .i64 c.id, .int .i64 c.ballot, .int .i64 gen, .int .i64 basis, .int .i64 fl, .int .i64 tp, .int .i64 c.read, .string mk, .int .i64 pa, .int .i64 po, .string pt, .slice la ll lc] 30)) = w0 at M1 B1 A1 ⊢
  generalize hnn : w0.drewN _ = nn
  have HM1 := Lib.hid (show Blk nn w.heap.size [.int .i64 12, .int .i64 (v : Int), .int .i64 c.id, .int .i64 c.ballot, .int .i64 gen, .int .i64 basis, .int .i64 fl, .int .i64 tp, .int .i64 c.read, .string mk, .int .i64 pa, .int .i64 po, .string pt, .slice la ll lc] 30 by rw [← hnn]; exact M1.drewN _)
  have HB1 := Lib.hid (show Below w.heap.size w nn by rw [← hnn]; exact below_drewN B1 _)
  have HA1 := Lib.hid (show CoordAt nn b c by rw [← hnn]; exact A1.drewN _)
  clear hnn hw1 M1 B1 A1 HM HB Hat1
  refine (HCl.out nn HA1.out).mono ?_
  rintro e w2 ⟨rfl, hC2, hT⟩
  have hcq : b ≠ w.heap.size := by omega
  have htq : t ≠ w.heap.size := by omega
  have HA2 := Lib.hid (show TallyAt w2 t n M from ⟨(tallyAt_below HT0.out HB1.out).1.touch hT htb, HT0.out.2⟩)
  have HX2 := Lib.hid ((Touch.of_below (S := fun k => k = b) HB1.out).trans hT)
  obtain ⟨q, hq⟩ : ∃ q, q = w.heap.size := ⟨_, rfl⟩
  rw [← hq] at HM1 hcq htq ⊢
  have HM2 := Lib.hid (HM1.out.touch hT (Ne.symm hcq))
  have HC2 := Lib.hid hC2
  have y0 : w2.cell? ⟨q, 0, none⟩ = some (.int .i64 12) := HM2.out.cell 0
  have y8 : w2.cell? ⟨q, 8, none⟩ = some (.int .i64 c.read) := HM2.out.cell 8
  have d89 : w2.cell? ⟨b, 89, none⟩ = some (.pointer (some ⟨t, 0, none⟩)) := by rw [← Hy.out]; exact hC2.ft 5
  have d88 : w2.cell? ⟨b, 88, none⟩ = some (.int .i64 c.read) := hC2.ft 4
  have e3 : (c.read == c.read) = true := by simp
  clear hC2 hT HCl HM1 HB1 HA1 HT0 hq c0 c1 c3 c4
  go_wp2_with fail
  go_quiet (fail)
  go_wp2_with fail
  have HC3 := Lib.hid (HC2.out.drewN nq)
  have HA3 := Lib.hid (HA2.out.drewN nq)
  have HM3 := Lib.hid (HM2.out.drewN nq)
  have HX3 := Lib.hid (HX2.out.drewN nq)
  clear HC2 HA2 HM2 HX2 y0 y8 d89 d88
  generalize w2.drewN nq = w3 at HC3 HA3 HM3 HX3 ⊢
  have HK := Lib.hid (fun w' (hb : Below w3.heap.size w3 w') => (And.intro (show w'.cell? ⟨b, 89, none⟩ = some (.pointer (some ⟨t, 0, none⟩)) by rw [← Hy.out]; exact (HC3.out.below hb).ft 5) (show w'.cell? ⟨q, 1, none⟩ = some (.int .i64 (v : Int)) from (HM3.out.below hb).cell 1)))
  have hk0 := HK.out w3.drew (Below.refl _ _).drew
  have HAd := Lib.hid (add_any t n M (v : Int) w3.drew HA3.out)
  go_region_held3 (fun w' => w'.cell? ⟨b, 89, none⟩ = some (.pointer (some ⟨t, 0, none⟩)) ∧ w'.cell? ⟨q, 1, none⟩ = some (.int .i64 (v : Int)))
    (first | with_reducible exact hk0 | with_reducible exact hk2 | go_keep)
    ((go_at_call 83; refine HAd.out.mono ?_; rintro e w4 ⟨rfl, hT4, ht4⟩; have hk2 : w4.cell? ⟨b, 89, none⟩ = some (.pointer (some ⟨t, 0, none⟩)) ∧ w4.cell? ⟨q, 1, none⟩ = some (.int .i64 (v : Int)) := ⟨by rw [← Hy.out]; exact CoordAt.ft ⟨HC3.out.drew.1.touch ht4 (Ne.symm htb), HC3.out.2⟩ 5, (HM3.out.drew.touch ht4 (Ne.symm htq)).cell 1⟩))
  have C4 : CoordAt w4 b { c with peers := X } := ⟨HC3.out.drew.1.touch ht4 (Ne.symm htb), HC3.out.2⟩
  have HF := Lib.hid (And.intro C4 (And.intro hT4 ((HX3.out.drew.mono (fun k _ e => Or.inl e)).trans (ht4.mono (fun k _ e => Or.inr e)))))
  clear C4 hT4 ht4 hk2 hk0 HK HAd HC3 HA3 HM3 HX3
  go_wp2_with fail
  go_end0
  exact ⟨rfl, HF.out.1, HF.out.2.1, HF.out.2.2⟩
end Go.Proofs.YtaemlplcjjbamaaGreatDoor
