/- Small lemmas of our own that every walk uses: numbers in end -/
import Derived.WalkSpells
import Derived.WalkLawsBesides
import Derived.Lib.Hide
import Derived.BigQuiet
import Derived.Deep.DeepCutAuto
import Derived.Deep.RegionHeld3
import Derived.Test.YtaemlplcjjbamaaGreatDoorRows
namespace Go.Proofs.YtaemlplcjjbamaaGreatDoor
open Go.Lib (hid)
set_option maxRecDepth 100000
set_option maxHeartbeats 8000000
open Go.RowKit
variable {P : Program} {Q : Exit → Act → World → Prop} {T T' e e' : TypeId} {a w w' w1 wx : World} {ad : Option Addr} {args : Array Value} {b b' base base' fuel g i n n' q size sz sz' : Nat} {cs cs' xs xs' : List Value} {l : List Int} {listed : Array Bool} {o oi : Oper} {ops : Array Oper} {rest : List Oper} {row : Option Nat} {rs : List Nat} {ss : List ByteArray} {v v' x0 x1 x10 x11 x12 x13 x2 x3 x4 x5 x6 x7 x8 x9 : Value}
theorem zAk {k : IntKind} {a b : Int} (h : a = b) : Ending.returned (.int k a) = .returned (.int k b) := by rw [h]
theorem zBa {a b : Bool} (h : a = b) : Ending.returned (.bool a) = .returned (.bool b) := by rw [h]
theorem zEV {k : IntKind} {a b : Int} (h : a = b) : Value.int k a = .int k b := by rw [h]
theorem zHv (s : ByteArray) (k : Nat) (h : k < s.size) : s.data.toList.take (k + 1) = s.data.toList.take k ++ [s[k]] := by
 rw [List.take_succ_eq_append_getElem (by simpa using h)]; rfl
theorem zCS {a : Act} (hgd : o.guard = none) (s x : Operand) (t : TypeId)
  (ho : o.op = .call { callee := .builtin .append, args := #[s, x], argTypes := #[t, t] })
  (base : Nat) (e : TypeId) (size bytes : Nat) (ht : P.underlying t = some (.slice e)) (z : Value) (hi : (P.info? e).map (fun i => (i.zero, i.size, i.bytes)) = some (some z, size, bytes))
  (hzs : z.cells.size = size) (hsz : 0 < size)
  (v : Value) (n : Nat) (xs : List Value) (hs : a.eval s = v) (hown : w.ownsRow base e size v n xs)
  (news : List Value) (hx : a.eval x = .slice (some ⟨w.heap.size, 0, none⟩) 1 1) (hl : news.length = size) (h1 : ∀ u ∈ news, u.oneCell' = true)
  (h63 : n + 1 ≤ maxLen) (hbytes : (n + 1) * bytes ≤ 140737488355328) (hbase : base ≤ w.heap.size)
  (h : ∀ v' w', w'.ownsRow base e size v' (n + 1) (xs ++ news) → Below base w w' → wpList P ops Q rest (a.put o.dst v') w') : wpList P ops Q (o :: rest) a (w.alloc (.cells news.toArray e)) := by
 obtain ⟨i0, hi, hz0, hz1, hz2⟩ := info_parts hi
 refine wpList_append_own _ hgd s x t ho base e i0 z size bytes ht hi hz0 hz1 hz2 hzs hsz v n xs hs (hown.alloc _) ⟨w.heap.size, 0, none⟩ 1 1 news hx (by omega) ?_ h1 h63 hbytes (by simp; omega) ?_
 ·intro j u hj
  have e1 : (⟨w.heap.size, 0, none⟩ : Addr).add j = ⟨w.heap.size, j, none⟩ := by
   unfold Addr.add
   split
   ·subst j; rfl
   ·simp
  rw [e1, World.cell?_alloc_new]
  simpa using hj
 ·intro v' w' hown' hg _
  exact h v' w' hown' (((Below.refl _ _).alloc hbase _).grown hg (by simp; omega) (fun k hk => (hown.lt k hk).1))
theorem row_open (h : w.ownsRow base e 1 v n xs) :
  ∃ ad cap, v = .slice ad n cap ∧ n ≤ cap ∧ cap ≤ maxLen ∧ xs.length = n ∧ (ad = none → n = 0) ∧ (∀ x, ad = some x → ∃ g, x = ⟨g, 0, none⟩ ∧ base ≤ g ∧ g < w.heap.size ∧ (∀ k, k < n → w.cell? ⟨g, k, none⟩ = xs[k]?)) := by
 have hh := h
 obtain ⟨h1, h2⟩ := h
 rcases h2 with ⟨rfl, rfl⟩ | ⟨g, cap, cur, rfl, hg, hb, hn, hc, hs, ht⟩
 ·exact ⟨none, 0, rfl, Nat.le_refl _, Nat.zero_le _, by omega, fun _ => rfl, fun x hx => by cases hx⟩
 ·refine ⟨some ⟨g, 0, none⟩, cap, rfl, hn, hc, by omega, fun hx => (by cases hx), ?_⟩
  intro x hx
  cases hx
  refine ⟨g, rfl, hg, ?_, ?_⟩
  ·exact (hh.lt g rfl).2
  ·intro k hk
   exact hh.cellAt k (by omega)
theorem zAd (h : Below w.heap.size w wx) (h2 : Below wx.heap.size wx w1) : Below w.heap.size w w1 := h.trans (h2.mono h.size)
theorem below_drewN {B : Nat} (h : Below B a w) (n : Nat) : Below B a (w.drewN n) := ⟨h.os, h.tape, h.output, h.size, h.block⟩
theorem zCU (h : Below w.heap.size w w') (row : Option Nat) : w.grownBy w' row := ⟨h.os, h.tape, h.output, h.size, fun k hk _ => h.block k hk⟩
theorem zAc (h : w.ownsRow base e size v n xs) (hb : Below w.heap.size w w') : w'.ownsRow base e size v n xs := by
 refine h.kept (row := none) (zCU hb none) ?_
 by_cases hv : v.ownBlock = none
 ·exact Or.inl hv
 ·exact Or.inr hv
theorem zAf {f : FuncId} 
  (h : Calls P f args (w.drewN n) fun e w' => e = .returned v ∧ w.drewN n = w') : Calls P f args (w.drewN n) fun e w'' => e = .returned v ∧ ∃ m, w'' = w.drewN m :=
 h.mono fun _ _ ⟨he, hm⟩ => ⟨he, n, hm.symm⟩
theorem zGv (t e : TypeId) (i : TypeInfo) (z : Value) (ht : P.underlying t = some (.slice e)) (hi : P.info? e = some i) (hz : i.zero = some z)
  (kl kc : IntKind) (n c : Nat) (hnc : n ≤ c) (hbytes : i.bytes * c ≤ 281474976710656) (h63 : c ≤ 9223372036854775807) (w : World) :
  (Instr.makeSlice t (.int kl (n : Int)) (.int kc (c : Int))).run P w = .ok (.slice (some ⟨w.heap.size, 0, none⟩) n c) (w.alloc (.cells (madeCells z.cells (c * i.size)) e)) := by
 have hb : (i.bytes : Int) * (c : Int) ≤ 281474976710656 := by
  have h : ((i.bytes * c : Nat) : Int) ≤ 281474976710656 := by omega
  rwa [Int.natCast_mul] at h
 have hr := run_make (P := P) w t e i z ht hi hz kl kc n c (by omega) (by omega) hb (by omega)
 simp only [Int.toNat_natCast] at hr
 exact hr
theorem zBT (t e : TypeId) (z : Value) (bytes : Nat) (ht : P.underlying t = some (.slice e)) (hi : (P.info? e).map (fun i => (i.zero, i.size, i.bytes)) = some (some z, 1, bytes)) (hz : z.cells = #[z])
  (n : Nat) (hbytes : bytes * n ≤ 281474976710656) (h63 : n ≤ 9223372036854775807) (w : World) :
  (Instr.makeSlice t (.int .i64 (n : Int)) (.int .i64 (n : Int))).run P w = .ok (.slice (some ⟨w.heap.size, 0, none⟩) n n) (w.alloc (.cells (Array.replicate n z) e)) := by
 obtain ⟨i0, hi, hz0, hz1, hz2⟩ := info_parts hi
 have h := zGv t e i0 z ht hi hz0 .i64 .i64 n n (Nat.le_refl _) (by rw [hz2]; exact hbytes) h63 w
 rw [hz1, Nat.mul_one, hz] at h
 rw [h, ← List.toArray_replicate, ← toList_madeCells_one]
theorem addr_add (g j : Nat) : (⟨g, 0, none⟩ : Addr).add j = ⟨g, j, none⟩ := by
 unfold Addr.add
 split
 ·subst j; rfl
 ·simp
def zHZ (w : World) (ad : Option Addr) (ss : List ByteArray) : Prop :=
 ss = [] ∨ ∃ b off, ad = some ⟨b, off, none⟩ ∧ b < w.heap.size ∧ ∀ k (hk : k < ss.length), w.cell? ⟨b, off + k, none⟩ = some (.string ss[k])
theorem zEb (h : zHZ w ad ss) (hb : Below w.heap.size w w') : zHZ w' ad ss := by
 rcases h with h | ⟨b, off, h1, h2, h3⟩
 ·exact Or.inl h
 ·exact Or.inr ⟨b, off, h1, Nat.lt_of_lt_of_le h2 hb.size, fun k hk => by rw [hb.cell (p := ⟨b, off + k, none⟩) h2]; exact h3 k hk⟩
def ReadsStrs (w : World) (v : Value) (ss : List ByteArray) : Prop := ∃ ad cap, v = .slice ad ss.length cap ∧ zHZ w ad ss
theorem zCs (h : w.ownsRow base e 1 v ss.length (ss.map Value.string)) : ReadsStrs w v ss := by
 obtain ⟨ad, cap, hv, hcap, hmax, hlen, hnil, hsome⟩ := row_open h
 refine ⟨ad, cap, hv, ?_⟩
 cases ad with
 | none => left; exact List.length_eq_zero_iff.1 (hnil rfl)
 | some x =>
  obtain ⟨g, rfl, hg1, hg2, hcell⟩ := hsome x rfl
  right
  refine ⟨g, 0, rfl, hg2, fun k hk => ?_⟩
  rw [Nat.zero_add, hcell k hk, List.getElem?_map, List.getElem?_eq_getElem hk]
  rfl
theorem zAB (h : w.ownsRow base e sz v n xs) (hb : base' ≤ base) : w.ownsRow base' e sz v n xs := by
 obtain ⟨h1, h2⟩ := h
 refine ⟨h1, ?_⟩
 rcases h2 with h2 | ⟨g, cap, cur, hv, hg, r⟩
 ·exact Or.inl h2
 ·exact Or.inr ⟨g, cap, cur, hv, Nat.le_trans hb hg, r⟩
theorem zAe (h : w.ownsRow base e sz v n xs) : ∃ ad cap, v = .slice ad n cap := by
 rcases h.2 with ⟨rfl, rfl⟩ | ⟨g, cap, cur, rfl, _⟩
 ·exact ⟨none, 0, rfl⟩
 ·exact ⟨_, cap, rfl⟩
def zEK (k : IntKind) (w : World) (ad : Option Addr) (l : List Int) : Prop :=
 l = [] ∨ ∃ b off, ad = some ⟨b, off, none⟩ ∧ b < w.heap.size ∧ ∀ i (hi : i < l.length), w.cell? ⟨b, off + i, none⟩ = some (.int k l[i])
theorem zIq {k : IntKind} (h : zEK k w ad l) (hb : Below w.heap.size w w') : zEK k w' ad l := by
 rcases h with h | ⟨b, off, h1, h2, h3⟩
 ·exact Or.inl h
 ·exact Or.inr ⟨b, off, h1, Nat.lt_of_lt_of_le h2 hb.size, fun i hi => by rw [hb.cell (p := ⟨b, off + i, none⟩) h2]; exact h3 i hi⟩
theorem zDx (a : Nat) (ha : a < 9223372036854775808) : (BitVec.ofInt 64 (a : Int)).toNat = a := by
 rw [BitVec.ofInt_natCast, BitVec.toNat_ofNat]; exact Nat.mod_eq_of_lt (by omega)
theorem zIz (a b : Nat) (ha : a < 9223372036854775808) (hb : b < 9223372036854775808) : bits .and .i64 (a : Int) (b : Int) = ((a &&& b : Nat) : Int) := by
 have hx : a &&& b < 2 ^ 63 := Nat.and_lt_two_pow _ (by omega)
 show IntKind.i64.wrap ((BitVec.ofInt 64 (a : Int) &&& BitVec.ofInt 64 (b : Int)).toNat : Int) = _
 rw [BitVec.toNat_and, zDx a ha, zDx b hb, IntKind.wrap_i64]
 omega
theorem i64_or_nat (a b : Nat) (ha : a < 9223372036854775808) (hb : b < 9223372036854775808) : bits .or .i64 (a : Int) (b : Int) = ((a ||| b : Nat) : Int) := by
 have hx : a ||| b < 2 ^ 63 := Nat.or_lt_two_pow (by omega) (by omega)
 show IntKind.i64.wrap ((BitVec.ofInt 64 (a : Int) ||| BitVec.ofInt 64 (b : Int)).toNat : Int) = _
 rw [BitVec.toNat_or, zDx a ha, zDx b hb, IntKind.wrap_i64]
 omega
theorem i64_join (i x y : Nat) (hx : x < 2 ^ i) (hi : (y * 2 ^ i) < 4611686018427387904) (hx2 : x < 4611686018427387904) : bits .or .i64 (x : Int) ((y * 2 ^ i : Nat) : Int) = ((x + y * 2 ^ i : Nat) : Int) := by
 rw [i64_or_nat _ _ (by omega) (by omega), Nat.or_comm, nat_join i (y * 2 ^ i) x (Nat.mul_mod_left _ _) hx, Nat.add_comm]
def Blk (w : World) (b : Nat) (cs : List Value) (T : TypeId) : Prop := w.heap[b]? = some (.cells cs.toArray T (0, 0))
theorem Blk.lt (h : Blk w b cs T) : b < w.heap.size := by
 rcases Nat.lt_or_ge b w.heap.size with h' | h'
 ·exact h'
 ·unfold Blk at h; simp [Array.getElem?_eq_none h'] at h
theorem Blk.cell (h : Blk w b cs T) (j : Nat) : w.cell? ⟨b, j, none⟩ = cs[j]? := by
 rw [Lib.cell_of_heap h]; simp
theorem Blk.free (h : Blk w b cs T) (j : Nat) : w.frozen? ⟨b, j, none⟩ = false := Lib.frozen_of_heap h j
theorem Blk.set (h : Blk w b cs T) (j : Nat) (v : Value) : Blk (w.setCell ⟨b, j, none⟩ v) b (cs.set j v) T := by
 unfold Blk at h ⊢
 simp [World.setCell, Array.getElem?_modify, h]
theorem Blk.set_other (h : Blk w b cs T) {a : Addr} (ha : b ≠ a.block) (v : Value) : Blk (w.setCell a v) b cs T := by
 unfold Blk at h ⊢
 rw [Below.heap_setCell w a v b ha]; exact h
theorem Blk.alloc (h : Blk w b cs T) (o : Obj) : Blk (w.alloc o) b cs T := by
 have hl := h.lt
 unfold Blk at h ⊢
 rw [Below.heap_alloc w o b hl]; exact h
theorem Blk.new (w : World) (cs : List Value) (T : TypeId) : Blk (w.alloc (.cells cs.toArray T)) w.heap.size cs T := heap_alloc_new w _
theorem Blk.drew (h : Blk w b cs T) : Blk w.drew b cs T := h
theorem Blk.drewN (h : Blk w b cs T) (n : Nat) : Blk (w.drewN n) b cs T := h
theorem Blk.ne (h : Blk w b cs T) (h' : Blk w b' cs' T') (hT : T ≠ T') : b ≠ b' := by
 intro e
 subst e
 unfold Blk at h h'
 rw [h] at h'
 simp at h'
 exact hT h'.2
structure Touch (S : Nat → Prop) (w w' : World) : Prop where
 os : w'.os = w.os
 tape : w'.tape = w.tape
 output : w'.output = w.output
 size : w.heap.size ≤ w'.heap.size
 block : ∀ k, k < w.heap.size → ¬ S k → w'.heap[k]? = w.heap[k]?
theorem Touch.refl (S : Nat → Prop) (w : World) : Touch S w w := ⟨rfl, rfl, rfl, Nat.le_refl _, fun _ _ _ => rfl⟩
theorem Touch.trans {S : Nat → Prop} {a b c : World} (h : Touch S a b) (k : Touch S b c) : Touch S a c :=
 ⟨k.os.trans h.os, k.tape.trans h.tape, k.output.trans h.output, Nat.le_trans h.size k.size, fun i hi hS => (k.block i (Nat.lt_of_lt_of_le hi h.size) hS).trans (h.block i hi hS)⟩
theorem Touch.mono {S S' : Nat → Prop} {a b : World} (h : Touch S a b) (hS : ∀ k, k < a.heap.size → S k → S' k) : Touch S' a b :=
 ⟨h.os, h.tape, h.output, h.size, fun i hi hn => h.block i hi (fun hs => hn (hS i hi hs))⟩
theorem Touch.drew {S : Nat → Prop} (h : Touch S a w) : Touch S a w.drew := ⟨h.os, h.tape, h.output, h.size, h.block⟩
theorem Touch.drewN {S : Nat → Prop} (h : Touch S a w) (n : Nat) : Touch S a (w.drewN n) := ⟨h.os, h.tape, h.output, h.size, h.block⟩
theorem Touch.alloc {S : Nat → Prop} (h : Touch S a w) (o : Obj) : Touch S a (w.alloc o) :=
 ⟨h.os, h.tape, h.output, Nat.le_trans h.size (by simp), fun i hi hn => (Below.heap_alloc w o i (Nat.lt_of_lt_of_le hi h.size)).trans (h.block i hi hn)⟩
theorem Touch.set {S : Nat → Prop} (h : Touch S a w) {p : Addr} (hp : S p.block ∨ a.heap.size ≤ p.block) (v : Value) : Touch S a (w.setCell p v) :=
 ⟨h.os, h.tape, h.output, by simpa [World.setCell] using h.size, fun i hi hn => (Below.heap_setCell w p v i (by
  rintro rfl
  rcases hp with hp | hp
  ·exact hn hp
  ·omega)).trans (h.block i hi hn)⟩
theorem Touch.of_below {S : Nat → Prop} (h : Below w.heap.size w w') : Touch S w w' := ⟨h.os, h.tape, h.output, h.size, fun i hi _ => h.block i hi⟩
theorem Touch.below {S : Nat → Prop} {B : Nat} (h : Touch S w w') (hB : B ≤ w.heap.size) (hS : ∀ k, k < B → ¬ S k) : Below B w w' := ⟨h.os, h.tape, h.output, h.size, fun k hk => h.block k (by omega) (hS k hk)⟩
theorem Touch.cell {S : Nat → Prop} (h : Touch S w w') {p : Addr} (hp : p.block < w.heap.size) (hS : ¬ S p.block) : w'.cell? p = w.cell? p := World.cell?_of_block (w := w) (h.block p.block hp hS)
theorem Blk.touch {S : Nat → Prop} (h : Blk w b cs T) (ht : Touch S w w') (hS : ¬ S b) : Blk w' b cs T := by
 have hl := h.lt
 unfold Blk at h ⊢
 rw [ht.block b hl hS]; exact h
theorem Blk.below (h : Blk w b cs T) (hb : Below w.heap.size w w') : Blk w' b cs T := by
 have hl := h.lt
 unfold Blk at h ⊢
 rw [hb.block b hl]; exact h
theorem zAv {fn : Func} {t u v x : Tmp} (h : fn.results = #[.tmp t, .tmp u, .tmp v, .tmp x]) (tmps : Array Value) (P : Program) (w : World) :
  (results fn tmps).run P w = .ok (.tuple #[tmps.getD t undef, tmps.getD u undef, tmps.getD v undef, tmps.getD x undef]) w := by simp [results, h]
theorem zAH {a : Act} (hgd : o.guard = none) (s x : Operand) (t : TypeId)
  (ho : o.op = .call { callee := .builtin .append, args := #[s, x], argTypes := #[t, t] })
  (base : Nat) (e : TypeId) (size bytes : Nat) (ht : P.underlying t = some (.slice e)) (z : Value) (hi : (P.info? e).map (fun i => (i.zero, i.size, i.bytes)) = some (some z, size, bytes))
  (hzs : z.cells.size = size) (hsz : 0 < size)
  (v : Value) (n : Nat) (xs : List Value) (hs : a.eval s = v) (hown : w.ownsRow base e size v n xs) (H : Nat) (hH : w.heap.size = H)
  (news : List Value) (hx : a.eval x = .slice (some ⟨H, 0, none⟩) 1 1) (hl : news.length = size) (h1 : ∀ u ∈ news, u.oneCell' = true)
  (h63 : n + 1 ≤ maxLen) (hbytes : (n + 1) * bytes ≤ 140737488355328) (hbase : base ≤ w.heap.size)
  (h : ∀ v' w', w'.ownsRow base e size v' (n + 1) (xs ++ news) → Below base w w' → wpList P ops Q rest (a.put o.dst v') w') : wpList P ops Q (o :: rest) a (w.alloc (.cells news.toArray e)) := by
 subst hH
 exact zCS hgd s x t ho base e size bytes ht z hi hzs hsz v n xs hs hown news hx hl h1 h63 hbytes hbase h
theorem zAz (h : w.ownsRow base e size v n xs) (hn : 0 < n) :
  ∃ g cap, v = .slice (some ⟨g, 0, none⟩) n cap ∧ base ≤ g ∧ g < w.heap.size ∧ n ≤ cap ∧ cap ≤ maxLen ∧ ∀ j, j < n * size → w.cell? ⟨g, j, none⟩ = xs[j]? := by
 have hh := h
 obtain ⟨h1, h2⟩ := h
 rcases h2 with ⟨rfl, rfl⟩ | ⟨g, cap, cur, rfl, hg, hb, hnc, hc, hs, ht⟩
 ·omega
 ·exact ⟨g, cap, rfl, hg, (hh.lt g rfl).2, hnc, hc, fun j hj => hh.cellAt j hj⟩
theorem zAj {S : Nat → Prop} (h : w.ownsRow base e sz v n xs) (ht : Touch S w w') (hS : ∀ g, v.ownBlock = some g → ¬ S g) : w'.ownsRow base e sz v n xs := by
 have hh := h
 obtain ⟨h1, h2⟩ := h
 refine ⟨h1, ?_⟩
 rcases h2 with ⟨rfl, rfl⟩ | ⟨g, cap, cur, rfl, hg, hb, r⟩
 ·exact Or.inl ⟨rfl, rfl⟩
 ·refine Or.inr ⟨g, cap, cur, rfl, hg, ?_, r⟩
  rw [ht.block g (hh.lt g rfl).2 (hS g rfl)]
  exact hb
theorem zAp (h : w.ownsRow base e sz v n xs) (hb : Blk w b cs T) (hT : e ≠ T) : v.ownBlock ≠ some b := by
 obtain ⟨h1, h2⟩ := h
 rcases h2 with ⟨rfl, rfl⟩ | ⟨g, cap, cur, rfl, hg, hh, r⟩
 ·simp [Value.ownBlock]
 ·intro he
  have hgb : g = b := by simpa [Value.ownBlock] using he
  subst hgb
  unfold Blk at hb
  rw [hh] at hb
  simp at hb
  exact hT hb.2
theorem zCf (h : w.ownsRow base e sz v n xs) (h' : w.ownsRow base' e' sz' v' n' xs') (hT : e ≠ e') (hg : v.ownBlock = some g) : v'.ownBlock ≠ some g := by
 obtain ⟨h1, h2⟩ := h
 rcases h2 with ⟨rfl, rfl⟩ | ⟨g1, cap, cur, rfl, hg1, hh, r⟩
 ·simp [Value.ownBlock] at hg
 ·have hgg : g1 = g := by simpa [Value.ownBlock] using hg
  subst hgg
  have hb : Blk w g1 cur.toList e := by unfold Blk; rw [hh]
  exact zAp h' hb (fun e => hT e.symm)
theorem zCe (h : w.ownsRow base e sz v n xs) (hg : v.ownBlock = some g) : base ≤ g ∧ g < w.heap.size := h.lt g hg
theorem zAm {S : Nat → Prop} (h : Touch S a w) (hg : w.grownBy w' row) (hr : ∀ g, row = some g → S g ∨ a.heap.size ≤ g) : Touch S a w' :=
 ⟨hg.os.trans h.os, hg.tape.trans h.tape, hg.output.trans h.output, Nat.le_trans h.size hg.size, fun k hk hn => by
  rw [hg.block k (Nat.lt_of_lt_of_le hk h.size) (fun e => by
   rcases hr k e.symm with h1 | h1
   ·exact hn h1
   ·omega)]
  exact h.block k hk hn⟩
theorem zAr (h : Blk w b cs T) (hg : w.grownBy w' row) (hr : row ≠ some b) : Blk w' b cs T := by
 have hl := h.lt
 unfold Blk at h ⊢
 rw [hg.block b hl (fun e => hr e.symm)]
 exact h
theorem row_grown (h : w.ownsRow base e sz v n xs) (hg : w.grownBy w' row) (hr : ∀ g, v.ownBlock = some g → row ≠ some g) : w'.ownsRow base e sz v n xs := by
 have hh := h
 obtain ⟨h1, h2⟩ := h
 refine ⟨h1, ?_⟩
 rcases h2 with ⟨rfl, rfl⟩ | ⟨g, cap, cur, rfl, hg1, hb, r⟩
 ·exact Or.inl ⟨rfl, rfl⟩
 ·refine Or.inr ⟨g, cap, cur, rfl, hg1, ?_, r⟩
  rw [hg.block g (hh.lt g rfl).2 (fun e => hr g rfl e.symm)]
  exact hb
theorem zAx {a : Act} (hgd : o.guard = none) (s x : Operand) (t : TypeId)
  (ho : o.op = .call { callee := .builtin .append, args := #[s, x], argTypes := #[t, t] })
  (base : Nat) (e : TypeId) (size bytes : Nat) (ht : P.underlying t = some (.slice e)) (z : Value) (hi : (P.info? e).map (fun i => (i.zero, i.size, i.bytes)) = some (some z, size, bytes))
  (hzs : z.cells.size = size) (hsz : 0 < size)
  (v : Value) (n : Nat) (xs : List Value) (hs : a.eval s = v) (hown : w.ownsRow base e size v n xs) (H : Nat) (hH : w.heap.size = H)
  (news : List Value) (hx : a.eval x = .slice (some ⟨H, 0, none⟩) 1 1) (hl : news.length = size) (h1 : ∀ u ∈ news, u.oneCell' = true)
  (h63 : n + 1 ≤ maxLen) (hbytes : (n + 1) * bytes ≤ 140737488355328) (hbase : base ≤ w.heap.size)
  (h : ∀ v' w', w'.ownsRow base e size v' (n + 1) (xs ++ news) → (w.alloc (.cells news.toArray e)).grownBy w' v.ownBlock → wpList P ops Q rest (a.put o.dst v') w') : wpList P ops Q (o :: rest) a (w.alloc (.cells news.toArray e)) := by
 subst hH
 obtain ⟨i0, hi, hz0, hz1, hz2⟩ := info_parts hi
 refine wpList_append_own _ hgd s x t ho base e i0 z size bytes ht hi hz0 hz1 hz2 hzs hsz v n xs hs (hown.alloc _) ⟨w.heap.size, 0, none⟩ 1 1 news hx (by omega) ?_ h1 h63 hbytes (by simp; omega) ?_
 ·intro j u hj
  rw [addr_add, World.cell?_alloc_new]
  simpa using hj
 ·intro v' w' hown' hg _
  exact h v' w' hown' hg
open Go Go.RowKit
set_option linter.unusedVariables false
structure MG where
 k : Int
 fr : Int
 to_ : Int
 bal : Int
 gen : Int
 bas : Int
 fl : Int
 tp : Int
 rd : Int
 mrk : ByteArray
 pa : Int
 po : Int
 pt : ByteArray
 la : Option Addr
 ll : Nat
 lc : Nat
def MG.vals (m : MG) : List Value := [.int .i64 m.k, .int .i64 m.fr, .int .i64 m.to_, .int .i64 m.bal, .int .i64 m.gen, .int .i64 m.bas, .int .i64 m.fl, .int .i64 m.tp, .int .i64 m.rd, .string m.mrk, .int .i64 m.pa, .int .i64 m.po, .string m.pt, .slice m.la m.ll m.lc]
def MG.zero : MG := ⟨0, 0, 0, 0, 0, 0, 0, 0, 0, ⟨#[]⟩, 0, 0, ⟨#[]⟩, none, 0, 0⟩
def MG.num (m : MG) (c : Int) : Int := if c = 66 then m.bal else if c = 71 then m.gen else if c = 83 then m.bas else if c = 70 then m.fl else if c = 84 then m.tp else m.rd
def MG.setN (m : MG) (c n : Int) : MG := if c = 66 then { m with bal := n } else if c = 71 then { m with gen := n } else if c = 83 then { m with bas := n } else if c = 70 then { m with fl := n } else if c = 84 then { m with tp := n } else { m with rd := n }
def NumL (c : Int) : Prop := c = 66 ∨ c = 71 ∨ c = 83 ∨ c = 70 ∨ c = 84 ∨ c = 82
def fieldsOf (k : Int) : ByteArray :=
 if k = 1 ∨ k = 3 then ⟨#[66]⟩ else if k = 2 then ⟨#[66, 70, 84, 76]⟩ else if k = 4 then ⟨#[66, 71, 83, 77, 80]⟩ else if k = 5 then ⟨#[66, 71, 84, 82, 77]⟩
 else if k = 6 ∨ k = 7 ∨ k = 8 then ⟨#[66, 71, 77]⟩ else if k = 9 then ⟨#[71, 77]⟩ else if k = 10 then ⟨#[70, 84]⟩ else if k = 11 then ⟨#[66, 82]⟩ else if k = 12 then ⟨#[66, 70, 84, 82]⟩
 else if k = 13 ∨ k = 14 then ⟨#[71, 77, 80]⟩ else if k = 15 then ⟨#[66, 70]⟩ else if k = 16 then ⟨#[66, 70, 84]⟩ else if k = 17 then ⟨#[66, 71]⟩ else ⟨#[]⟩
def zCG (k : Int) : Prop := k = 1 ∨ k = 2 ∨ k = 3 ∨ k = 4 ∨ k = 5 ∨ k = 6 ∨ k = 7 ∨ k = 8 ∨ k = 9 ∨ k = 10 ∨ k = 11 ∨ k = 12 ∨ k = 13 ∨ k = 14 ∨ k = 15 ∨ k = 16 ∨ k = 17
theorem zDP (k : Int) (hk : zCG k) (w : World) : Calls Tryz.prog 48 #[.int .i64 k] w fun e w' => e = .returned (.string (fieldsOf k)) ∧ w = w' := by
 rcases hk with rfl | rfl | rfl | rfl | rfl | rfl | rfl | rfl | rfl | rfl | rfl | rfl | rfl | rfl | rfl | rfl | rfl
 all_goals
  go_enter Tryz.func48, Tryz.ntmps48
  go_wp2
  go_ret
  exact ⟨rfl, rfl⟩
theorem fits_any (n : Int) (w : World) (h0 : 0 ≤ n) (h1 : n ≤ 4611686018427387903) : Calls Tryz.prog 77 #[.int .i64 n] w fun e w' => e = .returned (.bool true) ∧ w = w' := by
 go_enter Tryz.func77, Tryz.ntmps77
 go_wp2
 go_ret
 exact ⟨rfl, rfl⟩
theorem zFS (m : MG) (c : Int) (hc : NumL c) (w : World) : Calls Tryz.prog 50 #[.agg #[.int .i64 m.k, .int .i64 m.fr, .int .i64 m.to_, .int .i64 m.bal, .int .i64 m.gen, .int .i64 m.bas, .int .i64 m.fl, .int .i64 m.tp, .int .i64 m.rd, .string m.mrk, .int .i64 m.pa, .int .i64 m.po, .string m.pt, .slice m.la m.ll m.lc], .int .u8 c] w fun e w' => e = .returned (.int .i64 (m.num c)) ∧ Below w.heap.size w w' := by
 have HB := hid ((Below.refl w.heap.size w).alloc (Nat.le_refl _) (.cells #[.int .i64 m.k, .int .i64 m.fr, .int .i64 m.to_, .int .i64 m.bal, .int .i64 m.gen, .int .i64 m.bas, .int .i64 m.fl, .int .i64 m.tp, .int .i64 m.rd, .string m.mrk, .int .i64 m.pa, .int .i64 m.po, .string m.pt, .slice m.la m.ll m.lc] 30))
 rcases hc with rfl | rfl | rfl | rfl | rfl | rfl
 all_goals
  go_enter Tryz.func50, Tryz.ntmps50
  go_wp2
  go_ret
  exact ⟨rfl, HB.out⟩
def SetSays (m : MG) (c n : Int) (w : World) (e : Ending) (w' : World) : Prop := ∃ o : MG, Hid (o = m.setN c n) ∧ e = .returned (.agg #[.int .i64 o.k, .int .i64 o.fr, .int .i64 o.to_, .int .i64 o.bal, .int .i64 o.gen, .int .i64 o.bas, .int .i64 o.fl, .int .i64 o.tp, .int .i64 o.rd, .string o.mrk, .int .i64 o.pa, .int .i64 o.po, .string o.pt, .slice o.la o.ll o.lc]) ∧ Below w.heap.size w w'
theorem set_any (m : MG) (c n : Int) (hc : NumL c) (w : World) : Calls Tryz.prog 49 #[.agg #[.int .i64 m.k, .int .i64 m.fr, .int .i64 m.to_, .int .i64 m.bal, .int .i64 m.gen, .int .i64 m.bas, .int .i64 m.fl, .int .i64 m.tp, .int .i64 m.rd, .string m.mrk, .int .i64 m.pa, .int .i64 m.po, .string m.pt, .slice m.la m.ll m.lc], .int .u8 c, .int .i64 n] w (SetSays m c n w) := by
 have HB := hid (fun o1 o2 : Obj => ((Below.refl w.heap.size w).alloc (Nat.le_refl _) o1).alloc (by simp) o2)
 rcases hc with rfl | rfl | rfl | rfl | rfl | rfl
 ·go_enter Tryz.func49, Tryz.ntmps49
  go_wp2
  refine bodyPost_ret (v := .agg #[.int .i64 m.k, .int .i64 m.fr, .int .i64 m.to_, .int .i64 n, .int .i64 m.gen, .int .i64 m.bas, .int .i64 m.fl, .int .i64 m.tp, .int .i64 m.rd, .string m.mrk, .int .i64 m.pa, .int .i64 m.po, .string m.pt, .slice m.la m.ll m.lc]) (by simp [results, Tryz.results49, go_sem]) rfl ?_
  exact ⟨{ m with bal := n }, hid rfl, rfl, HB.out _ _⟩
 ·go_enter Tryz.func49, Tryz.ntmps49
  go_wp2
  refine bodyPost_ret (v := .agg #[.int .i64 m.k, .int .i64 m.fr, .int .i64 m.to_, .int .i64 m.bal, .int .i64 n, .int .i64 m.bas, .int .i64 m.fl, .int .i64 m.tp, .int .i64 m.rd, .string m.mrk, .int .i64 m.pa, .int .i64 m.po, .string m.pt, .slice m.la m.ll m.lc]) (by simp [results, Tryz.results49, go_sem]) rfl ?_
  exact ⟨{ m with gen := n }, hid rfl, rfl, HB.out _ _⟩
 ·go_enter Tryz.func49, Tryz.ntmps49
  go_wp2
  refine bodyPost_ret (v := .agg #[.int .i64 m.k, .int .i64 m.fr, .int .i64 m.to_, .int .i64 m.bal, .int .i64 m.gen, .int .i64 n, .int .i64 m.fl, .int .i64 m.tp, .int .i64 m.rd, .string m.mrk, .int .i64 m.pa, .int .i64 m.po, .string m.pt, .slice m.la m.ll m.lc]) (by simp [results, Tryz.results49, go_sem]) rfl ?_
  exact ⟨{ m with bas := n }, hid rfl, rfl, HB.out _ _⟩
 ·go_enter Tryz.func49, Tryz.ntmps49
  go_wp2
  refine bodyPost_ret (v := .agg #[.int .i64 m.k, .int .i64 m.fr, .int .i64 m.to_, .int .i64 m.bal, .int .i64 m.gen, .int .i64 m.bas, .int .i64 n, .int .i64 m.tp, .int .i64 m.rd, .string m.mrk, .int .i64 m.pa, .int .i64 m.po, .string m.pt, .slice m.la m.ll m.lc]) (by simp [results, Tryz.results49, go_sem]) rfl ?_
  exact ⟨{ m with fl := n }, hid rfl, rfl, HB.out _ _⟩
 ·go_enter Tryz.func49, Tryz.ntmps49
  go_wp2
  refine bodyPost_ret (v := .agg #[.int .i64 m.k, .int .i64 m.fr, .int .i64 m.to_, .int .i64 m.bal, .int .i64 m.gen, .int .i64 m.bas, .int .i64 m.fl, .int .i64 n, .int .i64 m.rd, .string m.mrk, .int .i64 m.pa, .int .i64 m.po, .string m.pt, .slice m.la m.ll m.lc]) (by simp [results, Tryz.results49, go_sem]) rfl ?_
  exact ⟨{ m with tp := n }, hid rfl, rfl, HB.out _ _⟩
 ·go_enter Tryz.func49, Tryz.ntmps49
  go_wp2
  refine bodyPost_ret (v := .agg #[.int .i64 m.k, .int .i64 m.fr, .int .i64 m.to_, .int .i64 m.bal, .int .i64 m.gen, .int .i64 m.bas, .int .i64 m.fl, .int .i64 m.tp, .int .i64 n, .string m.mrk, .int .i64 m.pa, .int .i64 m.po, .string m.pt, .slice m.la m.ll m.lc]) (by simp [results, Tryz.results49, go_sem]) rfl ?_
  exact ⟨{ m with rd := n }, hid rfl, rfl, HB.out _ _⟩
theorem zCq {k : Int} (hk : ¬ zCG k) : fieldsOf k = ⟨#[]⟩ := by
 unfold zCG at hk
 unfold fieldsOf
 rw [if_neg (by omega), if_neg (by omega), if_neg (by omega), if_neg (by omega), if_neg (by omega), if_neg (by omega), if_neg (by omega), if_neg (by omega), if_neg (by omega), if_neg (by omega), if_neg (by omega), if_neg (by omega), if_neg (by omega)]
theorem zID (k : Int) (hk : ¬ zCG k) (w : World) : Calls Tryz.prog 48 #[.int .i64 k] w fun e w' => e = .returned (.string (fieldsOf k)) ∧ w = w' := by
 rw [zCq hk]
 unfold zCG at hk
 have n1 : (k == 1) = false := by rw [beq_eq_false_iff_ne]; omega
 have n2 : (k == 2) = false := by rw [beq_eq_false_iff_ne]; omega
 have n3 : (k == 3) = false := by rw [beq_eq_false_iff_ne]; omega
 have n4 : (k == 4) = false := by rw [beq_eq_false_iff_ne]; omega
 have n5 : (k == 5) = false := by rw [beq_eq_false_iff_ne]; omega
 have n6 : (k == 6) = false := by rw [beq_eq_false_iff_ne]; omega
 have n7 : (k == 7) = false := by rw [beq_eq_false_iff_ne]; omega
 have n8 : (k == 8) = false := by rw [beq_eq_false_iff_ne]; omega
 have n9 : (k == 9) = false := by rw [beq_eq_false_iff_ne]; omega
 have n10 : (k == 10) = false := by rw [beq_eq_false_iff_ne]; omega
 have n11 : (k == 11) = false := by rw [beq_eq_false_iff_ne]; omega
 have n12 : (k == 12) = false := by rw [beq_eq_false_iff_ne]; omega
 have n13 : (k == 13) = false := by rw [beq_eq_false_iff_ne]; omega
 have n14 : (k == 14) = false := by rw [beq_eq_false_iff_ne]; omega
 have n15 : (k == 15) = false := by rw [beq_eq_false_iff_ne]; omega
 have n16 : (k == 16) = false := by rw [beq_eq_false_iff_ne]; omega
 have n17 : (k == 17) = false := by rw [beq_eq_false_iff_ne]; omega
 clear hk
 go_enter Tryz.func48, Tryz.ntmps48
 go_wp2_with fail
 go_ret
 exact ⟨rfl, rfl⟩
theorem zDO (k : Int) : zCG k ∨ ¬ zCG k := Classical.em _
theorem zFV (k : Int) (w : World) : Calls Tryz.prog 48 #[.int .i64 k] w fun e w' => e = .returned (.string (fieldsOf k)) ∧ w = w' := by
 rcases zDO k with h | h
 ·exact zDP k h w
 ·exact zID k h w
theorem zJr (k : Int) : (fieldsOf k).size ≤ 6 ∧ ∀ i (h : i < (fieldsOf k).size), (((fieldsOf k)[i]'h).toNat : Int) = 77 ∨ (((fieldsOf k)[i]'h).toNat : Int) = 80 ∨ (((fieldsOf k)[i]'h).toNat : Int) = 76 ∨ NumL (((fieldsOf k)[i]'h).toNat : Int) := by
 rcases zDO k with h | h
 ·unfold NumL
  rcases h with rfl | rfl | rfl | rfl | rfl | rfl | rfl | rfl | rfl | rfl | rfl | rfl | rfl | rfl | rfl | rfl | rfl <;> decide
 ·rw [zCq h]
  exact ⟨by decide, fun i hi => absurd hi (by show ¬ i < 0; omega)⟩
theorem all14 {p : Nat → Prop} (h : ∀ j, p j) : p 0 ∧ p 1 ∧ p 2 ∧ p 3 ∧ p 4 ∧ p 5 ∧ p 6 ∧ p 7 ∧ p 8 ∧ p 9 ∧ p 10 ∧ p 11 ∧ p 12 ∧ p 13 := ⟨h 0, h 1, h 2, h 3, h 4, h 5, h 6, h 7, h 8, h 9, h 10, h 11, h 12, h 13⟩
theorem blk14 (h : Blk w q [x0, x1, x2, x3, x4, x5, x6, x7, x8, x9, x10, x11, x12, x13] T) : (w.cell? ⟨q, 0, none⟩ = some x0 ∧ w.cell? ⟨q, 1, none⟩ = some x1 ∧ w.cell? ⟨q, 2, none⟩ = some x2 ∧ w.cell? ⟨q, 3, none⟩ = some x3 ∧ w.cell? ⟨q, 4, none⟩ = some x4 ∧ w.cell? ⟨q, 5, none⟩ = some x5 ∧ w.cell? ⟨q, 6, none⟩ = some x6 ∧ w.cell? ⟨q, 7, none⟩ = some x7 ∧ w.cell? ⟨q, 8, none⟩ = some x8 ∧ w.cell? ⟨q, 9, none⟩ = some x9 ∧ w.cell? ⟨q, 10, none⟩ = some x10 ∧ w.cell? ⟨q, 11, none⟩ = some x11 ∧ w.cell? ⟨q, 12, none⟩ = some x12 ∧ w.cell? ⟨q, 13, none⟩ = some x13) ∧ ∀ j, w.frozen? ⟨q, j, none⟩ = false :=
 ⟨⟨h.cell 0, h.cell 1, h.cell 2, h.cell 3, h.cell 4, h.cell 5, h.cell 6, h.cell 7, h.cell 8, h.cell 9, h.cell 10, h.cell 11, h.cell 12, h.cell 13⟩, h.free⟩
theorem zCi (h : ops.toList.drop i = o :: rest) : ops[i]? = some o := by
 rw [← Array.getElem?_toList, show i = i + 0 from rfl, ← List.getElem?_drop, h]
 rfl
theorem zAw {md : Region.Mode} {S : World → Prop} {a : Act} (hi : ops.toList.drop i = oi :: rest)
  (hs : Region.noSelect ops = true) (hf : Region.free md ops listed i = true) (hr : (Region.ready md ops listed).contains i = true)
  (hQ : ∀ c a w, Q (.panic c) (a.put oi.dst v) w → Q (.panic c) a w) (hw : Region.wanted oi (yielded ops a.tmps) = true) (hy : ∀ w, S w → (execOp a.eval oi).run P w = .ok (.value v) w) (hS : S w)
  (h : wpAnyH P md ops Q S fuel (listed.setIfInBounds i true) (a.put oi.dst v) w) : wpAnyH P md ops Q S (fuel + 1) listed a w :=
 wpAnyH_take (zCi hi) hs hf hr hQ (.inl ⟨hw, hy⟩) hS h
theorem zAn {md : Region.Mode} {S : World → Prop} {a : Act} (ho : ops.toList.drop i = o :: rest)
  (h : ∀ K' : Act → World → Prop, Shut (∀ a w, S w → (S w → wpAnyH P md ops Q S fuel (listed.setIfInBounds i true) a w) → K' a w) → if Region.wanted o (yielded ops a.tmps) = true then Oper.wp P o a w K' Q else K' (a.put o.dst undef) w)
  (hs : AllReadyH P md ops Q S fuel listed a w rs) : AllReadyH P md ops Q S fuel listed a w (i :: rs) := AllReadyH.cons (zCi ho) h hs
theorem hsk {md : Region.Mode} {S : World → Prop} {a : Act} (i : Nat) (hi : ops.toList.drop i = oi :: rest := by rfl)
  (hs : Region.noSelect ops = true := by kernel_rfl) (hf : Region.free md ops listed i = true := by kernel_rfl) (hr : (Region.ready md ops listed).contains i = true := by kernel_rfl)
  (hQ : ∀ c a w, Q (.panic c) (a.put oi.dst undef) w → Q (.panic c) a w := by exact fun _ _ _ h => h) (hw : Region.wanted oi (yielded ops a.tmps) = false := by first | rfl | kernel_rfl) (hS : S w := by assumption)
  (h : wpAnyH P md ops Q S fuel (listed.setIfInBounds i true) (a.put oi.dst undef) w) : wpAnyH P md ops Q S (fuel + 1) listed a w :=
 wpAnyH_take (zCi hi) hs hf hr hQ (.inr ⟨hw, rfl⟩) hS h
theorem htk {md : Region.Mode} {S : World → Prop} {a : Act} (i : Nat) (hi : ops.toList.drop i = oi :: rest := by rfl)
  (hs : Region.noSelect ops = true := by kernel_rfl) (hf : Region.free md ops listed i = true := by kernel_rfl) (hr : (Region.ready md ops listed).contains i = true := by kernel_rfl)
  (hw : Region.wanted oi (yielded ops a.tmps) = true := by rfl) (hS : S w := by assumption)
  (hy : ∀ w, S w → (execOp a.eval oi).run P w = .ok (.value v) w) (hQ : ∀ c a w, Q (.panic c) (a.put oi.dst v) w → Q (.panic c) a w := by exact fun _ _ _ h => h)
  (h : wpAnyH P md ops Q S fuel (listed.setIfInBounds i true) (a.put oi.dst v) w) : wpAnyH P md ops Q S (fuel + 1) listed a w :=
 wpAnyH_take (zCi hi) hs hf hr hQ (.inl ⟨hw, hy⟩) hS h
theorem hon {md : Region.Mode} {S : World → Prop} {a : Act} (i : Nat) (hr : Region.ready md ops listed = [i] := by kernel_rfl) (ho : ops.toList.drop i = o :: rest := by rfl)
  (h : ∀ K' : Act → World → Prop, Shut (∀ a w, S w → (S w → wpAnyH P md ops Q S fuel (listed.setIfInBounds i true) a w) → K' a w) → if Region.wanted o (yielded ops a.tmps) = true then Oper.wp P o a w K' Q else K' (a.put o.dst undef) w) : wpAnyH P md ops Q S (fuel + 1) listed a w :=
 wpAnyH_ready hr (by simp) (zAn ho h AllReadyH.nil)
end Go.Proofs.YtaemlplcjjbamaaGreatDoor
