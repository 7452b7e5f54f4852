/- Small lemmas of our own that every walk uses: numbers in endings, texts cut at a place, an append of one element onto an owned row. No condition. -/
import Derived.WalkKit
import Derived.WalkSpells
import Derived.WalkLawsBesides
import Derived.Lib.Hide
import Derived.BigQuiet
import Derived.Deep.QuietTactic
import Derived.Deep.DeepCutAuto
import Derived.Deep.RegionHeld3
namespace Go.Proofs.YtaeklleogniimaaGreatDoor
open Go.RowKit

theorem ret_int {k : IntKind} {a b : Int} (h : a = b) : Ending.returned (.int k a) = .returned (.int k b) := by rw [h]
theorem ret_bool {a b : Bool} (h : a = b) : Ending.returned (.bool a) = .returned (.bool b) := by rw [h]
theorem val_int {k : IntKind} {a b : Int} (h : a = b) : Value.int k a = .int k b := by rw [h]
theorem take_snoc (s : ByteArray) (k : Nat) (h : k < s.size) : s.data.toList.take (k + 1) = s.data.toList.take k ++ [s[k]] := by
  rw [List.take_succ_eq_append_getElem (by simpa using h)]; rfl

/-- 'append(out, x)' of one element of whatever size, the element's cells lying in the block that was made last. -/
theorem append_one {P : Program} {w : World} {ops : Array Oper} {rest : List Oper} {o : Oper} {a : Act} {Q : Exit → Act → World → Prop} (hgd : o.guard = none) (s x : Operand) (t : TypeId)
    (ho : o.op = .call { callee := .builtin .append, args := #[s, x], argTypes := #[t, t] })
    (base : Nat) (e : TypeId) (size bytes : Nat) (ht : P.underlying t = some (.slice e)) (z : Value) (hi : (P.info? e).map (fun i => (i.zero, i.size, i.bytes)) = some (some z, size, bytes))
    (hzs : z.cells.size = size) (hsz : 0 < size)
    (v : Value) (n : Nat) (xs : List Value) (hs : a.eval s = v) (hown : w.ownsRow base e size v n xs)
    (news : List Value) (hx : a.eval x = .slice (some ⟨w.heap.size, 0, none⟩) 1 1) (hl : news.length = size) (h1 : ∀ u ∈ news, u.oneCell' = true)
    (h63 : n + 1 ≤ maxLen) (hbytes : (n + 1) * bytes ≤ 140737488355328) (hbase : base ≤ w.heap.size)
    (h : ∀ v' w', w'.ownsRow base e size v' (n + 1) (xs ++ news) → Below base w w' → wpList P ops Q rest (a.put o.dst v') w') : wpList P ops Q (o :: rest) a (w.alloc (.cells news.toArray e)) := by
  obtain ⟨i0, hi, hz0, hz1, hz2⟩ := info_parts hi
  refine wpList_append_own _ hgd s x t ho base e i0 z size bytes ht hi hz0 hz1 hz2 hzs hsz v n xs hs (hown.alloc _) ⟨w.heap.size, 0, none⟩ 1 1 news hx (by omega) ?_ h1 h63 hbytes (by simp; omega) ?_
  · intro j u hj
    have e1 : (⟨w.heap.size, 0, none⟩ : Addr).add j = ⟨w.heap.size, j, none⟩ := by
      unfold Addr.add
      split
      · subst j; rfl
      · simp
    rw [e1, World.cell?_alloc_new]
    simpa using hj
  · intro v' w' hown' hg _
    exact h v' w' hown' (((Below.refl _ _).alloc hbase _).grown hg (by simp; omega) (fun k hk => (hown.lt k hk).1))

/-- An owned row of one-cell elements, opened: the address is nil just where nothing was appended; each element is read at its place, and may be written. -/
theorem row_open {w : World} {base : Nat} {e : TypeId} {v : Value} {n : Nat} {xs : List Value} (h : w.ownsRow base e 1 v n xs) :
    ∃ ad cap, v = .slice ad n cap ∧ n ≤ cap ∧ cap ≤ maxLen ∧ xs.length = n ∧ (ad = none → n = 0) ∧ (∀ x, ad = some x → ∃ g, x = ⟨g, 0, none⟩ ∧ base ≤ g ∧ g < w.heap.size ∧ (∀ k, k < n → w.cell? ⟨g, k, none⟩ = xs[k]?)) := by
  have hh := h
  obtain ⟨h1, h2⟩ := h
  rcases h2 with ⟨rfl, rfl⟩ | ⟨g, cap, cur, rfl, hg, hb, hn, hc, hs, ht⟩
  · exact ⟨none, 0, rfl, Nat.le_refl _, Nat.zero_le _, by omega, fun _ => rfl, fun x hx => by cases hx⟩
  · refine ⟨some ⟨g, 0, none⟩, cap, rfl, hn, hc, by omega, fun hx => (by cases hx), ?_⟩
    intro x hx
    cases hx
    refine ⟨g, rfl, hg, ?_, ?_⟩
    · exact (hh.lt g rfl).2
    · intro k hk
      exact hh.cellAt k (by omega)

theorem below_step {w wx w1 : World} (h : Below w.heap.size w wx) (h2 : Below wx.heap.size wx w1) : Below w.heap.size w w1 := h.trans (h2.mono h.size)
theorem below_drewN {B : Nat} {a w : World} (h : Below B a w) (n : Nat) : Below B a (w.drewN n) := ⟨h.os, h.tape, h.output, h.size, h.block⟩

theorem grown_of_below {w w' : World} (h : Below w.heap.size w w') (row : Option Nat) : w.grownBy w' row := ⟨h.os, h.tape, h.output, h.size, fun k hk _ => h.block k hk⟩
theorem ownsRow_below {w w' : World} {base : Nat} {e : TypeId} {size : Nat} {v : Value} {n : Nat} {xs : List Value} (h : w.ownsRow base e size v n xs) (hb : Below w.heap.size w w') : w'.ownsRow base e size v n xs := by
  refine h.kept (row := none) (grown_of_below hb none) ?_
  by_cases hv : v.ownBlock = none
  · exact Or.inl hv
  · exact Or.inr hv

theorem quiet_add {P : Program} {f : FuncId} {args : Array Value} {w : World} {a n : Nat} {v : Value}
    (h : Calls P f args (w.drewN (a + n)) fun e w' => e = .returned v ∧ ∃ m, w' = (w.drewN (a + n)).drewN m) :
    Calls P f args (w.drewN (a + n)) fun e w'' => e = .returned v ∧ ∃ m, w'' = w.drewN (a + m) :=
  h.mono fun _ _ ⟨he, m, hm⟩ => ⟨he, n + m, by rw [hm, World.drewN_drewN, Nat.add_assoc]⟩
theorem quiet_add_left {P : Program} {f : FuncId} {args : Array Value} {w : World} {a n : Nat} {v : Value}
    (h : Calls P f args (w.drewN (a + n)) fun e w' => e = .returned v ∧ w.drewN (a + n) = w') :
    Calls P f args (w.drewN (a + n)) fun e w'' => e = .returned v ∧ ∃ m, w'' = w.drewN (a + m) :=
  h.mono fun _ _ ⟨he, hm⟩ => ⟨he, n, hm.symm⟩
theorem quiet_left {P : Program} {f : FuncId} {args : Array Value} {w : World} {n : Nat} {v : Value}
    (h : Calls P f args (w.drewN n) fun e w' => e = .returned v ∧ w.drewN n = w') : Calls P f args (w.drewN n) fun e w'' => e = .returned v ∧ ∃ m, w'' = w.drewN m :=
  h.mono fun _ _ ⟨he, hm⟩ => ⟨he, n, hm.symm⟩

theorem run_make_rowN {P : Program} (t e : TypeId) (i : TypeInfo) (z : Value) (ht : P.underlying t = some (.slice e)) (hi : P.info? e = some i) (hz : i.zero = some z)
    (kl kc : IntKind) (n c : Nat) (hnc : n ≤ c) (hbytes : i.bytes * c ≤ 281474976710656) (h63 : c ≤ 9223372036854775807) (w : World) :
    (Instr.makeSlice t (.int kl (n : Int)) (.int kc (c : Int))).run P w = .ok (.slice (some ⟨w.heap.size, 0, none⟩) n c) (w.alloc (.cells (madeCells z.cells (c * i.size)) e)) := by
  have hb : (i.bytes : Int) * (c : Int) ≤ 281474976710656 := by
    have h : ((i.bytes * c : Nat) : Int) ≤ 281474976710656 := by omega
    rwa [Int.natCast_mul] at h
  have hr := run_make (P := P) w t e i z ht hi hz kl kc n c (by omega) (by omega) hb (by omega)
  simp only [Int.toNat_natCast] at hr
  exact hr

/-- 'make([]T, n)' of a one-cell element: a row of zeros -/
theorem run_make_one {P : Program} (t e : TypeId) (z : Value) (bytes : Nat) (ht : P.underlying t = some (.slice e)) (hi : (P.info? e).map (fun i => (i.zero, i.size, i.bytes)) = some (some z, 1, bytes)) (hz : z.cells = #[z])
    (n : Nat) (hbytes : bytes * n ≤ 281474976710656) (h63 : n ≤ 9223372036854775807) (w : World) :
    (Instr.makeSlice t (.int .i64 (n : Int)) (.int .i64 (n : Int))).run P w = .ok (.slice (some ⟨w.heap.size, 0, none⟩) n n) (w.alloc (.cells (Array.replicate n z) e)) := by
  obtain ⟨i0, hi, hz0, hz1, hz2⟩ := info_parts hi
  have h := run_make_rowN t e i0 z ht hi hz0 .i64 .i64 n n (Nat.le_refl _) (by rw [hz2]; exact hbytes) h63 w
  rw [hz1, Nat.mul_one, hz] at h
  rw [h, ← List.toArray_replicate, ← toList_madeCells_one]

def zeros (n : Nat) : ByteArray := ⟨(List.replicate n 0).toArray⟩
theorem zeros_size (n : Nat) : (zeros n).size = n := by show (List.replicate n (0 : UInt8)).toArray.size = n; simp
theorem addr_add (g j : Nat) : (⟨g, 0, none⟩ : Addr).add j = ⟨g, j, none⟩ := by
  unfold Addr.add
  split
  · subst j; rfl
  · simp
/-- 'string(make([]byte, n))' -/
theorem conv_zeros {P : Program} (w : World) (t e d : TypeId) (ht : P.underlying t = some (.slice e)) (he : P.underlying e = some (.int .u8)) (hd : P.underlying d = some .string) (n : Nat) :
    (convert t d (.slice (some ⟨w.heap.size, 0, none⟩) n n)).run P (w.alloc (.cells (Array.replicate n (Value.int .u8 0)) e)) = .ok (.string (zeros n)) (w.alloc (.cells (Array.replicate n (Value.int .u8 0)) e)) := by
  have h := run_convert_bytes_back (w.alloc (.cells (Array.replicate n (Value.int .u8 0)) e)) t d e ⟨w.heap.size, 0, none⟩ n (List.replicate n 0) ht he hd (by
    intro j hj
    rw [addr_add, World.cell?_alloc_new]
    simp at hj
    simp [hj])
  rw [List.length_replicate] at h
  exact h

/-- a slice whose cells hold the texts ss -/
def StrsAt (w : World) (ad : Option Addr) (ss : List ByteArray) : Prop :=
  ss = [] ∨ ∃ b off, ad = some ⟨b, off, none⟩ ∧ b < w.heap.size ∧ ∀ k (hk : k < ss.length), w.cell? ⟨b, off + k, none⟩ = some (.string ss[k])

theorem strsAt_below {w w' : World} {ad : Option Addr} {ss : List ByteArray} (h : StrsAt w ad ss) (hb : Below w.heap.size w w') : StrsAt w' ad ss := by
  rcases h with h | ⟨b, off, h1, h2, h3⟩
  · exact Or.inl h
  · exact Or.inr ⟨b, off, h1, Nat.lt_of_lt_of_le h2 hb.size, fun k hk => by rw [hb.cell (p := ⟨b, off + k, none⟩) h2]; exact h3 k hk⟩
/-- a slice value that reads as the texts ss -/
def ReadsStrs (w : World) (v : Value) (ss : List ByteArray) : Prop := ∃ ad cap, v = .slice ad ss.length cap ∧ StrsAt w ad ss
theorem readsStrs_below {w w' : World} {v : Value} {ss : List ByteArray} (h : ReadsStrs w v ss) (hb : Below w.heap.size w w') : ReadsStrs w' v ss :=
  let ⟨ad, cap, h1, h2⟩ := h; ⟨ad, cap, h1, strsAt_below h2 hb⟩
theorem readsStrs_own {w : World} {base : Nat} {e : TypeId} {v : Value} {ss : List ByteArray} (h : w.ownsRow base e 1 v ss.length (ss.map Value.string)) : ReadsStrs w v ss := by
  obtain ⟨ad, cap, hv, hcap, hmax, hlen, hnil, hsome⟩ := row_open h
  refine ⟨ad, cap, hv, ?_⟩
  cases ad with
  | none => left; exact List.length_eq_zero_iff.1 (hnil rfl)
  | some x =>
    obtain ⟨g, rfl, hg1, hg2, hcell⟩ := hsome x rfl
    right
    refine ⟨g, 0, rfl, hg2, fun k hk => ?_⟩
    rw [Nat.zero_add, hcell k hk, List.getElem?_map, List.getElem?_eq_getElem hk]
    rfl

/-- what the row's frame tells of a slice of texts that came in -/
def IsStrs (w : World) (a : Option Addr) (len cap : Nat) (zs : List ByteArray) : Prop :=
  (a = none ∧ len = 0 ∧ cap = 0 ∧ zs = []) ∨
  ∃ x, a = some x ∧ len ≤ cap ∧ cap ≤ maxLen ∧ zs.length = cap ∧ (∀ i, i < zs.length → w.cell? (x.add i) = some (.string (zs.getD i ByteArray.empty))) ∧ ∀ z ∈ zs, z.size ≤ maxLen
theorem isStrs_at {w : World} {a : Option Addr} {len cap : Nat} {zs : List ByteArray} (h : IsStrs w a len cap zs) : StrsAt w a (zs.take len) ∧ (zs.take len).length = len ∧ (∀ z ∈ zs.take len, z.size ≤ maxLen) ∧ len ≤ maxLen ∧ len ≤ cap ∧ cap ≤ maxLen := by
  rcases h with ⟨rfl, rfl, rfl, rfl⟩ | ⟨x, rfl, hl, hm, hz, hcell, hsz⟩
  · exact ⟨Or.inl rfl, rfl, by simp, by simp [maxLen], by simp, by simp [maxLen]⟩
  · have hlen : (zs.take len).length = len := by rw [List.length_take]; omega
    refine ⟨?_, hlen, fun z hq => hsz z (List.mem_of_mem_take hq), by omega, hl, hm⟩
    by_cases h0 : len = 0
    · left; subst h0; simp
    · right
      have hc := hcell 0 (by omega)
      have hlt := World.block_lt_of_cell? w _ hc
      obtain ⟨b, off, spot⟩ := x
      have hspot : spot = none := by simpa [Addr.add] using World.cell?_spot hc
      subst hspot
      have hb : b < w.heap.size := by simpa [Addr.add] using hlt
      refine ⟨b, off, rfl, hb, ?_⟩
      intro k hk
      have hk2 : k < zs.length := by rw [List.length_take] at hk; omega
      have h := hcell k hk2
      have e1 : (⟨b, off, none⟩ : Addr).add k = ⟨b, off + k, none⟩ := by
        unfold Addr.add
        split
        · subst k; rfl
        · rfl
      rw [e1] at h
      rw [h, List.getD, List.getElem?_eq_getElem hk2, List.getElem_take]
      rfl

theorem row_base {w : World} {base base' : Nat} {e : TypeId} {sz : Nat} {v : Value} {n : Nat} {xs : List Value} (h : w.ownsRow base e sz v n xs) (hb : base' ≤ base) : w.ownsRow base' e sz v n xs := by
  obtain ⟨h1, h2⟩ := h
  refine ⟨h1, ?_⟩
  rcases h2 with h2 | ⟨g, cap, cur, hv, hg, r⟩
  · exact Or.inl h2
  · exact Or.inr ⟨g, cap, cur, hv, Nat.le_trans hb hg, r⟩
theorem row_shape {w : World} {base : Nat} {e : TypeId} {sz : Nat} {v : Value} {n : Nat} {xs : List Value} (h : w.ownsRow base e sz v n xs) : ∃ ad cap, v = .slice ad n cap := by
  rcases h.2 with ⟨rfl, rfl⟩ | ⟨g, cap, cur, rfl, _⟩
  · exact ⟨none, 0, rfl⟩
  · exact ⟨_, cap, rfl⟩

/-- a slice whose cells hold the numbers l of kind k -/
def IntsAt (k : IntKind) (w : World) (ad : Option Addr) (l : List Int) : Prop :=
  l = [] ∨ ∃ b off, ad = some ⟨b, off, none⟩ ∧ b < w.heap.size ∧ ∀ i (hi : i < l.length), w.cell? ⟨b, off + i, none⟩ = some (.int k l[i])
theorem intsAt_below {k : IntKind} {w w' : World} {ad : Option Addr} {l : List Int} (h : IntsAt k w ad l) (hb : Below w.heap.size w w') : IntsAt k w' ad l := by
  rcases h with h | ⟨b, off, h1, h2, h3⟩
  · exact Or.inl h
  · exact Or.inr ⟨b, off, h1, Nat.lt_of_lt_of_le h2 hb.size, fun i hi => by rw [hb.cell (p := ⟨b, off + i, none⟩) h2]; exact h3 i hi⟩
/-- what the row's frame tells of a slice of numbers that came in -/
def IsInts (k : IntKind) (w : World) (a : Option Addr) (len cap : Nat) (zs : List Int) : Prop :=
  (a = none ∧ len = 0 ∧ cap = 0 ∧ zs = []) ∨
  ∃ x, a = some x ∧ len ≤ cap ∧ cap ≤ maxLen ∧ zs.length = cap ∧ (∀ i, i < zs.length → w.cell? (x.add i) = some (.int k (zs.getD i 0))) ∧ ∀ n ∈ zs, (Lit.int k n).wf = true
theorem isInts_at {k : IntKind} {w : World} {a : Option Addr} {len cap : Nat} {zs : List Int} (h : IsInts k w a len cap zs) : IntsAt k w a (zs.take len) ∧ (zs.take len).length = len ∧ (∀ z ∈ zs.take len, (Lit.int k z).wf = true) ∧ len ≤ maxLen ∧ len ≤ cap ∧ cap ≤ maxLen := by
  rcases h with ⟨rfl, rfl, rfl, rfl⟩ | ⟨x, rfl, hl, hm, hz, hcell, hsz⟩
  · exact ⟨Or.inl rfl, rfl, by simp, by simp [maxLen], by simp, by simp [maxLen]⟩
  · have hlen : (zs.take len).length = len := by rw [List.length_take]; omega
    refine ⟨?_, hlen, fun z hq => hsz z (List.mem_of_mem_take hq), by omega, hl, hm⟩
    by_cases h0 : len = 0
    · left; subst h0; simp
    · right
      have hc := hcell 0 (by omega)
      have hlt := World.block_lt_of_cell? w _ hc
      obtain ⟨b, off, spot⟩ := x
      have hspot : spot = none := by simpa [Addr.add] using World.cell?_spot hc
      subst hspot
      have hb : b < w.heap.size := by simpa [Addr.add] using hlt
      refine ⟨b, off, rfl, hb, ?_⟩
      intro i hi
      have hi2 : i < zs.length := by rw [List.length_take] at hi; omega
      have h := hcell i hi2
      have e1 : (⟨b, off, none⟩ : Addr).add i = ⟨b, off + i, none⟩ := by
        unfold Addr.add
        split
        · subst i; rfl
        · rfl
      rw [e1] at h
      rw [h, List.getD, List.getElem?_eq_getElem hi2, List.getElem_take]
      rfl

theorem int_bounds {n : Int} (h : (Lit.int .i64 n).wf = true) : -9223372036854775808 ≤ n ∧ n ≤ 9223372036854775807 := by
  simp [Lit.wf, IntKind.min, IntKind.max, IntKind.bits, IntKind.signed] at h
  omega
theorem ofInt_i64 (a : Nat) (ha : a < 9223372036854775808) : (BitVec.ofInt 64 (a : Int)).toNat = a := by
  rw [BitVec.ofInt_natCast, BitVec.toNat_ofNat]; exact Nat.mod_eq_of_lt (by omega)
theorem i64_and_nat (a b : Nat) (ha : a < 9223372036854775808) (hb : b < 9223372036854775808) : bits .and .i64 (a : Int) (b : Int) = ((a &&& b : Nat) : Int) := by
  have hx : a &&& b < 2 ^ 63 := Nat.and_lt_two_pow _ (by omega)
  show IntKind.i64.wrap ((BitVec.ofInt 64 (a : Int) &&& BitVec.ofInt 64 (b : Int)).toNat : Int) = _
  rw [BitVec.toNat_and, ofInt_i64 a ha, ofInt_i64 b hb, IntKind.wrap_i64]
  omega
theorem i64_or_nat (a b : Nat) (ha : a < 9223372036854775808) (hb : b < 9223372036854775808) : bits .or .i64 (a : Int) (b : Int) = ((a ||| b : Nat) : Int) := by
  have hx : a ||| b < 2 ^ 63 := Nat.or_lt_two_pow (by omega) (by omega)
  show IntKind.i64.wrap ((BitVec.ofInt 64 (a : Int) ||| BitVec.ofInt 64 (b : Int)).toNat : Int) = _
  rw [BitVec.toNat_or, ofInt_i64 a ha, ofInt_i64 b hb, IntKind.wrap_i64]
  omega
theorem i64_xor_nat (a b : Nat) (ha : a < 9223372036854775808) (hb : b < 9223372036854775808) : bits .xor .i64 (a : Int) (b : Int) = ((a ^^^ b : Nat) : Int) := by
  have hx : a ^^^ b < 2 ^ 63 := Nat.xor_lt_two_pow (by omega) (by omega)
  show IntKind.i64.wrap ((BitVec.ofInt 64 (a : Int) ^^^ BitVec.ofInt 64 (b : Int)).toNat : Int) = _
  rw [BitVec.toNat_xor, ofInt_i64 a ha, ofInt_i64 b hb, IntKind.wrap_i64]
  omega
theorem i64_join (i x y : Nat) (hx : x < 2 ^ i) (hi : (y * 2 ^ i) < 4611686018427387904) (hx2 : x < 4611686018427387904) : bits .or .i64 (x : Int) ((y * 2 ^ i : Nat) : Int) = ((x + y * 2 ^ i : Nat) : Int) := by
  rw [i64_or_nat _ _ (by omega) (by omega), Nat.or_comm, nat_join i (y * 2 ^ i) x (Nat.mul_mod_left _ _) hx, Nat.add_comm]

end Go.Proofs.YtaeklleogniimaaGreatDoor
