/- What a log's calls leave of rows of texts, of the statement's world, and appends of one row to another. Conditions: sizes. -/
import Derived.Test.YtkllnihhhgaojaaGreatDoorWalRun
namespace Go.Proofs.YtkllnihhhgaojaaGreatDoor
open Go Go.RowKit
set_option linter.unusedVariables false

/-- rows of texts stay -/
def RK (w w' : World) : Prop := ∀ base v n xs, w.ownsRow base 9 1 v n xs → w'.ownsRow base 9 1 v n xs
theorem RK.below {w w' : World} (h : Below w.heap.size w w') : RK w w' := fun base v n xs hr => ownsRow_below hr h
theorem RK.trans {w w1 w2 : World} (h : RK w w1) (k : RK w1 w2) : RK w w2 := fun base v n xs hr => k base v n xs (h base v n xs hr)
theorem Run.rk {w0 w w' : World} {b k mb wa lg n : Nat} {P : PS} {Bk al : List ByteArray} {L : LG} {av : Value} (h : Run w0 b k mb wa lg P Bk L n av al w) (hk : Kept b k mb Bk (fun j => j = lg) w w') : RK w w' :=
  fun base v n xs hr => hk.row hr (by unfold FarT; decide) (fun g hg e => row_ne hr h.log (by decide) (by rw [hg, e]))
theorem Run.append2 {w0 w : World} {b k mb wa lg n : Nat} {P : PS} {Bk al : List ByteArray} {L : LG} {av : Value} (h : Run w0 b k mb wa lg P Bk L n av al w) (hL : L.Ok) (hn : n ≤ 900000000) (hB : Bk.length + 1 ≤ 1000000000) (s : ByteArray) :
    Calls Tryz.prog 11 #[.pointer (some ⟨lg, 0, none⟩), .string s] w fun e w' => e = .returned (.int .i64 (wappend P Bk L s).e) ∧ Run w0 b k mb wa lg (wappend P Bk L s).P (wappend P Bk L s).B (wappend P Bk L s).L (n + 2097152) av al w' ∧ RK w w' := by
  refine (own_append h.own h.lgb h.log hL hn hB s).mono ?_
  rintro e w' ⟨rfl, ho, hl, hk⟩
  exact ⟨rfl, h.next ho hl hk, h.rk hk⟩
theorem Run.sync2 {w0 w : World} {b k mb wa lg n : Nat} {P : PS} {Bk al : List ByteArray} {L : LG} {av : Value} (h : Run w0 b k mb wa lg P Bk L n av al w) (hn : n ≤ 1000000000) :
    Calls Tryz.prog 13 #[.pointer (some ⟨lg, 0, none⟩)] w fun e w' => e = .returned (.int .i64 P.syncR.1) ∧ Run w0 b k mb wa lg P.syncR.2 Bk L n av al w' ∧ RK w w' := by
  refine (own_sync h.own h.log hn).mono ?_
  rintro e w' ⟨rfl, ho, hk⟩
  exact ⟨rfl, h.same ho hk, h.rk hk.none⟩
theorem Run.crash2 {w0 w : World} {b k mb wa lg n : Nat} {P : PS} {Bk al : List ByteArray} {L : LG} {av : Value} (h : Run w0 b k mb wa lg P Bk L n av al w) (hn : n ≤ 1000000000) :
    Calls Tryz.prog 20 #[.pointer (some ⟨b, 0, none⟩), .slice none 0 0] w fun e w' => e = .returned (.tuple #[]) ∧ Run w0 b k mb wa lg (P.crash []) Bk L n av al w' ∧ RK w w' := by
  refine (own_crash h.own hn none 0 [] (Or.inl rfl) (fun g off h0 _ => absurd rfl h0) (by decide)).mono ?_
  rintro e w' ⟨rfl, ho, hk⟩
  exact ⟨rfl, h.same ho hk, h.rk hk.none⟩
theorem Run.turn2 {w0 w : World} {b k mb wa lg n : Nat} {P : PS} {Bk al : List ByteArray} {L : LG} {av : Value} (h : Run w0 b k mb wa lg P Bk L n av al w) (hL : L.Ok) (hn : n ≤ 890000000) {ad : Option Addr} {cap base : Nat} {snap : List ByteArray} (hr : w.ownsRow base 9 1 (.slice ad snap.length cap) snap.length (strVals snap)) (htl : snap.length ≤ 100000) (hB : Bk.length + snap.length + 1 ≤ 1000000000) :
    Calls Tryz.prog 19 #[.pointer (some ⟨lg, 0, none⟩), .slice ad snap.length cap] w fun e w' => e = .returned (.int .i64 (wturn P Bk L snap).e) ∧ Run w0 b k mb wa lg (wturn P Bk L snap).P (wturn P Bk L snap).B (wturn P Bk L snap).L (n + 4194305) av al w' ∧ RK w w' := by
  obtain ⟨ad2, cap2, e2, hs⟩ := readsStrs_own (ss := snap) hr
  injection e2 with e2 _ _
  subst e2
  refine (own_turn h.own h.lgb h.log hL hn hs (fun S hR hf _ g' off' e => ?_) htl hB).mono ?_
  · obtain ⟨h1, h2⟩ := row_beside hR hr (by decide) g' (by rw [e]; rfl)
    exact ⟨h1, h2, fun h => h⟩
  · rintro e w' ⟨rfl, ho, hl, hk⟩
    exact ⟨rfl, h.next (ho.mono (by omega)) hl hk, h.rk hk⟩
theorem Run.open2 {w0 w : World} {b k mb wa lg n : Nat} {P : PS} {Bk al : List ByteArray} {L : LG} {av : Value} (h : Run w0 b k mb wa lg P Bk L n av al w) (hn : n ≤ 890000000) (hB : Bk.length ≤ 1000000000) {P2 : PS} {L2 : LG} {out : List ByteArray} (he : wopen P Bk = ⟨0, P2, L2, out⟩) :
    Calls Tryz.prog 15 #[.pointer (some ⟨b, 0, none⟩), .pointer (some ⟨k, 0, none⟩)] w fun e w' => ∃ lg2 v, e = .returned (.tuple #[.pointer (some ⟨lg2, 0, none⟩), v, .int .i64 0]) ∧ LogAt w' lg2 b k L2 ∧ w'.ownsRow w.heap.size 9 1 v out.length (strVals out) ∧ Run w0 b k mb wa lg P2 Bk L (n + 2097152) av al w' ∧ RK w w' := by
  refine (own_open h.own hn hB (h.own.ok.open Bk)).mono ?_
  rw [he]
  rintro e w' ⟨ho, hk, ⟨h0, _⟩ | ⟨_, lg2, v, hlg, rfl, hl, hr⟩⟩
  · exact absurd rfl h0
  · exact ⟨lg2, v, rfl, hl, hr, h.same ho hk, h.rk hk.none⟩
theorem Run.list {w0 w : World} {b k mb wa lg n seg : Nat} {P : PS} {Bk al : List ByteArray} {L : LG} {av : Value} (h : Run w0 b k mb wa lg P Bk L n av al w) {s : List UInt8} {most : Int} (h1 : One P seg s most) :
    Calls Tryz.prog 21 #[.pointer (some ⟨b, 0, none⟩)] w fun e w' => ∃ v, e = .returned (.tuple #[v, .int .i64 0]) ∧ w'.ownsRow w.heap.size 9 1 v 1 [.string (wname seg)] ∧ Below w.heap.size w w' := by
  obtain ⟨S, hp, hR, hf⟩ := h.own.dev
  obtain ⟨f, hfl, hnm, _⟩ := h1.file
  have hoff := h1.off
  subst hp
  have hfl2 : S.files.map DFile.pl = [f] := hfl
  obtain ⟨F, hF⟩ : ∃ F, S.files = [F] := List.length_eq_one_iff.1 (by rw [← List.length_map (f := DFile.pl), hfl2]; rfl)
  have hFn : F.name = wname seg := by
    rw [hF] at hfl2
    injection hfl2 with e _
    rw [← hnm, ← e]
    rfl
  refine (list_ok b S w hR.dev hoff (by rw [hF]; show 1 ≤ 1000000000; omega)).mono ?_
  rintro e w' ⟨v, rfl, hv, hb⟩
  rw [hF] at hv
  have e : strVals (namesOf [F]) = [.string (wname seg)] := by rw [← hFn]; rfl
  rw [e] at hv
  exact ⟨v, rfl, hv, hb⟩

/-- a row put behind a row of the call's own, at a step of a region that draws its order -/
theorem step_append_rows {w : World} {ops : Array Oper} {o : Oper} {a : Act} {K : Act → World → Prop} {Q : Exit → Act → World → Prop} {E : Prop} (hw : Region.wanted o (yielded ops a.tmps) = true) (s x : Operand)
    (ho : o.op = .call { callee := .builtin .append, args := #[s, x], argTypes := #[22, 22] })
    (base base2 : Nat) (v v2 : Value) (n m N : Nat) (xs ys : List ByteArray) (hs : a.eval s = v) (hx : a.eval x = v2) (hown : w.ownsRow base 9 1 v n (strVals xs)) (hown2 : w.ownsRow base2 9 1 v2 m (strVals ys)) (hN : n + m = N) (h1 : N ≤ 100000) (hbase : base ≤ w.heap.size)
    (h : ∀ va cap w', w'.ownsRow base 9 1 (.slice va N cap) N (strVals (xs ++ ys)) → Below base w w' → K (a.put o.dst (.slice va N cap)) w') :
    if Region.wanted o (yielded ops a.tmps) = true then Oper.wp Tryz.prog o a w K Q else E := by
  rw [if_pos hw]
  obtain ⟨i0, hi0, hz0, hz1, hz2⟩ := info_parts info_strD
  have key : ∃ v' w', (Builtin.append_ #[22, 22] o.type #[v, v2]).run Tryz.prog w = .ok v' w' ∧ w'.ownsRow base 9 1 v' N (strVals (xs ++ ys)) ∧ Below base w w' := by
    have hxy : strVals (xs ++ ys) = strVals xs ++ strVals ys := by unfold strVals; rw [List.map_append]
    have hlen2 : (strVals ys).length = m := by have := hown2.1; omega
    have hbel : ∀ w', w.grownBy w' v.ownBlock → Below base w w' := fun w' hg => ⟨hg.os, hg.tape, hg.output, hg.size, fun j hj => hg.block j (by omega) (fun e => by
      have := (hown.lt j e.symm).1
      omega)⟩
    rcases hown2.2 with ⟨rfl, rfl⟩ | ⟨g, cap, cur, rfl, hg, hb, hnc, hcm, hsz, htk⟩
    · have hnil : strVals ys = [] := List.length_eq_zero_iff.1 hlen2
      refine ⟨v, w, run_append_owned_none (P := Tryz.prog) w base 22 o.type 9 i0 1 Tryz.underlying22 hi0 v n (strVals xs) hown, ?_, Below.refl _ _⟩
      rw [hxy, hnil, List.append_nil, ← hN]
      exact hown
    · have hcells := hown2
      obtain ⟨v', w', hr, h2, h3, _, h5⟩ := run_append_own_at (P := Tryz.prog) w base 22 o.type 9 i0 (.string ByteArray.empty) 1 16 Tryz.underlying22 hi0 hz0 hz1 hz2 rfl (by decide) v n (strVals xs) hown ⟨g, 0, none⟩ m cap (strVals ys) (by omega) (fun j u hu => by
        have hj : j < m := by
          rw [← hlen2]
          exact (List.getElem?_eq_some_iff.1 hu).1
        rw [addr_add, hcells.cellAt j (by omega)]
        exact hu) (fun u hu => by
        unfold strVals at hu
        obtain ⟨t, _, rfl⟩ := List.mem_map.1 hu
        rfl) (by unfold maxLen; omega) (by omega) hbase
      refine ⟨v', w', hr, ?_, hbel w' h3⟩
      rw [hxy, ← hN]
      exact h2
  obtain ⟨v', w', hr, h2, h3⟩ := key
  obtain ⟨va, vc, rfl⟩ := row_shape h2
  unfold Oper.wp execOp
  simp only [ho, resolve, invoke, builtin, Sem.run_bind, Sem.run_pure, Result.andThen_ok, List.map_toArray, List.map_cons, List.map_nil, hs, hx, hr]
  exact h va vc w' h2 h3
end Go.Proofs.YtkllnihhhgaojaaGreatDoor
