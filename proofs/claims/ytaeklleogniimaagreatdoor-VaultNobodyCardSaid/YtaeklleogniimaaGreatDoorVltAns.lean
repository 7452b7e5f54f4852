/- What a vault answers to the example's messages. Conditions: the example's own state. -/
import Derived.Test.YtaeklleogniimaaGreatDoorVltMake
import Derived.Test.YtaeklleogniimaaGreatDoorCodeNum
import Derived.Test.YtaeklleogniimaaGreatDoorReadEnd
import Derived.Test.YtaeklleogniimaaGreatDoorShelf
import Derived.Test.YtaeklleogniimaaGreatDoorProg
import Derived.WalkKit
import Derived.LaidEql
import Derived.Stop.Asserts
import Derived.RowKitTokens
namespace Go.Proofs.YtaeklleogniimaaGreatDoor
open Go Go.RowKit
set_option linter.unusedVariables false

theorem vnum_one (s : ByteArray) (g : Nat) (n : Nat) (w : World) (hn : n ≤ 4611686018427387903) (hs : s.size ≤ 1000) (hc : w.cell? ⟨g, 0, none⟩ = some (.int .i64 (n : Int))) :
    Calls Tryz.prog 101 #[.string s, .slice (some ⟨g, 0, none⟩) 1 1] w fun e w' => e = .returned (.string (s ++ cnT n)) ∧ Below w.heap.size w w' := by
  have HN := Lib.hid (fun W => codeNum_any n W hn)
  have hcs := cnT_size hn
  have hsz : s.size + (cnT n).size ≤ 9223372036854775807 := by omega
  go_enter Tryz.func101, Tryz.ntmps101
  go_wp2_with fail
  refine wp_loop_rounds 2 ?_
  rw [rounds_succ]
  go_wp2_with fail
  refine (HN.out _).mono ?_
  rintro e w1 ⟨rfl, hb⟩
  go_wp2_with fail
  rw [rounds_succ]
  go_wp2_with fail
  go_ret
  exact ⟨rfl, hb⟩
theorem snone_any (st k : Nat) (v : Value) (w : World) (h : Blk w st [.pointer (some ⟨k, 0, none⟩), v] 172) :
    Calls Tryz.prog 95 #[.pointer (some ⟨st, 0, none⟩)] w fun e w' => e = .returned (.bool false) ∧ w = w' := by
  have c0 : w.cell? ⟨st, 0, none⟩ = some (.pointer (some ⟨k, 0, none⟩)) := h.cell 0
  clear h
  go_enter Tryz.func95, Tryz.ntmps95
  go_wp2_with fail
  go_ret
  exact ⟨rfl, rfl⟩
theorem sgens_nothing (st k : Nat) (w : World) (h : Blk w st [.pointer (some ⟨k, 0, none⟩), .slice none 0 0] 172) :
    Calls Tryz.prog 49 #[.pointer (some ⟨st, 0, none⟩)] w fun e w' => e = .returned (.slice none 0 0) ∧ w = w' := by
  have c1 : w.cell? ⟨st, 1, none⟩ = some (.slice none 0 0) := h.cell 1
  have HN := Lib.hid (snone_any st k _ w h)
  clear h
  go_enter Tryz.func49, Tryz.ntmps49
  go_wp2_with fail
  refine HN.out.mono ?_
  rintro e w1 ⟨rfl, rfl⟩
  go_wp2_with fail
  refine wp_loop_rounds 1 ?_
  rw [rounds_succ]
  go_wp2_with fail
  go_ret
  exact ⟨rfl, rfl⟩
theorem srecords_nothing (st k : Nat) (w : World) (h : Blk w st [.pointer (some ⟨k, 0, none⟩), .slice none 0 0] 172) :
    Calls Tryz.prog 243 #[.pointer (some ⟨st, 0, none⟩)] w fun e w' => e = .returned (.slice none 0 0) ∧ w = w' := by
  have c1 : w.cell? ⟨st, 1, none⟩ = some (.slice none 0 0) := h.cell 1
  have HN := Lib.hid (snone_any st k _ w h)
  clear h
  go_enter Tryz.func243, Tryz.ntmps243
  go_wp2_with fail
  refine HN.out.mono ?_
  rintro e w1 ⟨rfl, rfl⟩
  go_wp2_with fail
  refine wp_loop_rounds 1 ?_
  rw [rounds_succ]
  go_wp2_with fail
  go_ret
  exact ⟨rfl, rfl⟩
theorem join_nothing (w : World) : Calls Tryz.prog 177 #[.slice none 0 0, .string ⟨#[]⟩] w fun e w' => e = .returned (.string ⟨#[]⟩) ∧ w = w' := by
  go_enter Tryz.func177, Tryz.ntmps177
  go_wp2_with fail
  go_ret
  exact ⟨rfl, rfl⟩
theorem sbytes_nothing (st k : Nat) (w : World) (h : Blk w st [.pointer (some ⟨k, 0, none⟩), .slice none 0 0] 172) :
    Calls Tryz.prog 176 #[.pointer (some ⟨st, 0, none⟩)] w fun e w' => e = .returned (.int .i64 0) ∧ w = w' := by
  have HN := Lib.hid (snone_any st k _ w h)
  have HR := Lib.hid (srecords_nothing st k w h)
  have HJ := Lib.hid (join_nothing w)
  clear h
  go_enter Tryz.func176, Tryz.ntmps176
  go_wp2_with fail
  refine HN.out.mono ?_
  rintro e w1 ⟨rfl, rfl⟩
  go_wp2_with fail
  refine HR.out.mono ?_
  rintro e w1 ⟨rfl, rfl⟩
  go_wp2_with fail
  refine HJ.out.mono ?_
  rintro e w1 ⟨rfl, rfl⟩
  go_wp2_with fail
  go_ret
  exact ⟨rfl, rfl⟩
end Go.Proofs.YtaeklleogniimaaGreatDoor
namespace Go.Proofs.YtaeklleogniimaaGreatDoor
open Go.RowKit Go.Extern.Stop Go.Stop Go.Extern
set_option linter.unusedVariables false

def eiMeth : Array Value → Sem Value := Extern.ReflectliteType.method fun t => do Extern.Rtype.noPackHeld "Comparable" t; pure (.bool (← typeInfo t).comparable)
theorem eiTypeOf (v : Value) (w : World) : (Extern.ReflectliteType.typeOf #[.iface 29 v]).run Tryz.prog w = .ok (.iface 334 (.agg #[typeHandle Tryz.prog 29])) w := by kernel_rfl
theorem eiComparable (w : World) : (eiMeth #[.agg #[typeHandle Tryz.prog 29]]).run Tryz.prog w = .ok (.bool true) w := by kernel_rfl
theorem eiMethod (v : Value) (n : Nat) (w : World) : (Go.method (n + 1) 334 v "Comparable").run Tryz.prog w = .ok (334, v) w := by kernel_rfl
theorem eiNoIs (v : Value) (xT : TypeId) (w : World) : (Instr.typeAssert (.iface 29 v) xT 336 true).run Tryz.prog w = .ok (.tuple #[.nilIface, .bool false]) w := run_typeAssert_lacksB Tryz.underlying336 (by kernel_rfl) (by kernel_rfl) v xT w
theorem eiNoUn (v : Value) (xT : TypeId) (w : World) : (Instr.typeAssert (.iface 29 v) xT 339 true).run Tryz.prog w = .ok (.tuple #[.nilIface, .bool false]) w := run_typeAssert_lacksB Tryz.underlying339 (by kernel_rfl) (by kernel_rfl) v xT w
theorem eiNoUns (v : Value) (xT : TypeId) (w : World) : (Instr.typeAssert (.iface 29 v) xT 341 true).run Tryz.prog w = .ok (.tuple #[.nilIface, .bool false]) w := run_typeAssert_lacksB Tryz.underlying341 (by kernel_rfl) (by kernel_rfl) v xT w
theorem eiEql (w : World) : (binOp .eql 186 (.iface 29 (.int .i64 0)) (.iface 29 (.int .i64 7))).run Tryz.prog w = .ok (.bool false) w := by kernel_rfl
theorem eiNilL (w : World) : (binOp .eql 186 (.iface 29 (.int .i64 0)) .nilIface).run Tryz.prog w = .ok (.bool false) w := by kernel_rfl
theorem eiNilR (w : World) : (binOp .eql 186 (.iface 29 (.int .i64 7)) .nilIface).run Tryz.prog w = .ok (.bool false) w := by kernel_rfl
set_option maxRecDepth 100000 in
set_option maxHeartbeats 1000000 in
theorem errIs_ok (w : World) : Calls Tryz.prog 171 #[.iface 29 (.int .i64 0), .iface 29 (.int .i64 7)] w fun e w' => e = .returned (.bool false) ∧ w = w' := by
  have h8 := @run_callFunc_extern Tryz.prog 241 _ Extern.ReflectliteType.typeOf Tryz.func241 (by kernel_rfl) (by kernel_rfl) (by kernel_rfl) (by kernel_rfl)
  have h32 := @run_callFunc_extern Tryz.prog 334 _ eiMeth Tryz.func334 (by kernel_rfl) (by kernel_rfl) (by kernel_rfl) (by kernel_rfl)
  have tT := eiTypeOf
  have cT := eiComparable
  have mR := eiMethod
  have nE := eiNoIs
  have uE := eiNoUn
  have vE := eiNoUns
  have e1 := eiEql
  have e2 := eiNilL
  have e3 := eiNilR
  go_enter Tryz.func171, Tryz.ntmps171
  go_wp2
  refine wp_loop_rounds 1 ?_
  rw [rounds_succ]
  go_wp2
  go_ret
  exact ⟨rfl, rfl⟩
end Go.Proofs.YtaeklleogniimaaGreatDoor
namespace Go.Proofs.YtaeklleogniimaaGreatDoor
open Go Go.RowKit
set_option linter.unusedVariables false

theorem VltAt.set {w : World} {v : Nat} {id : Int} {d k lg st : Nat} {pr : Int} (h : VltAt w v id d k lg st pr) (n : Int) : VltAt (w.setCell ⟨v, 4, none⟩ (.int .i64 n)) v id d k lg st n :=
  ⟨h.1.set 4 (.int .i64 n), h.2.touch (touchV (b := v) (o := 4) (Touch.refl (fun k => k = v) w) (.int .i64 n)) (fun e => (h.1.ne h.2 (by decide)) e.symm)⟩
theorem VltAt.below {w w' : World} {v : Nat} {id : Int} {d k lg st : Nat} {pr : Int} (h : VltAt w v id d k lg st pr) (hb : Below w.heap.size w w') : VltAt w' v id d k lg st pr := ⟨h.1.below hb, h.2.below hb⟩
def rec5 : ByteArray := ⟨#[80, 5]⟩
theorem num5 : (Rr.mk [5] 0).num = (5, ⟨[], 0⟩) := by kernel_rfl
theorem fin5 : (Rr.mk [] 0).fin = ⟨[], 0⟩ := by kernel_rfl
set_option maxRecDepth 100000 in
theorem do_five (v : Nat) (id : Int) (d k lg st : Nat) (pr : Int) (w : World) (h : VltAt w v id d k lg st pr) :
    Calls Tryz.prog 35 #[.pointer (some ⟨v, 4, none⟩), .string ⟨#[80, 5]⟩] w fun e w' => e = .returned (.int .i64 0) ∧ VltAt w' v id d k lg st 5 ∧ Touch (fun j => j = v) w w' := by
  have HV := Lib.hid h
  have HRd := Lib.hid (fun W => codeRead_any [5] W)
  have HNum := Lib.hid (fun b W (h : RdAt W b [5] ⟨[5], 0⟩) => (by have := rdNum_any b [5] ⟨[5], 0⟩ W h (by decide); rw [num5] at this; exact this : Calls Tryz.prog 86 #[.pointer (some ⟨b, 0, none⟩)] W fun e w' => e = .returned (.int .i64 5) ∧ RdAt w' b [5] ⟨[], 0⟩ ∧ Touch (fun k => k = b) W w'))
  have HEnd := Lib.hid (fun b W (h : RdAt W b [5] ⟨[], 0⟩) => (by have := rdEnd_any b [5] ⟨[], 0⟩ W h (by decide); rw [fin5] at this; exact this : Calls Tryz.prog 87 #[.pointer (some ⟨b, 0, none⟩)] W fun e w' => e = .returned (.int .i64 0) ∧ RdAt w' b [5] ⟨[], 0⟩ ∧ Touch (fun k => k = b) W w'))
  clear h
  go_enter Tryz.func35, Tryz.ntmps35
  go_wp2_with fail
  refine (HRd.out _).mono ?_
  rintro e w1 ⟨b, rfl, hb, hr, hb1⟩
  have HB1 := Lib.hid hb1
  have HR1 := Lib.hid hr
  have HL := Lib.hid hb
  have Hne := Lib.hid (fun e : v = b => by subst e; have := HV.out.1.lt; omega : v ≠ b)
  clear hr hb1 hb HRd
  go_wp2_with fail
  refine (HNum.out _ _ HR1.out).mono ?_
  rintro e w2 ⟨rfl, hr2, ht2⟩
  have HR2 := Lib.hid hr2
  have HT2 := Lib.hid (HB1.out.trans (ht2.below HB1.out.size (fun j hj hh => by have := HL.out; omega)))
  clear hr2 ht2 HNum HR1
  go_wp2_with fail
  refine (HEnd.out _ _ HR2.out).mono ?_
  rintro e w3 ⟨rfl, hr3, ht3⟩
  have HR3 := Lib.hid hr3
  have HT3 := Lib.hid (HT2.out.trans (ht3.below HT2.out.size (fun j hj hh => by have := HL.out; omega)))
  clear hr3 ht3 HEnd HR2
  have HV3 := Lib.hid (HV.out.below HT3.out)
  have k4 : w3.cell? ⟨v, 4, none⟩ = some (.int .i64 pr) := HV3.out.1.cell 4
  have f4 : w3.frozen? ⟨v, 4, none⟩ = false := HV3.out.1.free 4
  go_wp2_with fail
  have HRE := Lib.hid (HR3.out.touch (touchV (b := v) (o := 4) (Touch.refl (fun k => k = v) w3) (.int .i64 5)) (fun e => Hne.out e.symm))
  have HV4 := Lib.hid (HV3.out.set 5)
  have HT4 := Lib.hid (show Touch (fun j => j = v) w (w3.setCell ⟨v, 4, none⟩ (.int .i64 5)) from touchV (b := v) (o := 4) (Touch.of_below HT3.out) (.int .i64 5))
  refine (rdErr_any _ _ _ _ HRE.out).mono ?_
  rintro e w4 ⟨rfl, rfl⟩
  go_wp2_with fail
  go_ret
  exact ⟨rfl, HV4.out, HT4.out⟩
end Go.Proofs.YtaeklleogniimaaGreatDoor
namespace Go.Proofs.YtaeklleogniimaaGreatDoor
open Go Go.RowKit
set_option linter.unusedVariables false

def vR0 : WR := wformat (newP 400) []
def vR1 : WR := wappend vR0.P vR0.B vR0.L ⟨#[80, 5]⟩
def vS1 : Int × PS := vR1.P.syncR
theorem vR0_e : vR0.e = 0 := by kernel_rfl
theorem vR1_e : vR1.e = 0 := by kernel_rfl
theorem vS1_e : vS1.1 = 0 := by kernel_rfl
theorem vR0_B : vR0.B.length = 1 := by kernel_rfl
theorem vR1_B : vR1.B.length = 2 := by kernel_rfl
theorem vR0_L : vR0.L.Ok := wformat_L _ _
theorem vR1_L : vR1.L.Ok := wput_L vR0_L _ _
theorem vR1_size : decide (vR1.L.e ≤ 1000) = true := by kernel_rfl
attribute [irreducible] vR0 vR1 vS1
theorem VltAt.kept {b k mb lg : Nat} {Bk : List ByteArray} {w w' : World} {v : Nat} {id : Int} {st : Nat} {pr : Int} (h : VltAt w v id b k lg st pr) {X : Nat → Prop} (hk : Kept b k mb Bk X w w') (hv : ¬ X v) (hs : ¬ X st) : VltAt w' v id b k lg st pr :=
  ⟨hk.blk h.1 (by unfold FarT; decide) hv, hk.blk h.2 (by unfold FarT; decide) hs⟩
/-- the vault's own field turned: the device, the book and the log stand -/
theorem Own.vault {B0 : Nat} {w0 w w' : World} {b k mb n lg : Nat} {P : PS} {Bk : List ByteArray} {v : Nat} {id : Int} {st : Nat} {pr : Int} (h : Own B0 w0 b k mb P Bk n w) (hv : VltAt w v id b k lg st pr) (hb : B0 ≤ v) (ht : Touch (fun j => j = v) w w') : Own B0 w0 b k mb P Bk n w' := by
  obtain ⟨S, hp, hR, hf⟩ := h.dev
  exact h.also ht (fun j hj => by subst hj; exact hb) (fun S hR j hj e => by subst e; exact foot_not hR.dev hv.1 (by decide) hj) (fun e => (Blk.ne hv.1 hR.book.at_ (by decide)) e.symm) (fun e => hR.book.mb_ne hv.1 e.symm)
/-- other objects, beside the vault and its log, stand -/
def Stays (v lg : Nat) (w w' : World) : Prop := ∀ j cs T, Blk w j cs T → FarT T → j ≠ v → j ≠ lg → Blk w' j cs T
theorem Stays.trans {v lg : Nat} {w w1 w2 : World} (h : Stays v lg w w1) (k : Stays v lg w1 w2) : Stays v lg w w2 := fun j cs T hb hT h1 h2 => k j cs T (h j cs T hb hT h1 h2) hT h1 h2
theorem Stays.below {v lg : Nat} {w w' : World} (h : Below w.heap.size w w') : Stays v lg w w' := fun j cs T hb hT h1 h2 => hb.below h
set_option maxRecDepth 100000 in
set_option maxHeartbeats 1000000 in
theorem write_five {B0 : Nat} {w0 w : World} {b k mb lg v st g : Nat} (h : Own B0 w0 b k mb vR0.P vR0.B 4194305 w) (hl : LogAt w lg b k vR0.L) (hv : VltAt w v 3 b k lg st 0) (hBv : B0 ≤ v) (hBl : B0 ≤ lg)
    (hc : w.cell? ⟨g, 0, none⟩ = some (.string ⟨#[80, 5]⟩)) :
    Calls Tryz.prog 100 #[.pointer (some ⟨v, 0, none⟩), .slice (some ⟨g, 0, none⟩) 1 1] w fun e w' => e = .returned (.int .i64 0) ∧ Own B0 w0 b k mb vS1.2 vR1.B 6291457 w' ∧ LogAt w' lg b k vR1.L ∧ VltAt w' v 3 b k lg st 5 ∧ Stays v lg w w' := by
  have HV := Lib.hid hv
  have HA := Lib.hid (show Calls Tryz.prog 170 #[.pointer (some ⟨lg, 0, none⟩), .string ⟨#[80, 5]⟩] w fun e w' => e = .returned (.int .i64 0) ∧ Hid (Own B0 w0 b k mb vR1.P vR1.B 6291457 w' ∧ LogAt w' lg b k vR1.L ∧ VltAt w' v 3 b k lg st 0 ∧ Stays v lg w w') from by
    refine (own_append h hBl hl vR0_L (by omega) (by rw [vR0_B]; decide) ⟨#[80, 5]⟩).mono ?_
    have e0 : vR1 = wappend vR0.P vR0.B vR0.L ⟨#[80, 5]⟩ := by unfold vR1; rfl
    rw [← e0]
    rintro e w' ⟨rfl, ho, hl', hk⟩
    exact ⟨by rw [vR1_e], Lib.hid ⟨ho, hl', hv.kept hk (hv.1.ne hl (by decide)) (hv.2.ne hl (by decide)), fun j cs T hb hT h1 h2 => hk.blk hb hT h2⟩⟩)
  have HS := Lib.hid (fun W (h : Own B0 w0 b k mb vR1.P vR1.B 6291457 W ∧ LogAt W lg b k vR1.L ∧ VltAt W v 3 b k lg st 0 ∧ Stays v lg w W) => (show Calls Tryz.prog 174 #[.pointer (some ⟨lg, 0, none⟩)] W fun e w' => e = .returned (.int .i64 0) ∧ Hid (Own B0 w0 b k mb vS1.2 vR1.B 6291457 w' ∧ LogAt w' lg b k vR1.L ∧ VltAt w' v 3 b k lg st 0 ∧ Stays v lg w w') from by
    refine (own_sync h.1 h.2.1 (by omega)).mono ?_
    have e0 : vS1 = vR1.P.syncR := by unfold vS1; rfl
    rw [← e0]
    rintro e w' ⟨rfl, ho, hk⟩
    exact ⟨by rw [vS1_e], Lib.hid ⟨ho, hk.blk h.2.1 (by unfold FarT; decide) (fun h => h), h.2.2.1.kept hk (fun h => h) (fun h => h), h.2.2.2.trans (fun j cs T hb hT h1 h2 => hk.blk hb hT (fun h => h))⟩⟩))
  have HD := Lib.hid (fun W (h : Own B0 w0 b k mb vS1.2 vR1.B 6291457 W ∧ LogAt W lg b k vR1.L ∧ VltAt W v 3 b k lg st 0 ∧ Stays v lg w W) => (show Calls Tryz.prog 35 #[.pointer (some ⟨v, 4, none⟩), .string ⟨#[80, 5]⟩] W fun e w' => e = .returned (.int .i64 0) ∧ Hid (Own B0 w0 b k mb vS1.2 vR1.B 6291457 w' ∧ LogAt w' lg b k vR1.L ∧ VltAt w' v 3 b k lg st 5 ∧ Stays v lg w w') from by
    refine (do_five v 3 b k lg st 0 W h.2.2.1).mono ?_
    rintro e w' ⟨rfl, hv', ht⟩
    exact ⟨rfl, Lib.hid ⟨h.1.vault h.2.2.1 hBv ht, Blk.touch h.2.1 ht (fun e => (h.2.2.1.1.ne h.2.1 (by decide)) e.symm), hv', h.2.2.2.trans (fun j cs T hb hT h1 h2 => hb.touch ht h1)⟩⟩))
  have HE := Lib.hid (fun W => errIs_ok W)
  have hsz : decide (vR1.L.e ≤ 1000) = true := vR1_size
  have hsz1 : vR1.L.e ≤ 1000 := of_decide_eq_true hsz
  obtain ⟨z, Hz⟩ : ∃ z, Hid (z = vR1.L.e) := ⟨_, Lib.hid rfl⟩
  rw [← Hz.out] at hsz1
  have HZ := Lib.hid (fun W (h : LogAt W lg b k vR1.L) => (by have := logSize_any lg b k vR1.L W h; rw [← Hz.out] at this; exact this : Calls Tryz.prog 175 #[.pointer (some ⟨lg, 0, none⟩)] W fun e w' => e = .returned (.int .i64 (z : Int)) ∧ W = w'))
  have HB := Lib.hid (fun W (h : VltAt W v 3 b k lg st 5) => sbytes_nothing st k W h.2)
  have k3 : w.cell? ⟨v, 3, none⟩ = some (.pointer (some ⟨lg, 0, none⟩)) := hv.1.cell 3
  have hgz : ¬ ((32768 : Int) < (z : Int)) := by omega
  clear h hl hv hBv hBl hsz Hz
  go_enter Tryz.func100, Tryz.ntmps100
  go_wp2_with fail
  refine HA.out.mono ?_
  rintro e w1 ⟨rfl, HO1⟩
  clear HA k3 hc
  go_wp2_with fail
  refine (HE.out _).mono ?_
  rintro e w2 ⟨rfl, rfl⟩
  have k3 : w1.cell? ⟨v, 3, none⟩ = some (.pointer (some ⟨lg, 0, none⟩)) := HO1.out.2.2.1.1.cell 3
  go_wp2_with fail
  refine (HS.out _ HO1.out).mono ?_
  rintro e w2 ⟨rfl, HO2⟩
  clear HS k3 HO1 HE
  go_wp2_with fail
  refine (HD.out _ HO2.out).mono ?_
  rintro e w3 ⟨rfl, HO3⟩
  clear HD HO2
  have HAt := Lib.hid (show ∀ n, LogAt (w3.drewN n) lg b k vR1.L ∧ VltAt (w3.drewN n) v 3 b k lg st 5 from fun n => ⟨Blk.drewN HO3.out.2.1 n, Blk.drewN HO3.out.2.2.1.1 n, Blk.drewN HO3.out.2.2.1.2 n⟩)
  have k3 : w3.cell? ⟨v, 3, none⟩ = some (.pointer (some ⟨lg, 0, none⟩)) := HO3.out.2.2.1.1.cell 3
  have k8 : w3.cell? ⟨v, 8, none⟩ = some (.pointer (some ⟨st, 0, none⟩)) := HO3.out.2.2.1.1.cell 8
  go_wp2_with fail
  go_quiet (first | (go_at_call 175; first | exact quiet_left (HZ.out _ (HAt.out _).1) | exact quiet_add_left (HZ.out _ (HAt.out _).1)) | (go_at_call 176; first | exact quiet_left (HB.out _ (HAt.out _).2) | exact quiet_add_left (HB.out _ (HAt.out _).2)))
  go_wp2_with fail
  go_ret
  exact ⟨rfl, HO3.out.1.below (below_drewN (Below.refl _ _) _), (HAt.out _).1, (HAt.out _).2, fun j cs T hb hT h1 h2 => Blk.drewN (HO3.out.2.2.2 j cs T hb hT h1 h2) _⟩
end Go.Proofs.YtaeklleogniimaaGreatDoor
namespace Go.Proofs.YtaeklleogniimaaGreatDoor
open Go Go.RowKit
set_option linter.unusedVariables false

def msgVals (kind from_ to_ ballot : Int) : List Value := [.int .i64 kind, .int .i64 from_, .int .i64 to_, .int .i64 ballot, .int .i64 0, .int .i64 0, .int .i64 0, .int .i64 0, .int .i64 0, .string ⟨#[]⟩, .int .i64 0, .int .i64 0, .string ⟨#[]⟩, .slice none 0 0]
theorem vR0_off : vR0.P.off = false := by unfold vR0; kernel_rfl
theorem vS1_off : vS1.2.off = false := by unfold vS1 vR1 vR0; kernel_rfl
theorem own_up {B0 : Nat} {w0 w : World} {b k mb n : Nat} {P : PS} {Bk : List ByteArray} (h : Own B0 w0 b k mb P Bk n w) (ho : P.off = false) : Calls Tryz.prog 97 #[.pointer (some ⟨b, 0, none⟩)] w fun e w' => e = .returned (.bool true) ∧ w = w' := by
  obtain ⟨S, hp, hR, hf⟩ := h.dev
  have e : S.off = false := by rw [← hp] at ho; exact ho
  have := up_any b S w hR.dev
  rw [e] at this
  exact this
theorem vnone_up {B0 : Nat} {w0 w : World} {b k mb n lg v st : Nat} {id pr : Int} {P : PS} {Bk : List ByteArray} (h : Own B0 w0 b k mb P Bk n w) (ho : P.off = false) (hv : VltAt w v id b k lg st pr) : Calls Tryz.prog 37 #[.pointer (some ⟨v, 0, none⟩)] w fun e w' => e = .returned (.bool false) ∧ w = w' := by
  have HU := Lib.hid (own_up h ho)
  have k3 : w.cell? ⟨v, 3, none⟩ = some (.pointer (some ⟨lg, 0, none⟩)) := hv.1.cell 3
  have k10 : w.cell? ⟨v, 10, none⟩ = some (.bool false) := hv.1.cell 10
  have k1 : w.cell? ⟨v, 1, none⟩ = some (.pointer (some ⟨b, 0, none⟩)) := hv.1.cell 1
  clear h hv ho
  go_enter Tryz.func37, Tryz.ntmps37
  go_wp2_with (go_at_call 97; refine HU.out.mono ?_; rintro e w' ⟨rfl, rfl⟩)
  go_ret
  exact ⟨rfl, rfl⟩
theorem vmarked {w : World} {v b k lg st : Nat} {id pr : Int} (hv : VltAt w v id b k lg st pr) : Calls Tryz.prog 102 #[.pointer (some ⟨v, 0, none⟩)] w fun e w' => e = .returned (.slice none 0 0) ∧ w = w' := by
  have HG := Lib.hid (sgens_nothing st k w hv.2)
  have k7 : w.cell? ⟨v, 7, none⟩ = some (.slice none 0 0) := hv.1.cell 7
  have k8 : w.cell? ⟨v, 8, none⟩ = some (.pointer (some ⟨st, 0, none⟩)) := hv.1.cell 8
  clear hv
  go_enter Tryz.func102, Tryz.ntmps102
  go_wp2_with fail
  refine HG.out.mono ?_
  rintro e w1 ⟨rfl, rfl⟩
  go_wp2_with fail
  refine wp_loop_rounds 1 ?_
  rw [rounds_succ]
  go_wp2_with fail
  go_ret
  exact ⟨rfl, rfl⟩
set_option maxRecDepth 100000 in
theorem bound_five {B0 : Nat} {w0 w : World} {b k mb lg v st : Nat} (h : Own B0 w0 b k mb vR0.P vR0.B 4194305 w) (hl : LogAt w lg b k vR0.L) (hv : VltAt w v 3 b k lg st 0) (hBv : B0 ≤ v) (hBl : B0 ≤ lg) :
    Calls Tryz.prog 40 #[.pointer (some ⟨v, 0, none⟩), .int .i64 5] w fun e w' => e = .returned (.tuple #[.bool false, .bool true]) ∧ Own B0 w0 b k mb vS1.2 vR1.B 6291457 w' ∧ LogAt w' lg b k vR1.L ∧ VltAt w' v 3 b k lg st 5 ∧ Stays v lg w w' := by
  have k4 : w.cell? ⟨v, 4, none⟩ = some (.int .i64 0) := hv.1.cell 4
  have HN := Lib.hid (fun g W (hc : W.cell? ⟨g, 0, none⟩ = some (.int .i64 5)) => (vnum_one ⟨#[80]⟩ g 5 W (by decide) (by decide) hc : Calls Tryz.prog 101 #[.string ⟨#[80]⟩, .slice (some ⟨g, 0, none⟩) 1 1] W fun e w' => e = .returned (.string (⟨#[80]⟩ ++ cnT 5)) ∧ Below W.heap.size W w'))
  have e5 : (⟨#[80]⟩ : ByteArray) ++ cnT 5 = ⟨#[80, 5]⟩ := by unfold cnT; rw [cnL_small (by decide)]; kernel_rfl
  rw [e5] at HN
  have HW := Lib.hid (fun g W (hb : Below w.heap.size w W) (hc : W.cell? ⟨g, 0, none⟩ = some (.string ⟨#[80, 5]⟩)) => write_five (g := g) (h.below hb) (Blk.below hl hb) (hv.below hb) hBv hBl hc)
  clear h hl hv hBv hBl e5
  go_enter Tryz.func40, Tryz.ntmps40
  go_wp2_with fail
  refine (HN.out _ _ ((Blk.new w [.int .i64 5] 3).cell 0)).mono ?_
  rintro e w1 ⟨rfl, hb⟩
  have HB := Lib.hid (below_step ((Below.refl w.heap.size w).alloc (Nat.le_refl _) (.cells #[.int .i64 5] 3)) hb)
  clear hb HN k4
  go_wp2_with fail
  refine (HW.out _ _ (HB.out.alloc HB.out.size _) ((Blk.new w1 [.string ⟨#[80, 5]⟩] 9).cell 0)).mono ?_
  rintro e w2 ⟨rfl, ho⟩
  have HO := Lib.hid (⟨ho.1, ho.2.1, ho.2.2.1, Stays.trans (Stays.below (HB.out.alloc HB.out.size _)) ho.2.2.2⟩ : Own B0 w0 b k mb vS1.2 vR1.B 6291457 w2 ∧ LogAt w2 lg b k vR1.L ∧ VltAt w2 v 3 b k lg st 5 ∧ Stays v lg w w2)
  clear HW ho HB
  go_wp2_with fail
  go_ret2
  exact ⟨rfl, HO.out⟩
end Go.Proofs.YtaeklleogniimaaGreatDoor
