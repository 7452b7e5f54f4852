/- The walk of a coordinator's parts, its middle: the text is c -/
import Derived.Test.YtaemlplcjjbamaaGreatDoorBGPartL
namespace Go.Proofs.YtaemlplcjjbamaaGreatDoor
open Go.Lib (hid)
set_option maxRecDepth 100000
set_option maxHeartbeats 8000000
open Go Go.RowKit
set_option linter.unusedVariables false
variable {P : Program} {Q : Exit → Act → World → Prop} {Z c kb mb n : Nat} {bal id : Int} {w w0 wc : World}
attribute [local go_sem ↓] Go.wp_at_zero Go.wp_at_succ
def cAt : List Nat → Code → Code
 | [], c => c
 | 0 :: l, .seq a _ => cAt l a
 | 1 :: l, .seq _ b => cAt l b
 | 2 :: l, .cond _ a _ => cAt l a
 | 3 :: l, .cond _ _ b => cAt l b
 | 4 :: l, .block _ b => cAt l b
 | 5 :: l, .scope b => cAt l b
 | _ :: _, c => c
def fAt (l : List Nat) (f : Func) : Code := match f.body with | some c => cAt l c | none => .ret
theorem wp_at {l : List Nat} {f : Func} {c1 c2 : Code} {a : Act} (h : fAt l f = .seq c1 c2) (hw : (Code.seq c1 c2).wp P Q a w) : (fAt l f).wp P Q a w := h ▸ hw
theorem use_K {K P : Act → World → Prop} {a : Act} (h : ∀ a w, P a w → K a w) (hp : P a w) : K a w := h a w hp
theorem gparts_mid {G : Gh} {D : Dt} {S : CSt} (hprs : S.peers = zAg D.ps) (hps : D.ps.length = 9) (v : Nat) (hv : v < 9) (p : Peer) (Hpv : Hid (p = D.ps[v]'(by omega))) (gen : Int) (mk : ByteArray) (T : List UInt8)
  (bs2 : Int) (s2 : List UInt8) (Bk2 : List ByteArray) (HG2 : Hid (Gc w0 c kb mb n id bal (G.more 1048579) Z { D with Bk := Bk2 } S wc)) (HS2 : Hid (s2.length ≤ 524289)) (HF2 : Hid (Fr w0 w wc)) (KP : Act → World → Prop)
  (HKP : ∀ (u10 u12 u13 u14 u15 u18 u19 u20 u21 u22 u23 u24 u25 u26 u27 u28 u29 u30 u31 u32 u33 u34 u35 u36 u37 u38 u39 u40 u41 u42 u43 u44 u45 u46 u47 u48 u49 u50 u51 u52 u53 u54 u55 u56 u57 u58 u59 u60 u61 u62 u63 u64 u65 u66 u67 u68 u69 u70 u71 u72 u73 u74 u75 u76 u77 u78 u79 u80 u81 u82 u83 u84 u85 u86 u87 u88 u89 u90 u91 u92 u93 u94 u95 u96 u97 u98 u99 u100 u101 u102 u103 u104 u105 u106 u107 u108 u109 u110 u111 u112 u113 u114 u115 u116 u117 u118 u119 u120 u121 u122 u123 u124 u125 u126 u127 u128 u129 u130 u131 u132 u133 u134 u135 u136 u137 u138 u139 u140 u141 u142 u143 u144 u145 u146 u147 u148 u151 u152 u153 u154 u155 u156 u157 u158 u159 u160 u161 u162 u163 u164 u165 u166 u167 u168 u169 u170 u171 u172 u173 u174 u175 u176 u177 u178 u179 u180 u181 u182 u183 u184 u185 u186 u187 u188 u189 u190 u191 u192 u193 u194 u195 u196 u197 u198 u199 u200 u201 u202 u203 : Value) (wx : World), (∃ (D2 : Dt) (S2 : CSt), Hid (Gc w0 c kb mb n id bal (G.more 1048579) Z D2 S2 wx) ∧ Hid (∃ p2 ∈ D2.ps[v]?, zFO w0.heap.size wx p2) ∧ Hid (Fr w0 w wx)) → KP ⟨List.toArray (.pointer (some ⟨c, 0, none⟩) :: .int .i64 (v : Int) :: .int .i64 gen :: .string mk :: .string (ba T) :: undef :: undef :: undef :: undef :: undef :: u10 :: .pointer (some ⟨c, 12 + v * 8, none⟩) :: u12 :: u13 :: u14 :: u15 :: undef :: undef :: u18 :: u19 :: u20 :: u21 :: u22 :: u23 :: u24 :: u25 :: u26 :: u27 :: u28 :: u29 :: u30 :: u31 :: u32 :: u33 :: u34 :: u35 :: u36 :: u37 :: u38 :: u39 :: u40 :: u41 :: u42 :: u43 :: u44 :: u45 :: u46 :: u47 :: u48 :: u49 :: u50 :: u51 :: u52 :: u53 :: u54 :: u55 :: u56 :: u57 :: u58 :: u59 :: u60 :: u61 :: u62 :: u63 :: u64 :: u65 :: u66 :: u67 :: u68 :: u69 :: u70 :: u71 :: u72 :: u73 :: u74 :: u75 :: u76 :: u77 :: u78 :: u79 :: u80 :: u81 :: u82 :: u83 :: u84 :: u85 :: u86 :: u87 :: u88 :: u89 :: u90 :: u91 :: u92 :: u93 :: u94 :: u95 :: u96 :: u97 :: u98 :: u99 :: u100 :: u101 :: u102 :: u103 :: u104 :: u105 :: u106 :: u107 :: u108 :: u109 :: u110 :: u111 :: u112 :: u113 :: u114 :: u115 :: u116 :: u117 :: u118 :: u119 :: u120 :: u121 :: u122 :: u123 :: u124 :: u125 :: u126 :: u127 :: u128 :: u129 :: u130 :: u131 :: u132 :: u133 :: u134 :: u135 :: u136 :: u137 :: u138 :: u139 :: u140 :: u141 :: u142 :: u143 :: u144 :: u145 :: u146 :: u147 :: u148 :: undef :: undef :: u151 :: u152 :: u153 :: u154 :: u155 :: u156 :: u157 :: u158 :: u159 :: u160 :: u161 :: u162 :: u163 :: u164 :: u165 :: u166 :: u167 :: u168 :: u169 :: u170 :: u171 :: u172 :: u173 :: u174 :: u175 :: u176 :: u177 :: u178 :: u179 :: u180 :: u181 :: u182 :: u183 :: u184 :: u185 :: u186 :: u187 :: u188 :: u189 :: u190 :: u191 :: u192 :: u193 :: u194 :: u195 :: u196 :: u197 :: u198 :: u199 :: u200 :: u201 :: u202 :: u203 :: []), []⟩ wx) (u18 u19 u20 u21 u22 u23 u24 u25 u26 u27 u28 u29 u30 u31 u32 u33 u34 u35 u36 u37 u38 u39 u40 u41 u42 u43 u44 u45 u46 u47 u48 u49 u50 u51 u52 u53 u54 u55 u56 u57 u58 u59 u60 u61 u62 u63 u64 u65 u66 u67 u68 u69 u70 u71 u72 u73 u74 u75 u76 u77 u78 u79 u80 u81 u82 u83 u84 u85 u86 u87 u88 u89 u90 u91 u92 u93 u94 u95 u96 u97 u98 u99 u100 u101 u102 u103 u104 u105 u106 u107 u108 u109 u110 u111 u112 u113 u114 u115 u116 u117 u118 u119 u120 u121 u122 u123 u124 u125 u126 u127 u128 u129 u130 u131 u132 u133 u134 u135 u136 u137 u138 u139 u140 u141 u142 u143 u144 u145 u146 u147 u148 u151 u152 u153 u154 u155 u156 u157 u158 u159 u160 u161 u162 u163 u164 u165 u166 u167 u168 u169 u170 u171 u172 u173 u174 u175 u176 u177 u178 u179 u180 u181 u182 u183 u184 u185 u186 u187 u188 u189 u190 u191 u192 u193 u194 u195 u196 u197 u198 u199 u200 u201 u202 u203 : Value) :
  Code.wp Tryz.prog (fAt [1, 1, 0, 1, 2, 1, 1] Tryz.f59) (Exit.then KP (bodyPost Tryz.prog Tryz.f59 (zBx w0 c kb mb n id bal G Z w))) ⟨List.toArray (.pointer (some ⟨c, 0, none⟩) :: .int .i64 (v : Int) :: .int .i64 gen :: .string mk :: .string (ba T) :: undef :: undef :: undef :: undef :: undef :: .slice none 0 0 :: .pointer (some ⟨c, 12 + v * 8, none⟩) :: .int .i64 bs2 :: .string (ba s2) :: undef :: undef :: undef :: undef :: u18 :: u19 :: u20 :: u21 :: u22 :: u23 :: u24 :: u25 :: u26 :: u27 :: u28 :: u29 :: u30 :: u31 :: u32 :: u33 :: u34 :: u35 :: u36 :: u37 :: u38 :: u39 :: u40 :: u41 :: u42 :: u43 :: u44 :: u45 :: u46 :: u47 :: u48 :: u49 :: u50 :: u51 :: u52 :: u53 :: u54 :: u55 :: u56 :: u57 :: u58 :: u59 :: u60 :: u61 :: u62 :: u63 :: u64 :: u65 :: u66 :: u67 :: u68 :: u69 :: u70 :: u71 :: u72 :: u73 :: u74 :: u75 :: u76 :: u77 :: u78 :: u79 :: u80 :: u81 :: u82 :: u83 :: u84 :: u85 :: u86 :: u87 :: u88 :: u89 :: u90 :: u91 :: u92 :: u93 :: u94 :: u95 :: u96 :: u97 :: u98 :: u99 :: u100 :: u101 :: u102 :: u103 :: u104 :: u105 :: u106 :: u107 :: u108 :: u109 :: u110 :: u111 :: u112 :: u113 :: u114 :: u115 :: u116 :: u117 :: u118 :: u119 :: u120 :: u121 :: u122 :: u123 :: u124 :: u125 :: u126 :: u127 :: u128 :: u129 :: u130 :: u131 :: u132 :: u133 :: u134 :: u135 :: u136 :: u137 :: u138 :: u139 :: u140 :: u141 :: u142 :: u143 :: u144 :: u145 :: u146 :: u147 :: u148 :: undef :: undef :: u151 :: u152 :: u153 :: u154 :: u155 :: u156 :: u157 :: u158 :: u159 :: u160 :: u161 :: u162 :: u163 :: u164 :: u165 :: u166 :: u167 :: u168 :: u169 :: u170 :: u171 :: u172 :: u173 :: u174 :: u175 :: u176 :: u177 :: u178 :: u179 :: u180 :: u181 :: u182 :: u183 :: u184 :: u185 :: u186 :: u187 :: u188 :: u189 :: u190 :: u191 :: u192 :: u193 :: u194 :: u195 :: u196 :: u197 :: u198 :: u199 :: u200 :: u201 :: u202 :: u203 :: []), []⟩ wc := by
 have hv1 : (0 : Int) ≤ (v : Int) := by omega
 have hv2 : (v : Int) < 9 := by omega
 have HKPh := hid HKP
 clear HKP
 have hsz2 := zAl s2
 obtain ⟨S2, hS2⟩ : ∃ S2, S2 = ba s2 := ⟨_, rfl⟩
 rw [← hS2] at hsz2 ⊢
 have hSz : S2.size ≤ 524289 := by have := HS2.out; omega
 clear hS2 hsz2
 have HCu := hid (cut_any S2 1024 wc (by unfold maxLen; omega) (by omega))
 clear HS2
 refine wp_at rfl ?_
 go_wp2_with fail
 refine HCu.out.mono ?_
 rintro e w3 ⟨pv, rfl, hr3, hb3⟩
 have HR3 := hid hr3
 have G3 := hid (HG2.out.quiet hb3)
 have HF3 := hid (HF2.out.trans (Fr.of_below hb3))
 have hsz3 := hb3.size
 have HG2w := hid (HG2.out.gf.below.size)
 obtain ⟨cs, ce, hco⟩ : ∃ cs ce, cutOf S2 1024 = (cs, ce) := ⟨_, _, rfl⟩
 rw [hco] at HR3 ⊢
 have Hco := hid hco
 clear HCu hr3 hb3 HG2 HF2 hco
 simp only at HR3 ⊢
 by_cases hce : ce = 0
 ·subst hce
  have hN : cs.length = zBt S2.size 1024 ∧ 1 ≤ cs.length ∧ cs.length ≤ 4096 := by
   have := Hco.out
   unfold cutOf at this
   rw [if_neg (by omega)] at this
   split at this
   ·injection this with _ h2; cases h2
   ·split at this
    ·injection this with _ h2; cases h2
    ·rename_i h4
     injection this with h1 _
     have h5 : zBt S2.size 1024 ≤ 4096 := by have : (1024 : Int).toNat = 1024 := rfl; rw [this] at h4; omega
     rw [← h1]
     have : (1024 : Int).toNat = 1024 := rfl
     rw [this, zBp]
     refine ⟨rfl, ?_, h5⟩
     unfold zBt
     omega
  obtain ⟨N, hNl⟩ : ∃ N, N = cs.length := ⟨_, rfl⟩
  obtain ⟨pa, pc, rfl⟩ := zAe HR3.out
  have HNl := hid hNl
  rw [← hNl] at HR3 ⊢
  have hn1 : 1 ≤ N := by rw [hNl]; exact hN.2.1
  have hn2 : N ≤ 4096 := by rw [hNl]; exact hN.2.2
  have Hpz := hid (show ∀ x ∈ cs, x.2.2.size ≤ 524289 from fun x hx => by
   have h1 := Hco.out
   unfold cutOf at h1
   rw [if_neg (by omega)] at h1
   split at h1
   ·injection h1 with _ h2; cases h2
   ·split at h1
    ·injection h1 with _ h2; cases h2
    ·injection h1 with h1 _
     rw [← h1] at hx
     unfold zAN at hx
     obtain ⟨i, _, rfl⟩ := List.mem_map.1 hx
     show (piece S2 _ i).size ≤ 524289
     unfold piece
     rw [ByteArray.size_extract]
     omega)
  clear hN hNl
  have C3 := G3.out.at_
  have p7 : w3.cell? ⟨c, 12 + v * 8 + 7, none⟩ = some p.pack := by rw [Hpv.out]; exact C3.peer hprs v (by omega) 7 (by omega)
  have p6 : w3.cell? ⟨c, 12 + v * 8 + 6, none⟩ = some (.int .i64 p.cursor) := by rw [Hpv.out]; exact C3.peer hprs v (by omega) 6 (by omega)
  have f7 := C3.1.free (12 + v * 8 + 7)
  have f6 := C3.1.free (12 + v * 8 + 6)
  have hl3 := C3.1.lt
  have hvq : v < D.ps.length := by omega
  obtain ⟨pk, hpk⟩ : ∃ pk, pk = w3.heap.size := ⟨_, rfl⟩
  have C4 : zAb (((w3.setCell ⟨c, 12 + v * 8 + 7, none⟩ (.pointer (some ⟨pk, 0, none⟩))).setCell ⟨c, 12 + v * 8 + 6, none⟩ (.int .i64 0)).alloc (.cells #[.int .i64 gen, .int .i64 bs2, .string mk, .slice pa N pc] 156)) c { S with peers := zAg (D.ps.set v { p with pack := .pointer (some ⟨pk, 0, none⟩), cursor := 0 }) } := by
   have q1 := C3.asPeers hprs v hvq
   rw [← Hpv.out] at q1
   have q2 := q1.setPeer2 hvq 7 (by omega) (.pointer (some ⟨pk, 0, none⟩)) { p with pack := .pointer (some ⟨pk, 0, none⟩) } rfl
   exact (q2.setPeer2 hvq 6 (by omega) (.int .i64 0) { p with pack := .pointer (some ⟨pk, 0, none⟩), cursor := 0 } rfl).alloc _
  have TS : Touch (fun k => k = c) w3 (((w3.setCell ⟨c, 12 + v * 8 + 7, none⟩ (.pointer (some ⟨pk, 0, none⟩))).setCell ⟨c, 12 + v * 8 + 6, none⟩ (.int .i64 0)).alloc (.cells #[.int .i64 gen, .int .i64 bs2, .string mk, .slice pa N pc] 156)) := (zAa (zAa (Touch.refl _ _) _) _).alloc _
  have Q4 : Blk (((w3.setCell ⟨c, 12 + v * 8 + 7, none⟩ (.pointer (some ⟨pk, 0, none⟩))).setCell ⟨c, 12 + v * 8 + 6, none⟩ (.int .i64 0)).alloc (.cells #[.int .i64 gen, .int .i64 bs2, .string mk, .slice pa N pc] 156)) pk [.int .i64 gen, .int .i64 bs2, .string mk, .slice pa N pc] 156 := by
   have := Blk.new ((w3.setCell ⟨c, 12 + v * 8 + 7, none⟩ (.pointer (some ⟨pk, 0, none⟩))).setCell ⟨c, 12 + v * 8 + 6, none⟩ (.int .i64 0)) [.int .i64 gen, .int .i64 bs2, .string mk, .slice pa N pc] 156
   rw [show ((w3.setCell ⟨c, 12 + v * 8 + 7, none⟩ (.pointer (some ⟨pk, 0, none⟩))).setCell ⟨c, 12 + v * 8 + 6, none⟩ (.int .i64 0)).heap.size = pk from by simp; exact hpk.symm] at this
   exact this
  have hwc0 : w0.heap.size ≤ wc.heap.size := (HG2w.out)
  have hn3 : (Value.slice pa N pc).ownBlock ≠ some c := zAp HR3.out C3.1 (by decide)
  have R4 := zAB (zAj HR3.out TS (fun g hg e => hn3 (by rw [hg, e]))) hwc0
  obtain ⟨g4, f4⟩ := G3.out.gf.newPack C3 TS v hv { p with pack := .pointer (some ⟨pk, 0, none⟩), cursor := 0 } (Or.inr ⟨pk, gen, bs2, mk, .slice pa N pc, cs, rfl, Q4, by rw [← HNl.out]; exact R4, by rw [← HNl.out]; exact hn1, by rw [← HNl.out]; exact hn2, by show (0 : Int) ≤ 0; omega, by rw [← HNl.out]; show (0 : Int) < (N : Int); omega, Hpz.out⟩)
  have HG4 : Hid (Gc w0 c kb mb n id bal (G.more 1048579) Z { D with Bk := Bk2, ps := D.ps.set v { p with pack := .pointer (some ⟨pk, 0, none⟩), cursor := 0 } } { S with peers := zAg (D.ps.set v { p with pack := .pointer (some ⟨pk, 0, none⟩), cursor := 0 }) } _) := hid ⟨C4, g4⟩
  have HF4 := hid (HF3.out.trans f4)
  have HPI4 := hid (show zFO w0.heap.size (((w3.setCell ⟨c, 12 + v * 8 + 7, none⟩ (.pointer (some ⟨pk, 0, none⟩))).setCell ⟨c, 12 + v * 8 + 6, none⟩ (.int .i64 0)).alloc (.cells #[.int .i64 gen, .int .i64 bs2, .string mk, .slice pa N pc] 156)) { p with pack := .pointer (some ⟨pk, 0, none⟩), cursor := 0 } from ⟨Or.inr ⟨pk, gen, bs2, mk, .slice pa N pc, cs, rfl, Q4, by rw [← HNl.out]; exact R4, by rw [← HNl.out]; exact hn1, by rw [← HNl.out]; exact hn2, by show (0 : Int) ≤ 0; omega, by rw [← HNl.out]; show (0 : Int) < (N : Int); omega, Hpz.out⟩, fun e => by cases e⟩)
  clear C4 TS Q4 hn3 R4 g4 f4 HR3 G3 HF3 C3
  have Hpk := hid hpk
  clear hpk
  go_wp2_with fail
  refine HKPh.out _ _ _ _ _ _ _ _ _ _ _ _ _ _ _ _ _ _ _ _ _ _ _ _ _ _ _ _ _ _ _ _ _ _ _ _ _ _ _ _ _ _ _ _ _ _ _ _ _ _ _ _ _ _ _ _ _ _ _ _ _ _ _ _ _ _ _ _ _ _ _ _ _ _ _ _ _ _ _ _ _ _ _ _ _ _ _ _ _ _ _ _ _ _ _ _ _ _ _ _ _ _ _ _ _ _ _ _ _ _ _ _ _ _ _ _ _ _ _ _ _ _ _ _ _ _ _ _ _ _ _ _ _ _ _ _ _ _ _ _ _ _ _ _ _ _ _ _ _ _ _ _ _ _ _ _ _ _ _ _ _ _ _ _ _ _ _ _ _ _ _ _ _ _ _ _ _ _ _ _ _ _ _ _ _ _ _ _ _ _ ?_
  rw [← Hpk.out]
  refine ⟨_, _, HG4, hid ⟨_, ?_, HPI4.out⟩, HF4⟩
  rw [List.getElem?_set_self hvq]
  rfl
 ·have hcb : (((ce : Nat) : Int) != 0) = true := by rw [bne_iff_ne]; omega
  clear hce
  go_wp2_with fail
  go_ret
  exact ⟨.slice none 0 0, [], rfl, World.ownsRow_nil _ _ _ _, by simp, (fun m hm => by cases hm), ⟨_, _, G3.out⟩, HF3.out⟩
end Go.Proofs.YtaemlplcjjbamaaGreatDoor
