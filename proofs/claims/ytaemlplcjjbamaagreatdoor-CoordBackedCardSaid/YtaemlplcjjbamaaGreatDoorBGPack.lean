/- The walks of depose, of Handle at a nack, and of Handle at a -/
import Derived.Test.YtaemlplcjjbamaaGreatDoorBGEnd
namespace Go.Proofs.YtaemlplcjjbamaaGreatDoor
open Go.Lib (hid)
set_option maxRecDepth 100000
set_option maxHeartbeats 8000000
open Go Go.RowKit
set_option linter.unusedVariables false
variable {E : Prop} {P : Program} {Q : Exit → Act → World → Prop} {Z Z' b c i kb mb n : Nat} {bal id : Int} {o : Oper} {ops : Array Oper} {w w' w0 : World} {x y : List Nat} {α : Type}
def CSt.gone (c : CSt) : CSt := { c with phase := 0, job := .pointer none, fetch := .pointer none }
theorem gone_at {c : CSt} (h : zAb w b c) : zAb (((w.setCell ⟨b, 4, none⟩ (.int .i64 0)).setCell ⟨b, 84, none⟩ (.pointer none)).setCell ⟨b, 85, none⟩ (.pointer none)) b c.gone := by
 have h1 : zAb (w.setCell ⟨b, 4, none⟩ (.int .i64 0)) b { c with phase := 0 } := ⟨h.1.set 4 _, h.2⟩
 have h2 : zAb ((w.setCell ⟨b, 4, none⟩ (.int .i64 0)).setCell ⟨b, 84, none⟩ (.pointer none)) b { c with phase := 0, job := .pointer none } := h1.setFt 0 _ _ rfl rfl rfl
 exact h2.setFt 1 _ _ rfl rfl rfl
theorem gone_touch (h : Touch (fun k => k = b) w0 w) : Touch (fun k => k = b) w0 (((w.setCell ⟨b, 4, none⟩ (.int .i64 0)).setCell ⟨b, 84, none⟩ (.pointer none)).setCell ⟨b, 85, none⟩ (.pointer none)) := zAa (zAa (zAa h _) _) _
theorem zCJ {a : Act} {K : Act → World → Prop} (hgd : o.guard = none) (s x : Operand) (t : TypeId)
  (ho : o.op = .call { callee := .builtin .append, args := #[s, x], argTypes := #[t, t] })
  (base : Nat) (T : TypeId) (size bytes : Nat) (ht : P.underlying t = some (.slice T)) (z : Value) (hi : (P.info? T).map (fun i => (i.zero, i.size, i.bytes)) = some (some z, size, bytes))
  (hzs : z.cells.size = size) (hby : bytes ≤ 1000) (hsz : size ≤ 1000)
  (v : Value) (n : Nat) (xs : List Value) (hs : a.eval s = v) (h : RAt w base T size v n xs) (q : Nat)
  (news : List Value) (hx : a.eval x = .slice (some ⟨q, 0, none⟩) 1 1) (hq : Blk w q news T) (hl : news.length = size) (h1 : ∀ u ∈ news, u.oneCell' = true)
  (hlen : n + 1 ≤ 1000000000) (hbase : base ≤ w.heap.size)
  (hk : ∀ ad cap w', RAt w' base T size (.slice ad (n + 1) cap) (n + 1) (xs ++ news) → w.grownBy w' v.ownBlock → ((Value.slice ad (n + 1) cap).ownBlock = v.ownBlock ∨ (Value.slice ad (n + 1) cap).ownBlock = some w.heap.size) → K (a.put o.dst (.slice ad (n + 1) cap)) w') :
  if Region.wanted o (yielded ops a.tmps) = true then Oper.wp P o a w K Q else E := by
 have hw : Region.wanted o (yielded ops a.tmps) = true := by simp [Region.wanted, hgd]
 rw [if_pos hw]
 obtain ⟨i0, hi', hz0, hz1, hz2⟩ := info_parts hi
 subst hz1
 have hsrc : Src P i0.size t (a.eval x) 1 news w := by
  rw [hx]
  exact Src.ofSlice _ ht ⟨q, 0, none⟩ 1 1 news (by omega) (by
   intro j u hj
   rw [addr_add, hq.cell j]
   exact hj) h1
 obtain ⟨v', w', hr, h2, h3, h4⟩ := rat_append (P := P) w base t t o.type T i0 z ht hi' hz0 hzs (by omega) v n 1 xs news (a.eval x) h hsrc hlen hbase hsz
 obtain ⟨ad, cap, rfl⟩ := h2.shape
 unfold Oper.wp execOp
 simp only [ho, resolve, invoke, builtin, Sem.run_bind, Sem.run_pure, Result.andThen_ok, List.map_toArray, List.map_cons, List.map_nil, hs, hr]
 exact hk ad cap w' h2 h3 h4
theorem nodup_mid {a : Nat} (h : (a :: (x ++ y)).Nodup) : (a :: ([] ++ y)).Nodup := by
 rw [List.nil_append]
 rw [List.nodup_cons] at h ⊢
 exact ⟨fun e => h.1 (List.mem_append_right _ e), (List.nodup_append.1 h.2).2.1⟩
theorem Gf.noJob {G : Gh} {D : Dt} {S : CSt} (h : Gf w0 c kb mb n id bal G Z D S w) : Gf w0 c kb mb n id bal G Z { D with job := none } { S with job := .pointer none } w :=
 { h with
  job := rfl
  jobB := fun J hJ => by cases hJ
  cli := fun J hJ => by cases hJ
  tals := nodup_mid h.tals
  talB := fun t ht => h.talB t (by
   unfold Dt.tals at ht ⊢
   rcases List.mem_cons.1 ht with e | e
   ·exact List.mem_cons.2 (Or.inl e)
   ·exact List.mem_cons.2 (Or.inr (List.mem_append_right _ e))) }
theorem Gf.noFet {G : Gh} {D : Dt} {S : CSt} (h : Gf w0 c kb mb n id bal G Z D S w) : Gf w0 c kb mb n id bal G Z { D with fet := none } { S with fetch := .pointer none } w :=
 { h with
  fet := rfl
  fetB := fun J hJ => by cases hJ }
theorem Gf.phase {G : Gh} {D : Dt} {S : CSt} (h : Gf w0 c kb mb n id bal G Z D S w) (p : Int) (hp : p = 0 ∨ p = 1 ∨ p = 2) : Gf w0 c kb mb n id bal G Z D { S with phase := p } w :=
 { h with
  ph := hp }
theorem gc_depose {G : Gh} {D : Dt} {S : CSt} (h : Gc w0 c kb mb n id bal G Z D S w) :
  Calls Tryz.prog 78 #[.pointer (some ⟨c, 0, none⟩)] w fun x w' => x = .returned (.tuple #[]) ∧ Gs w0 c kb mb n id bal G Z w' ∧ Fr w0 w w' := by
 have H := hid h
 clear h
 go_enter Tryz.func78, Tryz.ntmps78
 go_wp2_with fail
 refine (zEm H.out 16 0 0 none none 0 0 0 0 (fun e => absurd e (by decide))).mono ?_
 rintro e w1 ⟨rfl, ⟨D1, S1, h1⟩, hf⟩
 have H1 := hid h1
 have HF := hid hf
 have c4 : w1.cell? ⟨c, 4, none⟩ = some (.int .i64 S1.phase) := h1.at_.hd 4 (by omega)
 have c84 : w1.cell? ⟨c, 84, none⟩ = some S1.job := h1.at_.ft 0
 have c85 : w1.cell? ⟨c, 85, none⟩ = some S1.fetch := h1.at_.ft 1
 have f4 := h1.at_.1.free 4
 have f84 := h1.at_.1.free 84
 have f85 := h1.at_.1.free 85
 clear H h1 hf
 go_wp2_with fail
 go_end0
 obtain ⟨g1, g2⟩ := H1.out.gf.coord H1.out.at_ (gone_touch (Touch.refl _ w1))
 exact ⟨rfl, ⟨_, _, gone_at H1.out.at_, (g1.noJob.noFet).phase 0 (Or.inl rfl)⟩, HF.out.trans g2⟩
theorem Gf.chosen {G : Gh} {D : Dt} {S : CSt} (h : Gf w0 c kb mb n id bal G Z D S w) (hc : zAb w c S) (hT : Touch (fun q => q = c ∨ S.chosen.ownBlock = some q) w w') (v : Value) (l : List Ent) (tp : Int)
  (hr : RAt w' w0.heap.size 102 3 v l.length (zAs l)) (hv : ∀ g, v.ownBlock = some g → S.chosen.ownBlock = some g ∨ w.heap.size ≤ g) (hl : l.length ≤ 1000 * Z') (hZ : Z ≤ Z') :
  Gf w0 c kb mb n id bal G Z' { D with l := l } { S with chosen := v, top := tp } w' ∧ Fr w0 w w' := by
 have hty : ∀ q, q < w.heap.size → (q = c ∨ S.chosen.ownBlock = some q) → Tyd [78, 102] w q := fun q _ hq => by
  rcases hq with rfl | hq
  ·exact Tyd.blk hc.1 (by simp)
  ·obtain ⟨cs, hb⟩ := h.cho.blk hq
   exact Tyd.blk hb (by simp)
 have hk : Keep [78, 102] w w' := Keep.of_touch hT hty (by decide)
 have hc0 := h.c0
 have hab : Abw w0 w w' := hT.mono (fun q _ hq => by
  rcases hq with rfl | hq
  ·omega
  ·exact (h.cho.lt q hq).1)
 have hcb : ∀ g, S.again.ownBlock = some g → ¬ (g = c ∨ S.chosen.ownBlock = some g) := fun g hg e => by
  rcases e with rfl | e
  ·obtain ⟨cs, hb⟩ := h.agn.blk hg
   exact hb.ne hc.1 (by decide) rfl
  ·exact h.dif g e hg
 have hg0 : Gf w0 c kb mb n id bal G Z { D with l := [] } { S with chosen := .slice none 0 0 } w := { h with
  cho := RAt.nil _ _ _ _
  choL := Nat.zero_le _
  dif := fun g hg => by simp [Value.ownBlock] at hg }
 have hg1 := hg0.keepX hk.1 (hab.below h.below) (hk.2 _ _ _ h.bok) (entry := fun _ => ⟨RAt.nil _ _ _ _, h.agn.touch hT hcb⟩)
 exact ⟨{ hg1.mono hZ with
  cho := hr
  choL := hl
  dif := fun g hg => by
   rcases hv g hg with e | e
   ·exact h.dif g e
   ·intro e2
    have := (h.agn.lt g e2).2
    omega }, hk.1.mono (by decide), hab⟩
theorem gc_won {G : Gh} {D : Dt} {S : CSt} (h : Gc w0 c kb mb n id bal G Z D S w) (hZ : Z ≤ 100000) (J : JobD) (hJ : D.job = some J) (hM : Maj n (G.VA J.gen J.mrk)) :
  Calls Tryz.prog 108 #[.pointer (some ⟨c, 0, none⟩)] w fun x w' => x = .returned (.tuple #[]) ∧ Gs w0 c kb mb n id bal G (Z + 1) w' ∧ Fr w0 w w' := by
 have hbl := h.at_.1.lt
 have hbase := h.gf.below.size
 have hJB := (h.gf.jobB J hJ).1
 obtain ⟨j, hj⟩ : ∃ j, j = J.j := ⟨_, rfl⟩
 rw [← hj] at hJB
 have hsj : S.job = .pointer (some ⟨j, 0, none⟩) := by rw [h.gf.job, hJ, hj]; rfl
 have hcl := h.gf.cli J hJ
 obtain ⟨ta, tf, gen, bl, mk, img, cl, old, eta, etf, egen, ebl, emk, eimg, ecl, eold⟩ : ∃ ta tf gen bl mk img cl old, ta = J.ta ∧ tf = J.tf ∧ gen = J.gen ∧ bl = J.bal ∧ mk = J.mrk ∧ img = J.img ∧ cl = J.cl ∧ old = J.old := ⟨_, _, _, _, _, _, _, _, rfl, rfl, rfl, rfl, rfl, rfl, rfl, rfl⟩
 rw [← eta, ← etf, ← egen, ← ebl, ← emk, ← eimg, ← ecl, ← eold] at hJB
 rw [← ecl, ← emk] at hcl
 rw [← emk, ← egen] at hM
 have HM := hid hM
 have Hcl := hid hcl
 have H0 := hid h
 clear eta etf egen ebl emk eimg ecl eold hj hcl hM
 have hr := h.gf.cho
 obtain ⟨ia, ic, hi⟩ := RAt.shape hr
 have Hi := hid hi
 rw [hi] at hr
 have hL := h.gf.choL
 have c84 : w.cell? ⟨c, 84, none⟩ = some (.pointer (some ⟨j, 0, none⟩)) := by have := h.at_.ft 0; rw [← hsj]; exact this
 have j0 : w.cell? ⟨j, 0, none⟩ = some (.int .i64 gen) := hJB.cell 0
 have j1 : w.cell? ⟨j, 1, none⟩ = some (.int .i64 bl) := hJB.cell 1
 have j2 : w.cell? ⟨j, 2, none⟩ = some (.string mk) := hJB.cell 2
 have hjb : j ≠ c := hJB.ne h.at_.1 (by decide)
 have hjl := hJB.lt
 have Hrl := hid (fun g (hg : (Value.slice ia D.l.length ic).ownBlock = some g) => (hr.lt g hg).2)
 have hsn := zCp D.l ⟨gen, 0, mk⟩
 have Hsn := hid hsn
 have E1 := hid (Blk.new w [.int .i64 gen, .int .i64 bl, .string mk] 102)
 have B1 := hid ((Below.refl w.heap.size w).alloc (Nat.le_refl _) (.cells #[.int .i64 gen, .int .i64 bl, .string mk] 102))
 have C1 := hid (h.at_.alloc (.cells #[.int .i64 gen, .int .i64 bl, .string mk] 102))
 have R1 := hid (hr.below ((Below.refl w.heap.size w).alloc (Nat.le_refl _) (.cells #[.int .i64 gen, .int .i64 bl, .string mk] 102)))
 have J1 := hid (hJB.alloc (.cells #[.int .i64 gen, .int .i64 bl, .string mk] 102))
 obtain ⟨m, hm⟩ : ∃ m, m = D.l.length := ⟨_, rfl⟩
 rw [← hm] at R1 Hi Hrl hL
 have Hm := hid hm
 have Hj := hid hsj
 clear h hJ hsj hr hi hsn hm hJB
 go_enter Tryz.func108, Tryz.ntmps108
 go_upto_region 1 with fail
 have b1 := B1.out
 have e1 := E1.out
 have C1' := C1.out
 have R1' := R1.out
 have J1' := J1.out
 clear B1 E1 C1 R1 J1 c84 j0 j1 j2
 generalize w.alloc (.cells #[.int .i64 gen, .int .i64 bl, .string mk] 102) = w1 at b1 e1 C1' R1' J1' ⊢
 obtain ⟨q, hq⟩ : ∃ q, q = w.heap.size := ⟨_, rfl⟩
 rw [← hq] at e1 ⊢
 have hqb : c < q := by omega
 have hjq : j < q := by omega
 have HQ := hid hq
 have q0 : w1.cell? ⟨q, 0, none⟩ = some (.int .i64 gen) := e1.cell 0
 have d6 : w1.cell? ⟨c, 6, none⟩ = some (.int .i64 S.top) := C1'.hd 6 (by omega)
 have f6 := C1'.1.free 6
 clear hq
 go_wp2_with fail
 have C2 := C1'.setTop (wrap64 (gen + 1))
 have T2 : Touch (fun k => k = c) w1 (w1.setCell ⟨c, 6, none⟩ (.int .i64 (wrap64 (gen + 1)))) := zAa (Touch.refl _ _) _
 have hnb : (Value.slice ia m ic).ownBlock ≠ some c := fun e => by
  obtain ⟨cs, hb⟩ := R1'.blk e
  exact hb.ne C1'.1 (by decide) rfl
 have R2 := R1'.touch T2 (fun g hg e => hnb (by rw [hg, e]))
 have Q2 := e1.set_other (a := ⟨c, 6, none⟩) (by show q ≠ c; omega) (.int .i64 (wrap64 (gen + 1)))
 have J2 := J1'.set_other (a := ⟨c, 6, none⟩) (by show j ≠ c; omega) (.int .i64 (wrap64 (gen + 1)))
 have TT2 := (Touch.of_below (S := fun k => k = c) b1).trans T2
 have HC2 := hid C2
 have HR2 := hid R2
 have HQ2 := hid Q2
 have HJ2 := hid J2
 have HT2 := hid TT2
 clear b1 e1 C1' R1' J1' C2 T2 R2 Q2 J2 TT2
 generalize w1.setCell ⟨c, 6, none⟩ (.int .i64 (wrap64 (gen + 1))) = w3 at HC2 HR2 HQ2 HJ2 HT2 ⊢
 clear d6 f6 q0 hnb
 have hown3 := HR2.out
 have HAt3 := HC2
 have d7 : w3.cell? ⟨c, 7, none⟩ = some (.slice ia m ic) := by rw [← Hi.out]; exact HAt3.out.hd 7 (by omega)
 have q0 : w3.cell? ⟨q, 0, none⟩ = some (.int .i64 gen) := HQ2.out.cell 0
 have q2 : w3.cell? ⟨q, 2, none⟩ = some (.string mk) := HQ2.out.cell 2
 have hnc : (Value.slice ia m ic).ownBlock ≠ some c := fun e => by
  obtain ⟨cs, hb⟩ := hown3.blk e
  exact hb.ne HAt3.out.1 (by decide) rfl
 have hnj : (Value.slice ia m ic).ownBlock ≠ some j := fun e => by
  obtain ⟨cs, hb⟩ := hown3.blk e
  exact hb.ne HJ2.out (by decide) rfl
 have hnq : (Value.slice ia m ic).ownBlock ≠ some q := fun e => by have := Hrl.out q e; have := HQ.out; omega
 have f7 := HAt3.out.1.free 7
 have hfa : ∀ o : Obj, (w3.alloc o).drew.frozen? ⟨c, 7, none⟩ = false := fun o => (HAt3.out.1.alloc o).drew.free 7
 have hfb : ∀ o : Obj, (w3.alloc o).frozen? ⟨c, 7, none⟩ = false := fun o => (HAt3.out.1.alloc o).free 7
 have hbl3 := HAt3.out.1.lt
 have hql3 := HQ2.out.lt
 have hjl3 := HJ2.out.lt
 have hsz3 := HT2.out.size
 have hbase3 : w0.heap.size ≤ w3.heap.size := Nat.le_trans hbase hsz3
 have hm6 : m ≤ 100000000 := by omega
 go_cut [] (fun wx => ∃ v', Hid (zAb wx c { S with top := wrap64 (gen + 1), chosen := v' }) ∧ Hid (RAt wx w0.heap.size 102 3 v' (m + 1) (zAs D.l ++ [.int .i64 gen, .int .i64 0, .string mk])) ∧ Hid (∀ g, v'.ownBlock = some g → (Value.slice ia m ic).ownBlock = some g ∨ w.heap.size ≤ g) ∧ Hid (Blk wx q [.int .i64 gen, .int .i64 bl, .string mk] 102) ∧ Hid (Blk wx j (zBY gen bl mk img ta tf cl old) 104) ∧ Hid (Touch (fun k => k = c ∨ (Value.slice ia m ic).ownBlock = some k) w wx))
 case first =>
  go_region_law
    ((refine zCJ (by rfl) _ _ _ (by rfl) w0.heap.size 102 3 32 Tryz.underlying28 _ info_en rfl (by omega) (by omega) (.slice ia m ic) m (zAs D.l) (by rfl) (hown3.below (((Below.refl _ _).alloc (Nat.le_refl _) _).drew)) w3.heap.size [.int .i64 gen, .int .i64 0, .string mk] (by rfl) (Blk.new w3 [.int .i64 gen, .int .i64 0, .string mk] 102).drew (by rfl) (by simp [Value.oneCell']) (by omega) (by simp; omega) ?_; intro ad cap w4 hown4 hgrow hat; have hc4 := hgrow.cell_far ⟨c, 7, none⟩ (by simp; omega) (Ne.symm hnc); have hf4 := hgrow.frozen_far ⟨c, 7, none⟩ (by simp; omega) (Ne.symm hnc)))
  all_goals go_wp2_with fail
  all_goals go_meet
  all_goals
   have hgc : ∀ g, (Value.slice ad (m + 1) cap).ownBlock = some g → g ≠ c := fun g hg => by
    rcases hat with e | e
    ·intro e2; exact hnc (by rw [← e, hg, e2])
    ·rw [hg] at e; injection e with e; simp at e; omega
   have q1 := (((HAt3.out.alloc (.cells #[.int .i64 gen, .int .i64 0, .string mk] 102)).drew).grown hgrow hnc).setChosen (.slice ad (m + 1) cap)
   have q3 := (zAr ((HQ2.out.alloc (.cells #[.int .i64 gen, .int .i64 0, .string mk] 102)).drew) hgrow hnq).set_other (a := ⟨c, 7, none⟩) (by show q ≠ c; omega) (.slice ad (m + 1) cap)
   have q4 := (zAr ((HJ2.out.alloc (.cells #[.int .i64 gen, .int .i64 0, .string mk] 102)).drew) hgrow hnj).set_other (a := ⟨c, 7, none⟩) (by show j ≠ c; omega) (.slice ad (m + 1) cap)
   refine ⟨_, hid q1, hid ?_, hid ?_, hid q3, hid q4, hid ?_⟩
   ·exact hown4.touch ((Touch.refl (fun k => k = c) w4).set (p := ⟨c, 7, none⟩) (Or.inl rfl) _) (fun g hg e => hgc g hg e)
   ·intro g hg
    rcases hat with e | e
    ·exact Or.inl (by rw [← e, hg])
    ·rw [hg] at e; injection e with e; simp at e; exact Or.inr (by omega)
   ·exact (zAm (((HT2.out.mono (fun k _ e => Or.inl e)).alloc (.cells #[.int .i64 gen, .int .i64 0, .string mk] 102)).drew) hgrow (fun g hg => Or.inl (Or.inr hg))).set (p := ⟨c, 7, none⟩) (Or.inl (Or.inl rfl)) _
 case rest =>
  obtain ⟨v', HC5, HR5, HV5, HQ5, HJ5, HT5⟩ := hcut
  clear d7 q0 q2 hown3 hnc hnj hnq f7 hfa hfb HAt3 HC2 HR2 HQ2 HJ2 HT2
  have c84 : wc.cell? ⟨c, 84, none⟩ = some (.pointer (some ⟨j, 0, none⟩)) := by rw [← Hj.out]; exact HC5.out.ft 0
  have k6 : wc.cell? ⟨j, 6, none⟩ = some (.bool cl) := HJ5.out.cell 6
  have f84 := HC5.out.1.free 84
  have hl5 := HC5.out.1.lt
  have hG5 : Gf w0 c kb mb n id bal G (Z + 1) { D with l := D.l ++ [⟨gen, 0, mk⟩] } { S with chosen := v', top := wrap64 (gen + 1) } wc ∧ Fr w0 w wc := by
   have hl : (D.l ++ [(⟨gen, 0, mk⟩ : Ent)]).length = m + 1 := by rw [List.length_append, ← Hm.out]; rfl
   have ho : S.chosen.ownBlock = (Value.slice ia m ic).ownBlock := by rw [Hi.out]
   refine H0.out.gf.chosen H0.out.at_ (HT5.out.mono (fun k _ e => by rw [ho]; exact e)) v' (D.l ++ [⟨gen, 0, mk⟩]) (wrap64 (gen + 1)) ?_ ?_ ?_ (Nat.le_succ _)
   ·rw [hl, Hsn.out]; exact HR5.out
   ·rw [ho]; exact HV5.out
   ·rw [hl]; omega
  have C6 := HC5.out.setJob (.pointer none)
  have T6 : Touch (fun k => k = c) wc (wc.setCell ⟨c, 84, none⟩ (.pointer none)) := zAa (Touch.refl _ _) _
  obtain ⟨g6, f6⟩ := hG5.1.coord HC5.out T6
  have Q6 := HQ5.out.set_other (a := ⟨c, 84, none⟩) (by show q ≠ c; omega) (.pointer none)
  have G6 := hid (show Gc w0 c kb mb n id bal G (Z + 1) { D with l := D.l ++ [⟨gen, 0, mk⟩], job := none } { S with chosen := v', top := wrap64 (gen + 1), job := .pointer none } (wc.setCell ⟨c, 84, none⟩ (.pointer none)) from ⟨C6, g6.noJob⟩)
  have HF6 := hid (hG5.2.trans f6)
  have HQ6 := hid Q6
  clear C6 T6 Q6 HC5 HR5 HQ5 HJ5 HT5 HV5 hG5 g6 f6 H0
  cases hcv : cl with
  | false =>
   rw [hcv] at k6
   go_wp2_with fail
   go_end0
   exact ⟨rfl, ⟨_, _, G6.out⟩, HF6.out⟩
  | true =>
   rw [hcv] at k6
   have Hc2 := Hcl.out hcv
   have HC2 := hid Hc2
   clear hcv Hc2 Hcl
   go_wp2_with fail
   generalize wc.setCell ⟨c, 84, none⟩ (.pointer none) = w6 at G6 HF6 HQ6 ⊢
   clear c84 k6 f84 hl5
   have HEnd := hid (fun w' (hb : Below w6.heap.size w6 w') => zDR (G6.out.quiet hb) 0 gen S.floor none none 0 0 0 0 (fun _ _ => ⟨fun _ hgb => by rw [← HC2.out.2.2 hgb]; exact HM.out, fun e => absurd HC2.out.2.1 e⟩))
   have HK := hid (fun w' (hb : Below w6.heap.size w6 w') => (And.intro (show w'.cell? ⟨q, 0, none⟩ = some (.int .i64 gen) from (HQ6.out.below hb).cell 0) (show w'.cell? ⟨c, 5, none⟩ = some (.int .i64 S.floor) from (G6.out.at_.below hb).hd 5 (by omega))))
   have hk0 := HK.out w6.drew (Below.refl _ _).drew
   have hqb2 : q ≠ c := by omega
   go_region_held3 (fun w' => w'.cell? ⟨q, 0, none⟩ = some (.int .i64 gen) ∧ w'.cell? ⟨c, 5, none⟩ = some (.int .i64 S.floor))
    (first | with_reducible exact hk0 | with_reducible exact hk7 | go_keep)
    ((go_at_call 21; refine (HEnd.out _ (Below.refl _ _).drew).mono ?_; rintro x w7 ⟨rfl, ⟨D7, S7, h7, hfl, _⟩, hf7, hkt7⟩; have hk7 : w7.cell? ⟨q, 0, none⟩ = some (.int .i64 gen) ∧ w7.cell? ⟨c, 5, none⟩ = some (.int .i64 S.floor) := ⟨(hkt7.1 _ _ _ (by decide) HQ6.out.drew).cell 0, by have := h7.at_.hd 5 (by omega); rw [this]; show some (Value.int .i64 S7.floor) = _; rw [hfl]⟩))
   have H7 := hid h7
   have HF7 := hid ((HF6.out.trans (Fr.of_below (Below.refl _ _).drew)).trans hf7)
   clear h7 hfl hf7 hkt7 hk7 HEnd HK HQ6
   go_wp2_with fail
   go_end0
   exact ⟨rfl, ⟨_, _, H7.out⟩, HF7.out⟩
theorem zDK {l : List α} {a x : α} (h : x ∈ l.set i a) : x = a ∨ x ∈ l := by
 rcases List.mem_or_eq_of_mem_set h with h | h
 ·exact Or.inr h
 ·exact Or.inl h
theorem Gf.setPeer {G : Gh} {D : Dt} {S : CSt} (h : Gf w0 c kb mb n id bal G Z D S w) (hc : zAb w c S) (hT : Touch (fun k => k = c) w w') (v : Nat) (hv : v < 9) (p' : Peer) (hp : p'.pack = .pointer none ∨ p'.pack = (D.ps[v]'(by have := h.prsL; omega)).pack ∧ p'.cursor = (D.ps[v]'(by have := h.prsL; omega)).cursor) :
  Gf w0 c kb mb n id bal G Z { D with ps := D.ps.set v p' } { S with peers := zAg (D.ps.set v p') } w' ∧ Fr w0 w w' := by
 obtain ⟨g1, g2⟩ := h.coord hc hT
 refine ⟨{ g1 with
  prs := rfl
  prsL := by rw [List.length_set]; exact h.prsL
  pck := fun p hpm => ?_ }, g2⟩
 rcases zDK hpm with rfl | e
 ·rcases hp with e | e
  ·exact Or.inl e
  ·have := g1.pck _ (List.getElem_mem (by have := h.prsL; omega : v < D.ps.length))
   unfold zDw at this ⊢
   rw [e.1, e.2]
   exact this
 ·exact g1.pck p e
theorem gc_far {G : Gh} {D : Dt} {S : CSt} (h : Gc w0 c kb mb n id bal G Z D S w) (v : Nat) (kind to' bal2 mg basis fl tp rd pa po : Int) (mm pt : ByteArray) (ls : Value) (hv : v < 9) :
  Calls Tryz.prog 81 #[.pointer (some ⟨c, 0, none⟩), .agg #[.int .i64 kind, .int .i64 (v : Int), .int .i64 to', .int .i64 bal2, .int .i64 mg, .int .i64 basis, .int .i64 fl, .int .i64 tp, .int .i64 rd, .string mm, .int .i64 pa, .int .i64 po, .string pt, ls]] w fun x w' => x = .returned (.tuple #[]) ∧ Gs w0 c kb mb n id bal G Z w' ∧ Fr w0 w w' := by
 have hps := h.gf.prsL
 refine (far_any c S D.ps v kind to' bal2 mg basis fl tp rd pa po mm pt ls w h.at_ h.gf.prs hps hv).mono ?_
 rintro x w' ⟨rfl, hC, hT⟩
 obtain ⟨g1, g2⟩ := h.gf.setPeer h.at_ hT v hv (zAQ (D.ps[v]'(by omega)) fl tp) (by unfold zAQ; split; exact Or.inl rfl; exact Or.inr ⟨rfl, rfl⟩)
 exact ⟨rfl, ⟨_, _, hC, g1⟩, g2⟩
theorem gc_got {G : Gh} {D : Dt} {S : CSt} (h : Gc w0 c kb mb n id bal G Z D S w) (v : Nat) (kind to' bal2 mg basis fl tp rd pa po : Int) (mm pt : ByteArray) (ls : Value) (hv : v < 9) :
  Calls Tryz.prog 84 #[.pointer (some ⟨c, 0, none⟩), .agg #[.int .i64 kind, .int .i64 (v : Int), .int .i64 to', .int .i64 bal2, .int .i64 mg, .int .i64 basis, .int .i64 fl, .int .i64 tp, .int .i64 rd, .string mm, .int .i64 pa, .int .i64 po, .string pt, ls]] w fun x w' => x = .returned (.tuple #[]) ∧ Gs w0 c kb mb n id bal G Z w' ∧ Fr w0 w w' := by
 have hbl := h.at_.1.lt
 have H0 := hid h
 have hp := h.gf.prs
 have hps := h.gf.prsL
 obtain ⟨p, hpv⟩ : ∃ p, p = D.ps[v]'(by omega) := ⟨_, rfl⟩
 have c0 : w.cell? ⟨c, 12 + v * 8, none⟩ = some (.bool p.told) := by rw [hpv]; exact h.at_.peer hp v (by omega) 0 (by omega)
 have c2 : w.cell? ⟨c, 12 + v * 8 + 2, none⟩ = some (.int .i64 p.top) := by rw [hpv]; exact h.at_.peer hp v (by omega) 2 (by omega)
 have c3 : w.cell? ⟨c, 12 + v * 8 + 3, none⟩ = some (.int .i64 p.has) := by rw [hpv]; exact h.at_.peer hp v (by omega) 3 (by omega)
 have c4 : w.cell? ⟨c, 12 + v * 8 + 4, none⟩ = some (.string p.mark) := by rw [hpv]; exact h.at_.peer hp v (by omega) 4 (by omega)
 have c5 : w.cell? ⟨c, 12 + v * 8 + 5, none⟩ = some (.bool p.whole) := by rw [hpv]; exact h.at_.peer hp v (by omega) 5 (by omega)
 have c7 : w.cell? ⟨c, 12 + v * 8 + 7, none⟩ = some p.pack := by rw [hpv]; exact h.at_.peer hp v (by omega) 7 (by omega)
 have f0 := h.at_.1.free (12 + v * 8)
 have f2 := h.at_.1.free (12 + v * 8 + 2)
 have f3 := h.at_.1.free (12 + v * 8 + 3)
 have f4 := h.at_.1.free (12 + v * 8 + 4)
 have f5 := h.at_.1.free (12 + v * 8 + 5)
 have f7 := h.at_.1.free (12 + v * 8 + 7)
 have hv1 : (0 : Int) ≤ (v : Int) := by omega
 have hv2 : (v : Int) < 9 := by omega
 have H := hid h.at_
 have Hp := hid hp
 have Hpv := hid hpv
 have hvl : v < D.ps.length := by omega
 clear h hp hpv c5 c7 f5 f7
 have q0 : ∀ o k, zAb ((w.alloc o).drewN k) c { S with peers := zAg (D.ps.set v p) } := fun o k => by rw [Hpv.out]; exact ((H.out.alloc o).drewN k).asPeers Hp.out v hvl
 have HQ0 := hid q0
 have t0 : ∀ o k, Touch (fun k => k = c) w ((w.alloc o).drewN k) := fun o k => ((Touch.refl _ _).alloc _).drewN _
 have HT0 := hid t0
 clear q0 t0
 have finish : ∀ (w' : World) (p' : Peer), (p'.pack = p.pack ∧ p'.cursor = p.cursor) → zAb w' c { S with peers := zAg (D.ps.set v p') } → Touch (fun k => k = c) w w' → Gs w0 c kb mb n id bal G Z w' ∧ Fr w0 w w' := fun w' p' hpp hC hT => by
  obtain ⟨g1, g2⟩ := H0.out.gf.setPeer H0.out.at_ hT v hv p' (Or.inr ⟨by rw [hpp.1, Hpv.out], by rw [hpp.2, Hpv.out]⟩)
  exact ⟨⟨_, _, hC, g1⟩, g2⟩
 have HFi := hid finish
 clear finish
 by_cases hr : rd = 0
 ·obtain rfl := hr
  cases ht : p.told with
  | false =>
   rw [ht] at c0
   go_enter Tryz.func84, Tryz.ntmps84
   go_wp2
   go_quiet (fail)
   go_wp2
   go_quiet (fail)
   go_wp2
   go_region
   all_goals go_wp2
   all_goals go_end0
   all_goals
    refine ⟨rfl, HFi.out _ { p with top := tp, told := true, has := mg, mark := mm } ⟨rfl, rfl⟩ ?_ ?_⟩
    ·exact (zAb.drew (zAb.setPeer2 ((zAb.setPeer2 ((zAb.setPeer2 ((zAb.setPeer2 (HQ0.out _ _) hvl 2 (by omega) (.int .i64 tp) { p with top := tp } rfl)) hvl 0 (by omega) (.bool true) { p with top := tp, told := true } rfl)) hvl 3 (by omega) (.int .i64 mg) { p with top := tp, told := true, has := mg } rfl)) hvl 4 (by omega) (.string mm) { p with top := tp, told := true, has := mg, mark := mm } rfl))
    ·exact (Touch.drew (zAa (zAa (zAa (zAa (HT0.out _ _) _) _) _) _))
  | true =>
   rw [ht] at c0
   by_cases htp : p.top < tp
   ·go_enter Tryz.func84, Tryz.ntmps84
    go_wp2
    go_quiet (fail)
    go_wp2
    go_quiet (fail)
    go_wp2
    go_region
    all_goals go_wp2
    all_goals go_end0
    all_goals
     refine ⟨rfl, HFi.out _ { p with top := tp, told := true, has := mg, mark := mm } ⟨rfl, rfl⟩ ?_ ?_⟩
     ·exact (zAb.drew (zAb.setPeer2 ((zAb.setPeer2 ((zAb.setPeer2 ((zAb.setPeer2 (HQ0.out _ _) hvl 2 (by omega) (.int .i64 tp) { p with top := tp } rfl)) hvl 0 (by omega) (.bool true) { p with top := tp, told := true } rfl)) hvl 3 (by omega) (.int .i64 mg) { p with top := tp, told := true, has := mg } rfl)) hvl 4 (by omega) (.string mm) { p with top := tp, told := true, has := mg, mark := mm } rfl))
     ·exact (Touch.drew (zAa (zAa (zAa (zAa (HT0.out _ _) _) _) _) _))
   ·go_enter Tryz.func84, Tryz.ntmps84
    go_wp2
    go_quiet (fail)
    go_wp2
    go_quiet (fail)
    go_wp2
    go_region
    all_goals go_wp2
    all_goals go_end0
    all_goals
     refine ⟨rfl, HFi.out _ { p with told := true, has := mg, mark := mm } ⟨rfl, rfl⟩ ?_ ?_⟩
     ·exact (zAb.drew (zAb.setPeer2 ((zAb.setPeer2 ((zAb.setPeer2 (HQ0.out _ _) hvl 0 (by omega) (.bool true) { p with told := true } rfl)) hvl 3 (by omega) (.int .i64 mg) { p with told := true, has := mg } rfl)) hvl 4 (by omega) (.string mm) { p with told := true, has := mg, mark := mm } rfl))
     ·exact (Touch.drew (zAa (zAa (zAa (HT0.out _ _) _) _) _))
 ·have hrb : (rd == 0) = false := by rw [beq_eq_false_iff_ne]; exact hr
  clear hr
  cases ht : p.told with
  | false =>
   rw [ht] at c0
   go_enter Tryz.func84, Tryz.ntmps84
   go_wp2
   go_quiet (fail)
   go_wp2
   go_quiet (fail)
   go_wp2
   go_end0
   refine ⟨rfl, HFi.out _ { p with top := tp, told := true } ⟨rfl, rfl⟩ ?_ ?_⟩
   ·exact (zAb.setPeer2 ((zAb.setPeer2 (HQ0.out _ _) hvl 2 (by omega) (.int .i64 tp) { p with top := tp } rfl)) hvl 0 (by omega) (.bool true) { p with top := tp, told := true } rfl)
   ·exact (zAa (zAa (HT0.out _ _) _) _)
  | true =>
   rw [ht] at c0
   by_cases htp : p.top < tp
   ·go_enter Tryz.func84, Tryz.ntmps84
    go_wp2
    go_quiet (fail)
    go_wp2
    go_quiet (fail)
    go_wp2
    go_end0
    refine ⟨rfl, HFi.out _ { p with top := tp, told := true } ⟨rfl, rfl⟩ ?_ ?_⟩
    ·exact (zAb.setPeer2 ((zAb.setPeer2 (HQ0.out _ _) hvl 2 (by omega) (.int .i64 tp) { p with top := tp } rfl)) hvl 0 (by omega) (.bool true) { p with top := tp, told := true } rfl)
    ·exact (zAa (zAa (HT0.out _ _) _) _)
   ·go_enter Tryz.func84, Tryz.ntmps84
    go_wp2
    go_quiet (fail)
    go_wp2
    go_quiet (fail)
    go_wp2
    go_end0
    refine ⟨rfl, HFi.out _ { p with told := true } ⟨rfl, rfl⟩ ?_ ?_⟩
    ·exact (zAb.setPeer2 (HQ0.out _ _) hvl 0 (by omega) (.bool true) { p with told := true } rfl)
    ·exact (zAa (HT0.out _ _) _)
open Go.RowKit
theorem zIE (w0 : World) (c t : Nat) (S : CSt) (n : Nat) (m : List Bool) (ps : List Prom) (qs : List Peer) (v : Nat) (kind to' bal gen basis fl tp rd pa po : Int) (mk pt : ByteArray) (ls : Value) (w : World)
  (h : Prep w0 w c t S n m ps qs) (hv : v < n) (hm : m.getD v false = true) :
  Calls Tryz.prog 79 #[.pointer (some ⟨c, 0, none⟩), .agg #[.int .i64 kind, .int .i64 (v : Int), .int .i64 to', .int .i64 bal, .int .i64 gen, .int .i64 basis, .int .i64 fl, .int .i64 tp, .int .i64 rd, .string mk, .int .i64 pa, .int .i64 po, .string pt, ls]] w fun e w' => e = .returned (.tuple #[]) ∧ Below w.heap.size w w' := by
 have hat := h.at_
 have htl := h.tally
 have hcl := hat.1.lt
 have c9 : w.cell? ⟨c, 9, none⟩ = some (.pointer (some ⟨t, 0, none⟩)) := by rw [← h.promised]; exact hat.hd 9 (by omega)
 have Htl := hid htl
 have Hm := hid hm
 clear h hat htl hm
 go_enter Tryz.func79, Tryz.ntmps79
 go_wp2
 have Htl1 := hid (show zAi (w.alloc (.cells #[.int .i64 kind, .int .i64 (v : Int), .int .i64 to', .int .i64 bal, .int .i64 gen, .int .i64 basis, .int .i64 fl, .int .i64 tp, .int .i64 rd, .string mk, .int .i64 pa, .int .i64 po, .string pt, ls] 30)) t n m from ⟨Htl.out.1.alloc _, Htl.out.2⟩)
 go_quiet ((go_at_call 51; first | exact zAf (zDF t n m v _ (Htl1.out.drewN _) hv) | exact quiet_add_left (zDF t n m v _ (Htl1.out.drewN _) hv)))
 rw [Hm.out]
 go_wp2
 refine bodyPost_ret (results_none rfl _ _ _) rfl ?_
 exact ⟨rfl, below_drewN ((Below.refl _ _).alloc (Nat.le_refl _) _) _⟩
theorem Gf.prep {G : Gh} {D : Dt} {S : CSt} (h : Gf w0 c kb mb n id bal G Z D S w) (hc : zAb w c S) (hT : Touch (zEE c D.pt S) w w') (M' : List Bool) (hm : zAi w' D.pt n M') (ps' : List Prom) (v' : Value) (hr : zDW w0 w' v' ps') (hl : ps'.length ≤ Z + 1) (hs : ∀ p ∈ ps', p.list.length ≤ 1000) :
  Gf w0 c kb mb n id bal G (Z + 1) { D with pM := M', pms := ps' } { S with promises := v' } w' ∧ Fr w0 w w' := by
 obtain ⟨cs, hrow, _⟩ := h.pms
 have hty : ∀ q, q < w.heap.size → zEE c D.pt S q → Tyd [78, 115, 171] w q := fun q _ hq => by
  rcases hq with rfl | rfl | hq
  ·exact Tyd.blk hc.1 (by simp)
  ·exact Tyd.blk h.prmT.1 (by simp)
  ·exact Tyd.row hrow (by simp) hq
 have hk : Keep [78, 115, 171] w w' := Keep.of_touch hT hty (by decide)
 have hab : Abw w0 w w' := hT.mono (fun q _ hq => by
  rcases hq with rfl | rfl | hq
  ·exact h.c0
  ·exact h.talB _ (by unfold Dt.tals; exact List.mem_cons_self)
  ·exact (zCe hrow hq).1)
 have tl : ∀ t ∈ JobD.tals D.job ++ (talO D.yes ++ talO D.prn), ∀ m, zAi w t n m → zAi w' t n m := fun t ht m hm => ⟨hm.1.touch hT (fun e => by
  rcases e with e | e | e
  ·exact hm.1.ne hc.1 (by decide) e
  ·have := h.tals
   unfold Dt.tals at this
   rw [List.nodup_cons] at this
   exact this.1 (e ▸ ht)
  ·exact zAp hrow hm.1 (by decide) e), hm.2⟩
 exact ⟨{ h.mono (Nat.le_succ Z) with
  below := hab.below h.below
  cho := h.cho.keep hk.1 (by decide)
  img := h.img.keep hk.1 (by decide)
  agn := h.agn.keep hk.1 (by decide)
  pck := fun p hp => (h.pck p hp).keep hk.1 (by decide) (by decide)
  prmT := hm
  pms := hr
  pmsL := hl
  pmsS := hs
  jobB := fun J hJ => by
   obtain ⟨a1, a2, a3, a4⟩ := h.jobB J hJ
   exact ⟨hk.1.1 _ _ _ (by decide) a1, tl _ (by rw [hJ]; simp [JobD.tals]) _ a2, tl _ (by rw [hJ]; simp [JobD.tals]) _ a3, a4⟩
  fetB := fun F hF => by
   obtain ⟨a1, a2, a3⟩ := h.fetB F hF
   exact ⟨hk.1.1 _ _ _ (by decide) a1, a2, a3.keep hk.1 (by decide) (by decide) (by decide)⟩
  calB := fun C hC => by
   obtain ⟨a1, a2, a3⟩ := h.calB C hC
   exact ⟨hk.1.1 _ _ _ (by decide) a1, hk.1.2 _ _ _ _ _ _ (by decide) a2, a3⟩
  yesB := fun t ht => ⟨tl _ (by rw [ht]; simp [talO]) _ (h.yesB t ht).1, (h.yesB t ht).2⟩
  prnB := fun t ht => ⟨tl _ (by rw [ht]; simp [talO]) _ (h.prnB t ht).1, (h.prnB t ht).2⟩
  ansB := fun A hA => ⟨hk.1.1 _ _ _ (by decide) (h.ansB A hA).1, (h.ansB A hA).2⟩
  bok := hk.2 _ _ _ h.bok }, hk.1.mono (by decide), hab⟩
theorem Gf.peers {G : Gh} {D : Dt} {S : CSt} (h : Gf w0 c kb mb n id bal G Z D S w) (v : Nat) (hv : v < 9) (p' : Peer) (hp : p'.pack = .pointer none ∨ p'.pack = (D.ps[v]'(by have := h.prsL; omega)).pack ∧ p'.cursor = (D.ps[v]'(by have := h.prsL; omega)).cursor) :
  Gf w0 c kb mb n id bal G Z { D with ps := D.ps.set v p' } { S with peers := zAg (D.ps.set v p') } w :=
 { h with
  prs := rfl
  prsL := by rw [List.length_set]; exact h.prsL
  pck := fun p hpm => by
   rcases zDK hpm with rfl | e
   ·rcases hp with e | e
    ·exact Or.inl e
    ·have := h.pck _ (List.getElem_mem (by have := h.prsL; omega : v < D.ps.length))
     unfold zDw at this ⊢
     rw [e.1, e.2]
     exact this
   ·exact h.pck p e }
theorem Gf.merged {G : Gh} {D : Dt} {S : CSt} (h : Gf w0 c kb mb n id bal G Z D S w) (hZ : 1 ≤ Z) (f t : Int) (v1 v2 : Value) (L1 L2 : List Ent) (r1 : w.ownsRow w0.heap.size 102 3 v1 L1.length (zAs L1)) (r2 : w.ownsRow w0.heap.size 102 3 v2 L2.length (zAs L2)) (l1 : L1.length ≤ 64) (l2 : L2.length ≤ 16) (hd : ∀ g, v1.ownBlock = some g → v2.ownBlock ≠ some g) :
  Gf w0 c kb mb n id bal G Z { D with l := L1, ag := L2 } { S with floor := f, top := t, chosen := v1, again := v2, phase := 2 } w :=
 { h with
  ph := Or.inr (Or.inr rfl)
  cho := RAt.of_row r1
  choL := by show L1.length ≤ 1000 * Z; omega
  agn := RAt.of_row r2
  agnL := l2
  dif := hd }
theorem gc_promise {G : Gh} {D : Dt} {S : CSt} (h : Gc w0 c kb mb n id bal G Z D S w) (hZ : Z ≤ 100000) (v : Nat) (hv : v < n) (kind to' bal2 mg basis fl tp rd pa po : Int) (mm pt : ByteArray) (la : Option Addr) (lc : Nat) (es : List Ent) (hes : zBf w0 la es) (hel : es.length ≤ 1000) :
  Calls Tryz.prog 79 #[.pointer (some ⟨c, 0, none⟩), .agg #[.int .i64 kind, .int .i64 (v : Int), .int .i64 to', .int .i64 bal2, .int .i64 mg, .int .i64 basis, .int .i64 fl, .int .i64 tp, .int .i64 rd, .string mm, .int .i64 pa, .int .i64 po, .string pt, .slice la es.length lc]] w fun x w' => x = .returned (.tuple #[]) ∧ Gs w0 c kb mb n id bal G (Z + 1) w' ∧ Fr w0 w w' := by
 have hn9 := h.gf.n9
 have hpl := h.gf.prsL
 have hP : Prep w0 w c D.pt S n D.pM D.pms D.ps := ⟨h.at_, h.gf.n_, h.gf.n1, h.gf.n9, h.gf.prm, h.gf.prmT, h.gf.pms, h.gf.prs, h.gf.prsL, h.gf.below, h.gf.c0, h.gf.talB _ (by unfold Dt.tals; exact List.mem_cons_self)⟩
 cases hm : D.pM.getD v false with
 | true =>
  refine (zIE w0 c D.pt S n D.pM D.pms D.ps v kind to' bal2 mg basis fl tp rd pa po mm pt (.slice la es.length lc) w hP hv hm).mono ?_
  rintro x w' ⟨rfl, hb⟩
  exact ⟨rfl, Gs.mono ⟨_, _, h.quiet hb⟩ (Nat.le_succ Z), Fr.of_below hb⟩
 | false =>
  have hpm := h.gf.pmsL
  have hlen : ∀ p ∈ D.pms ++ [(⟨fl, tp, es⟩ : Prom)], p.list.length ≤ 1000 := fun p hp => by
   rcases List.mem_append.1 hp with e | e
   ·exact h.gf.pmsS p e
   ·rw [List.mem_singleton.1 e]; exact hel
  refine (zJw w0 c D.pt S n D.pM D.pms D.ps v kind to' bal2 mg basis fl tp rd pa po mm pt la lc es w hP hv hm (by omega) hes (fun p hp => by have := hlen p hp; omega)).mono ?_
  rintro x w' ⟨rfl, hT, hno, hyes⟩
  have hvq : v < D.ps.length := by omega
  have hqv : D.ps.getD v ⟨false, 0, 0, 0, ⟨#[]⟩, false, 0, .pointer none⟩ = D.ps[v] := by rw [List.getD, List.getElem?_eq_getElem hvq]; rfl
  have hfp : (zAQ D.ps[v] fl tp).pack = .pointer none ∨ (zAQ D.ps[v] fl tp).pack = D.ps[v].pack ∧ (zAQ D.ps[v] fl tp).cursor = D.ps[v].cursor := by
   unfold zAQ
   split
   ·exact Or.inl rfl
   ·exact Or.inr ⟨rfl, rfl⟩
  cases hw : wonT (addTo D.pM v n) n with
  | false =>
   obtain ⟨v', hP', _⟩ := hno hw
   obtain ⟨g1, f1⟩ := h.gf.prep h.at_ hT (addTo D.pM v n) hP'.tally (D.pms ++ [(⟨fl, tp, es⟩ : Prom)]) v' hP'.row (by rw [List.length_append]; simp; omega) hlen
   have g2 := g1.peers v (by omega) (zAQ D.ps[v] fl tp) hfp
   have hC := hP'.at_
   rw [hqv] at hC
   exact ⟨rfl, ⟨_, _, hC, g2⟩, f1⟩
  | true =>
   obtain ⟨f, tpp, v1, v2, L1, L2, hC, r1, r2, ht, l1, l2, hd⟩ := hyes hw
   obtain ⟨g1, f1⟩ := h.gf.prep h.at_ hT (addTo D.pM v n) ht [] (.slice none 0 0) ⟨[], World.ownsRow_nil _ _ _ _, by unfold PRow; first | rfl | trivial⟩ (by simp) (fun p hp => by cases hp)
   have g2 := g1.peers v (by omega) (zAQ D.ps[v] fl tp) hfp
   have hbs := h.gf.below.size
   have g3 := g2.merged (by omega) f tpp v1 v2 L1 L2 (zAB r1 hbs) (zAB r2 hbs) l1 l2 hd
   rw [hqv] at hC
   exact ⟨rfl, ⟨_, _, hC, g3⟩, f1⟩
theorem press_long (S : List UInt8) (w : World) (hS : 1048576 < S.length) (hb : S.length ≤ 9000000000000000000) :
  Calls Tryz.prog 130 #[.string (ba S)] w fun e w' => e = .returned (.tuple #[.string ⟨#[]⟩, .int .i64 4]) ∧ Below w.heap.size w w' := by
 have hsz := zAl S
 have HB := hid ((Below.refl w.heap.size w).alloc (Nat.le_refl _) (.cells #[.string (ba S)] 9))
 go_enter Tryz.func130, Tryz.ntmps130
 go_wp2_with fail
 go_ret2
 exact ⟨rfl, HB.out⟩
theorem wrap_long (S : List UInt8) (w : World) (hS : 1048576 < S.length) (hb : S.length ≤ 9000000000000000000) :
  Calls Tryz.prog 115 #[.string (ba S)] w fun e w' => e = .returned (.tuple #[.string ⟨#[]⟩, .int .i64 4]) ∧ Below w.heap.size w w' := by
 have HP := hid (press_long S w hS hb)
 go_enter Tryz.func115, Tryz.ntmps115
 go_wp2_with fail
 refine HP.out.mono ?_
 rintro e w1 ⟨rfl, hb1⟩
 have HB := hid hb1
 go_wp2_with fail
 go_ret2
 exact ⟨rfl, HB.out⟩
theorem zHh {bl sl : List UInt8} {O T : List UInt8} {l : List Stp} (hm : Mk O l T) (hb : bl.length = 32) (hs : sl.length = 32) (hO : O.length ≤ 524288) (hT : T.length ≤ 524288) : (zDT ⟨bl, sl, (T.length : Nat), l⟩).length ≤ 100000000 := by
 have h1 := zER hO l hm.ok
 have h2 : l.length ≤ T.length := by rw [← hm.out]; exact zCb l hm.ok
 rw [hm.out] at h1
 have h3 := zAI (n := T.length) (by omega)
 have h4 := zAI (n := l.length) (by omega)
 unfold zDT
 simp only [List.length_append, Int.toNat_natCast]
 omega
def GPackSays (kb mb : Nat) (B : List ByteArray) (O T : List UInt8) (w : World) (e : Ending) (w' : World) : Prop :=
 ∃ (s : List UInt8) (is_ : Bool) (Bk : List ByteArray), e = .returned (.tuple #[.string (ba s), .bool is_]) ∧ s.length ≤ 524289 ∧ zAo w' kb mb Bk ∧ Ext B Bk ∧ Bk.length ≤ B.length + O.length + T.length + 3 ∧ Touch (fun j => j = mb) w w'
theorem gpack_any (kb mb : Nat) (B : List ByteArray) (O T : List UInt8) (w : World) (hK : zAo w kb mb B) (hne : kb ≠ mb) (hO : O.length ≤ 524288) (hT : T.length ≤ 524288) (hB : B.length ≤ 700000000) :
  Calls Tryz.prog 114 #[.pointer (some ⟨kb, 0, none⟩), .string (ba O), .string (ba T)] w (GPackSays kb mb B O T w) := by
 have hOz := zAl O
 have HW := hid (zEs T w (by omega))
 have HK := hid hK
 have HOf := hid (fun (b : Nat) (h1 : 16 ≤ b) (h2 : b ≤ 1024) w' (h : zAo w' kb mb B) => dOf_any kb mb B O T b w' h hne hO (by omega) h1 h2 hB)
 clear hK hne
 obtain ⟨V, hV⟩ : ∃ V, V = wrapL T := ⟨_, rfl⟩
 rw [← hV] at HW
 have HV := hid hV
 have hVz := zAl V
 clear hV
 go_enter Tryz.func114, Tryz.ntmps114
 go_wp2_with fail
 refine HW.out.mono ?_
 clear HW
 rintro e w1 ⟨rfl, hb1⟩
 have HK1 := hid (HK.out.below hb1)
 have HB1 := hid hb1
 clear hb1 HK
 have HSB := hid (zFY (O.length : Int) w1)
 go_wp2_with fail
 refine HSB.out.mono ?_
 clear HSB
 rintro e w2 ⟨⟨b, rfl, hb1, hb2⟩, rfl⟩
 go_wp2_with fail
 refine (HOf.out b hb1 hb2 _ HK1.out).mono ?_
 clear HOf
 rintro e w3 ⟨dv, l, Bk, rfl, hr, hmk, hK3, hX3, hmO, hmT, hL3, hT3⟩
 obtain ⟨bl, hbl, hbz⟩ := ba_data (zAt Bk (ba O))
 obtain ⟨sl, hsl, hsz⟩ := ba_data (zAt Bk (ba T))
 rw [zFc] at hbz hsz
 rw [← hbl, ← hsl]
 have Hbl := hid hbl
 have Hsl := hid hsl
 have HBy := hid (fun w' (h : w'.ownsRow w1.heap.size 221 3 dv l.length (stpsV l)) => dBytes_any bl sl dv w1.heap.size O T l w' hbz hsz h hmk hO (by omega))
 have Hz := hid (And.intro hbz hsz)
 unfold dlV at HBy ⊢
 obtain ⟨da, dc, rfl⟩ := zAe hr
 clear hbl hsl hbz hsz
 have hBa : Below w3.heap.size w3 (w3.alloc (.cells #[.string (ba bl), .string (ba sl), .int .i64 (T.length : Int), .slice da l.length dc] 196)) := (Below.refl _ w3).alloc (Nat.le_refl _) _
 have HQ := hid (Blk.new w3 [.string (ba bl), .string (ba sl), .int .i64 (T.length : Int), .slice da l.length dc] 196)
 have HT3 := hid ((Touch.of_below (S := fun j => j = mb) HB1.out).trans (hT3.trans (Touch.of_below hBa)))
 have HK3 := hid (hK3.below hBa)
 have HR3 := hid (zAc hr hBa)
 have HX3 := hid hX3
 have HmO := hid hmO
 have HmT := hid hmT
 have HL3 := hid hL3
 have Hmk := hid hmk
 clear hr hmk hK3 hX3 hmO hmT hL3 hT3 hBa HB1 HK1
 go_upto_region 3 with fail
 generalize w3.alloc (.cells #[.string (ba bl), .string (ba sl), .int .i64 (T.length : Int), .slice da l.length dc] 196) = w4 at HQ HT3 HK3 HR3 ⊢
 generalize w3.heap.size = qx at HQ ⊢
 have c0 : w4.cell? ⟨qx, 0, none⟩ = some (.string (ba bl)) := HQ.out.cell 0
 have c1 : w4.cell? ⟨qx, 1, none⟩ = some (.string (ba sl)) := HQ.out.cell 1
 have c2 : w4.cell? ⟨qx, 2, none⟩ = some (.int .i64 (T.length : Int)) := HQ.out.cell 2
 have c3 : w4.cell? ⟨qx, 3, none⟩ = some (.slice da l.length dc) := HQ.out.cell 3
 go_wp2_with fail
 refine (HBy.out _ HR3.out).mono ?_
 clear HBy
 rintro e w5 ⟨rfl, hb5⟩
 have HT5 := hid (HT3.out.trans (Touch.of_below hb5))
 have HK5 := hid (HK3.out.below hb5)
 clear hb5 c0 c1 c2 c3
 obtain ⟨D, hD⟩ : ∃ D, D = zDT ⟨bl, sl, (T.length : Nat), l⟩ := ⟨_, rfl⟩
 rw [← hD]
 have HD := hid hD
 have hDb : D.length ≤ 100000000 := by rw [hD]; exact zHh Hmk.out Hz.out.1 Hz.out.2 hO hT
 clear hD
 have hDz := zAl D
 have HvL := hid (show V.length ≤ 524289 by rw [HV.out]; have := zFg T; omega)
 by_cases hDl : D.length ≤ 1048576
 ·have HWr := hid (fun w' => zEs D w' hDl)
  obtain ⟨W, hW⟩ : ∃ W, W = wrapL D := ⟨_, rfl⟩
  rw [← hW] at HWr
  have hWz := zAl W
  clear hW hDl hDz
  go_wp2_with fail
  refine (HWr.out _).mono ?_
  clear HWr
  rintro e w6 ⟨rfl, hb6⟩
  have HT6 := hid (HT5.out.trans (Touch.of_below hb6))
  have HK6 := hid (HK5.out.below hb6)
  clear hb6 HT5 HK5 HT3 HK3 HR3 HQ
  by_cases hlt : W.length < V.length
  ·have hlt1 : ¬ (V.length : Int) ≤ (W.length : Int) := by omega
   go_wp2_with fail
   go_ret2
   exact ⟨W, true, Bk, rfl, by have := HvL.out; omega, HK6.out, HX3.out, HL3.out, HT6.out⟩
  ·go_wp2_with fail
   go_ret2
   exact ⟨V, false, Bk, rfl, HvL.out, HK6.out, HX3.out, HL3.out, HT6.out⟩
 ·have HWr := hid (fun w' => wrap_long D w' (by omega) (by omega))
  clear hDl
  go_wp2_with fail
  refine (HWr.out _).mono ?_
  clear HWr
  rintro e w6 ⟨rfl, hb6⟩
  have HT6 := hid (HT5.out.trans (Touch.of_below hb6))
  have HK6 := hid (HK5.out.below hb6)
  clear hb6 HT5 HK5 HT3 HK3 HR3 HQ
  go_wp2_with fail
  go_ret2
  exact ⟨V, false, Bk, rfl, HvL.out, HK6.out, HX3.out, HL3.out, HT6.out⟩
end Go.Proofs.YtaemlplcjjbamaaGreatDoor
