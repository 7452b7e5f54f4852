/- Create. Conditions: sizes, order. -/
import Derived.Test.YtaeklleogniimaaGreatDoorUsed
namespace Go.Proofs.YtaeklleogniimaaGreatDoor
open Go.RowKit

theorem insert_at (v : Value) (n i : Nat) (xs : List Value) (vb : Nat) (p : Value) (w : World) (hown : w.ownsRow 0 133 1 v n xs) (hV : Blk w vb [p] 133) (hne : v.ownBlock ≠ some vb) (hi : i ≤ n) (hn : n ≤ 1000000000) (h1x : ∀ u ∈ xs, u.oneCell' = true) (h1v : p.oneCell' = true) :
    Calls Tryz.prog 209 #[v, .int .i64 i, .slice (some ⟨vb, 0, none⟩) 1 1] w fun e w' =>
      ∃ g cap, e = .returned (.slice (some ⟨g, 0, none⟩) (n + 1) cap) ∧ w'.ownsRow 0 133 1 (.slice (some ⟨g, 0, none⟩) (n + 1) cap) (n + 1) (xs.take i ++ p :: xs.drop i) ∧ Touch (fun k => v.ownBlock = some k) w w' ∧ (v.ownBlock = some g ∨ g = w.heap.size) := by
  refine (insert_any v n i xs vb p w hown hV hne hi hn h1x h1v).mono ?_
  rintro e w' ⟨v', rfl, h1, h2, h3⟩
  obtain ⟨g, cap, rfl, _⟩ := row_some h1 (by omega)
  refine ⟨g, cap, rfl, h1, h2, ?_⟩
  rcases h3 with h3 | h3
  · exact Or.inl h3.symm
  · right; simpa [Value.ownBlock] using h3

theorem create_nil (s : ByteArray) (w : World) : Calls Tryz.prog 142 #[.pointer none, .string s] w fun e w' => e = .returned (.int .i64 1) ∧ w = w' := by
  go_enter Tryz.func142, Tryz.ntmps142
  go_wp2_with fail
  refine (ready_nil _).mono ?_
  rintro e w' ⟨rfl, rfl⟩
  go_wp2_with fail
  go_ret
  exact ⟨rfl, rfl⟩
theorem create_off (b : Nat) (S : DSt) (s : ByteArray) (w : World) (h : DiskAt w b S) (ho : S.off = true) : Calls Tryz.prog 142 #[.pointer (some ⟨b, 0, none⟩), .string s] w fun e w' => e = .returned (.int .i64 14) ∧ w = w' := by
  have hr := Lib.hid (ready_any b S w h)
  rw [ho] at hr
  clear h
  go_enter Tryz.func142, Tryz.ntmps142
  go_wp2_with fail
  refine hr.out.mono ?_
  rintro e w' ⟨rfl, rfl⟩
  go_wp2_with fail
  go_ret
  exact ⟨rfl, rfl⟩
theorem create_bad (b : Nat) (S : DSt) (s : ByteArray) (w : World) (h : DiskAt w b S) (ho : S.off = false) (hs : okName s = false) : Calls Tryz.prog 142 #[.pointer (some ⟨b, 0, none⟩), .string s] w fun e w' => e = .returned (.int .i64 1) ∧ Below w.heap.size w w' := by
  have hr := Lib.hid (ready_any b S w h)
  rw [ho] at hr
  have hnm := Lib.hid (named_any s w)
  rw [hs] at hnm
  clear h
  go_enter Tryz.func142, Tryz.ntmps142
  go_wp2_with fail
  refine hr.out.mono ?_
  rintro e w' ⟨rfl, rfl⟩
  go_wp2_with fail
  refine hnm.out.mono ?_
  rintro e w' ⟨rfl, hb⟩
  have Hb := Lib.hid hb
  clear hb
  go_wp2_with fail
  go_ret
  exact ⟨rfl, Hb.out⟩
theorem create_dup (b : Nat) (S : DSt) (s : ByteArray) (w : World) (h : DiskAt w b S) (hor : Ordered S.files) (hl : S.files.length ≤ 1000000000) (ho : S.off = false) (hs : okName s = true) (hat : isAt S.files s = true) : Calls Tryz.prog 142 #[.pointer (some ⟨b, 0, none⟩), .string s] w fun e w' => e = .returned (.int .i64 9) ∧ Below w.heap.size w w' := by
  have hr := Lib.hid (ready_any b S w h)
  rw [ho] at hr
  have hnm := Lib.hid (named_any s w)
  rw [hs] at hnm
  have hp := Lib.hid (fun w' (hb : Below w.heap.size w w') => place_any b S s w' (h.below hb) hor hl)
  rw [hat] at hp
  clear h hor
  go_enter Tryz.func142, Tryz.ntmps142
  go_wp2_with fail
  refine hr.out.mono ?_
  rintro e w' ⟨rfl, rfl⟩
  go_wp2_with fail
  refine hnm.out.mono ?_
  rintro e w' ⟨rfl, hb⟩
  have Hb := Lib.hid hb
  clear hb
  go_wp2_with fail
  refine (hp.out _ Hb.out).mono ?_
  rintro e wx ⟨rfl, rfl⟩
  go_wp2_with fail
  go_ret
  exact ⟨rfl, Hb.out⟩

/-- a new file -/
def newFile (g : Nat) (id : Int) (s : ByteArray) : DFile := ⟨g, .slice none 0 0, .slice none 0 0, id, s, [], []⟩
def created (S : DSt) (v : Value) (f : DFile) : DSt := { S with fv := v, files := S.files.take (lower S.files f.name) ++ f :: S.files.drop (lower S.files f.name), made := S.made + 1 }
theorem DiskAt.inserted {w2 w4 : World} {b n0 L : Nat} {S : DSt} {id : Int} {s : ByteArray} {v : Value} (h : DiskAt w2 b S) (hL : L = lower S.files s) (hN : Blk w2 n0 (fileVals (newFile n0 id s)) 136) (hfresh : ∀ k, foot b S k → k ≠ n0)
    (ht4 : Touch (fun k => S.fv.ownBlock = some k) w2 w4) (hown4 : w4.ownsRow 0 133 1 v (S.files.length + 1) ((fptrs S.files).take L ++ .pointer (some ⟨n0, 0, none⟩) :: (fptrs S.files).drop L)) :
    DiskAt ((w4.setCell ⟨b, 0, none⟩ v).setCell ⟨b, 6, none⟩ (.int .i64 (S.made + 1))) b (created S v (newFile n0 id s)) := by
  subst hL
  obtain ⟨hb1, hb2, hb3⟩ := h.b_ne
  have hB4 := h.blk.touch ht4 hb1
  have T5 : Touch (fun k => k = b) w4 ((w4.setCell ⟨b, 0, none⟩ v).setCell ⟨b, 6, none⟩ (.int .i64 (S.made + 1))) :=
    Touch.set (S := fun k => k = b) (Touch.set (S := fun k => k = b) (Touch.refl _ w4) (p := ⟨b, 0, none⟩) (Or.inl rfl) v) (p := ⟨b, 6, none⟩) (Or.inl rfl) _
  have TT : Touch (fun k => k = b ∨ S.fv.ownBlock = some k) w2 ((w4.setCell ⟨b, 0, none⟩ v).setCell ⟨b, 6, none⟩ (.int .i64 (S.made + 1))) :=
    (ht4.mono (fun k _ hk => Or.inr hk)).trans (T5.mono (fun k _ hk => Or.inl hk))
  have hold : ∀ f ∈ S.files, FileAt ((w4.setCell ⟨b, 0, none⟩ v).setCell ⟨b, 6, none⟩ (.int .i64 (S.made + 1))) f := by
    intro f hf
    have hfa := h.fat f hf
    refine hfa.touch TT ?_ ?_
    · rintro (e | e)
      · exact (hb3 f hf).1 e
      · exact row_ne h.frow hfa.blk (by decide) e
    · rintro k hk (rfl | e)
      · exact (hb3 f hf).2 hk
      · rcases hk with hk | hk
        · exact row_ne_row h.frow hfa.last (by decide) e hk
        · exact row_ne_row h.frow hfa.seen (by decide) e hk
  have hnew : FileAt ((w4.setCell ⟨b, 0, none⟩ v).setCell ⟨b, 6, none⟩ (.int .i64 (S.made + 1))) (newFile n0 id s) := by
    refine ⟨hN.touch TT ?_, World.ownsRow_nil _ _ _ _, World.ownsRow_nil _ _ _ _, fun k hk => ?_⟩
    · rintro (e | e)
      · exact hfresh b (Or.inl rfl) e.symm
      · exact hfresh n0 (Or.inr (Or.inl e)) rfl
    · cases hk
  refine ⟨(hB4.set 0 v).set 6 _, ?_, ?_, ?_, ?_⟩
  · have e1 : fptrs (S.files.take (lower S.files s) ++ newFile n0 id s :: S.files.drop (lower S.files s)) = (fptrs S.files).take (lower S.files s) ++ .pointer (some ⟨n0, 0, none⟩) :: (fptrs S.files).drop (lower S.files s) := by
      unfold fptrs
      rw [List.map_append, List.map_cons, List.map_take, List.map_drop]
      rfl
    have e2 : (S.files.take (lower S.files s) ++ newFile n0 id s :: S.files.drop (lower S.files s)).length = S.files.length + 1 := by
      have hle : lower S.files s ≤ S.files.length := List.countP_le_length
      simp; omega
    show World.ownsRow _ 0 _ 1 v (S.files.take (lower S.files s) ++ newFile n0 id s :: S.files.drop (lower S.files s)).length (fptrs (S.files.take (lower S.files s) ++ newFile n0 id s :: S.files.drop (lower S.files s)))
    rw [e1, e2]
    exact row_touch hown4 T5 (fun k hk e => row_ne hown4 hB4 (by decide) (by rw [hk, e]))
  · refine row_touch h.wrow TT ?_
    rintro k hk (rfl | e)
    · exact hb2 hk
    · exact row_ne_row h.frow h.wrow (by decide) e hk
  · intro f hf
    have hf2 : f ∈ S.files.take (lower S.files s) ++ newFile n0 id s :: S.files.drop (lower S.files s) := hf
    rcases List.mem_append.1 hf2 with h1 | h1
    · exact hold f (List.mem_of_mem_take h1)
    · rcases List.mem_cons.1 h1 with rfl | h1
      · exact hnew
      · exact hold f (List.mem_of_mem_drop h1)
  · show (S.files.take (lower S.files s) ++ newFile n0 id s :: S.files.drop (lower S.files s)).Pairwise Apart
    rw [List.pairwise_middle Apart.symm, List.take_append_drop, List.pairwise_cons]
    refine ⟨fun f hf => ⟨fun e => hfresh f.g (Or.inr (Or.inr (Or.inr ⟨f, hf, Or.inl rfl⟩))) e.symm, fun k hk => ?_⟩, h.apart⟩
    rcases hk with hk | hk <;> cases hk

set_option maxRecDepth 100000 in
set_option maxHeartbeats 4000000 in
theorem create_ok (b : Nat) (S : DSt) (s : ByteArray) (w : World) (h : DiskAt w b S) (hor : Ordered S.files) (hl : S.files.length ≤ 1000000000) (ho : S.off = false) (hs : okName s = true) (hat : isAt S.files s = false) (hm : 0 ≤ S.made ∧ S.made ≤ 1000000000) :
    Calls Tryz.prog 142 #[.pointer (some ⟨b, 0, none⟩), .string s] w fun e w' => ∃ v g, e = .returned (.int .i64 0) ∧ DiskAt w' b (created S v (newFile g S.made s)) ∧ w.heap.size ≤ g ∧ Touch (fun k => k = b ∨ S.fv.ownBlock = some k) w w' ∧ (∀ k, v.ownBlock = some k → S.fv.ownBlock = some k ∨ w.heap.size ≤ k) := by
  have hr := Lib.hid (ready_any b S w h)
  rw [ho] at hr
  have hnm := Lib.hid (named_any s w)
  rw [hs] at hnm
  have hp := Lib.hid (fun w' (hb : Below w.heap.size w w') => place_any b S s w' (h.below hb) hor hl)
  rw [hat] at hp
  have HD := Lib.hid (fun w' (hb : Below w.heap.size w w') => h.below hb)
  have hlow : lower S.files s ≤ S.files.length := List.countP_le_length
  clear h hor
  go_enter Tryz.func142, Tryz.ntmps142
  go_wp2_with fail
  refine hr.out.mono ?_
  rintro e w' ⟨rfl, rfl⟩
  go_wp2_with fail
  refine hnm.out.mono ?_
  rintro e w1 ⟨rfl, hb⟩
  have Hb := Lib.hid hb
  clear hb
  go_wp2_with fail
  refine (hp.out _ Hb.out).mono ?_
  rintro e wx ⟨rfl, rfl⟩
  have h1 := HD.out w1 Hb.out
  obtain ⟨ad, cap, hv⟩ := row_shape h1.frow
  have c0 : w1.cell? ⟨b, 0, none⟩ = some (.slice ad S.files.length cap) := by rw [← hv]; exact h1.blk.cell 0
  have c6 : w1.cell? ⟨b, 6, none⟩ = some (.int .i64 S.made) := h1.blk.cell 6
  have hbl := h1.blk.lt
  have hsz : w.heap.size ≤ w1.heap.size := Hb.out.size
  have H1 := Lib.hid h1
  have Hv := Lib.hid hv
  have hD2 : DiskAt (((w1.alloc (Obj.cells #[Value.int IntKind.i64 S.made, Value.string s, Value.slice none 0 0, Value.slice none 0 0] 136)).alloc (Obj.cells #[Value.pointer (some { block := w1.heap.size, off := 0 })] 133)).drew) b S :=
    h1.touch (P := fun _ => False) (((Touch.refl _ w1).alloc _).alloc _).drew (fun _ _ h => h)
  have hV2 : Blk (((w1.alloc (Obj.cells #[Value.int IntKind.i64 S.made, Value.string s, Value.slice none 0 0, Value.slice none 0 0] 136)).alloc (Obj.cells #[Value.pointer (some { block := w1.heap.size, off := 0 })] 133)).drew) (w1.heap.size + 1) [.pointer (some ⟨w1.heap.size, 0, none⟩)] 133 := by
    have := Blk.new (w1.alloc (Obj.cells #[Value.int IntKind.i64 S.made, Value.string s, Value.slice none 0 0, Value.slice none 0 0] 136)) [.pointer (some ⟨w1.heap.size, 0, none⟩)] 133
    rw [show (w1.alloc (Obj.cells #[Value.int IntKind.i64 S.made, Value.string s, Value.slice none 0 0, Value.slice none 0 0] 136)).heap.size = w1.heap.size + 1 by simp] at this
    exact this
  have hN2 : Blk (((w1.alloc (Obj.cells #[Value.int IntKind.i64 S.made, Value.string s, Value.slice none 0 0, Value.slice none 0 0] 136)).alloc (Obj.cells #[Value.pointer (some { block := w1.heap.size, off := 0 })] 133)).drew) w1.heap.size (fileVals (newFile w1.heap.size S.made s)) 136 :=
    ((Blk.new w1 [Value.int IntKind.i64 S.made, Value.string s, Value.slice none 0 0, Value.slice none 0 0] 136).alloc _).drew
  have hT2 : Touch (fun k => k = b ∨ S.fv.ownBlock = some k) w (((w1.alloc (Obj.cells #[Value.int IntKind.i64 S.made, Value.string s, Value.slice none 0 0, Value.slice none 0 0] 136)).alloc (Obj.cells #[Value.pointer (some { block := w1.heap.size, off := 0 })] 133)).drew) :=
    (((Touch.of_below Hb.out).alloc _).alloc _).drew
  have hz2 : (((w1.alloc (Obj.cells #[Value.int IntKind.i64 S.made, Value.string s, Value.slice none 0 0, Value.slice none 0 0] 136)).alloc (Obj.cells #[Value.pointer (some { block := w1.heap.size, off := 0 })] 133)).drew).heap.size = w1.heap.size + 2 := by simp
  have hfne : S.fv.ownBlock ≠ some (w1.heap.size + 1) := fun e => by have := (h1.frow.lt _ e).2; omega
  have hfnb : S.fv.ownBlock ≠ some b := row_ne h1.frow h1.blk (by decide)
  have hins := insert_at S.fv S.files.length (lower S.files s) (fptrs S.files) (w1.heap.size + 1) (.pointer (some ⟨w1.heap.size, 0, none⟩)) _ hD2.frow hV2 hfne hlow hl (fun u hu => by
    obtain ⟨f, _, rfl⟩ := List.mem_map.1 hu
    rfl) rfl
  have HFV := Lib.hid (show S.fv.ownBlock = (Value.slice ad S.files.length cap).ownBlock by rw [hv])
  rw [hv] at hins
  have HI := Lib.hid hins
  have HD2 := Lib.hid hD2
  have HN2 := Lib.hid hN2
  have HT2 := Lib.hid hT2
  have HZ2 := Lib.hid hz2
  have Hfnb := Lib.hid hfnb
  clear h1 hv hr hnm hp HD hD2 hV2 hN2 hT2 hz2 hfne hfnb hins
  go_upto_region 9 with (fail)
  go_region_with ((go_at_call 209; refine HI.out.mono ?_; rintro e w4 ⟨g, cp, rfl, hown4, ht4, hg4⟩; have hB4 := HD2.out.blk.touch ht4 (fun e => Hfnb.out (HFV.out.trans e)); have c40 : w4.cell? ⟨b, 0, none⟩ = some S.fv := hB4.cell 0; have c46 : w4.cell? ⟨b, 6, none⟩ = some (.int .i64 S.made) := hB4.cell 6; have f40 := hB4.free 0; have f46 := hB4.free 6; have Hown4 := Lib.hid hown4; have Ht4 := Lib.hid ht4; have Hg4 := Lib.hid hg4; have HB4 := Lib.hid hB4; clear hown4 ht4 hg4 hB4))
  all_goals go_wp2_with fail
  all_goals go_ret
  all_goals
    have ht4 := Ht4.out
    have hg4 := Hg4.out
    rw [← HFV.out] at ht4 hg4
    refine ⟨.slice (some ⟨g, 0, none⟩) (S.files.length + 1) cp, w1.heap.size, rfl, HD2.out.inserted rfl HN2.out (fun k hk e => ?_) ht4 Hown4.out, hsz, ?_, ?_⟩
    · have := foot_lt H1.out hk
      omega
    · have T5 := Touch.set (S := fun k => k = b) (Touch.set (S := fun k => k = b) (Touch.refl _ w4) (p := ⟨b, 0, none⟩) (Or.inl rfl) (.slice (some ⟨g, 0, none⟩) (S.files.length + 1) cp)) (p := ⟨b, 6, none⟩) (Or.inl rfl) (.int .i64 (S.made + 1))
      exact HT2.out.trans ((ht4.mono (fun k _ hk => Or.inr hk)).trans (T5.mono (fun k _ hk => Or.inl hk)))
    · intro k hk
      have e : g = k := by simpa [Value.ownBlock] using hk
      subst e
      rcases hg4 with h9 | h9
      · exact Or.inl h9
      · rw [HZ2.out] at h9
        exact Or.inr (by omega)
end Go.Proofs.YtaeklleogniimaaGreatDoor
