/- Write. Conditions: as stated. -/
import Derived.Test.YtgkkmdebpekckaaMm
import Derived.Deep.RegionHeld3
namespace Go.Proofs.Ytgkkmdebpekckaa
open Go.RowKit Go.Shelf
theorem map_snoc (N : Nat) (v : Nat → Value) (x : Value) : (List.range (N + 1)).map (fun k => if k = N then x else v k) = (List.range N).map v ++ [x] := by
  rw [List.range_succ, List.map_append]
  congr 1
  · apply List.map_congr_left
    intro r hr
    have := List.mem_range.1 hr
    rw [if_neg (by omega)]
  · simp
/-- A batch is put behind the loose ones (w1: behind own; wa, w2: ahead of the append and behind it; w4: behind lay). -/
theorem Mdl.wrote {Z : Nat → Prop} {w w1 wa w2 w4 : World} {m n : Nat} {s : St} {gS cS gN cN : Nat} {lv wv lv' : Value} {bv : Nat → Value} (h : Mdl Z w m n s gS cS gN cN lv wv bv) (hb : Below w.heap.size w w1) {v : Value} {b : Bt}
    (hv : BatX (fun k => k < w.heap.size) w1 v b) (hwa : Below w1.heap.size w1 wa) (hl : w2.ownsRow 0 24 1 lv' (s.L + 1) ((List.range s.L).map bv ++ [v])) (ht : Two wa.heap.size wa lv s.L 1 lv' w2)
    (ho : Out (fun k => k = gN) (w2.setCell ⟨m, 3, none⟩ lv') w4) (hr : w4.ownsRow 0 5 1 (.slice (some ⟨gN, 0, none⟩) (128 * n) cN) (128 * n) (bytesL (128 * n) (layN s.now b.bl b.f b.N))) :
    ∃ Z', MdlAt Z' (w4.setCell ⟨m, 4, none⟩ (.slice none 0 0)) m n (s.write b) ∧ Out Z w (w4.setCell ⟨m, 4, none⟩ (.slice none 0 0)) ∧ ∀ k, Z' k → Z k ∨ w.heap.size ≤ k := by
  have hmz : m < w.heap.size := h.zlt m (h.zx m (.inl rfl))
  have hNz : gN < w.heap.size := h.zlt gN (h.zx gN (.inr (.inr (.inl rfl))))
  have hSz : gS < w.heap.size := h.zlt gS (h.zx gS (.inr (.inl rfl)))
  have hlz : ∀ k, lv.ownBlock = some k → k < w.heap.size := fun k hk => h.zlt k (h.zx k (.inr (.inr (.inr hk))))
  have hsz1 := hb.size
  have hsza := hwa.size
  have hbl : ∀ k, lv'.ownBlock = some k → lv.ownBlock = some k ∨ k = wa.heap.size := fun k hk => ht.block hk
  let S : Nat → Prop := fun k => k = m ∨ lv.ownBlock = some k ∨ k = gN
  have hO : ∀ a, Out S a wa → Out S a (w4.setCell ⟨m, 4, none⟩ (.slice none 0 0)) := fun a ha =>
    (((ht.out ha (fun k hk _ => .inr (.inl hk))).setCell (p := ⟨m, 3, none⟩) (fun _ => .inl rfl) lv').tr (ho.mono fun k _ e => .inr (.inr e))).setCell (p := ⟨m, 4, none⟩) (fun _ => .inl rfl) _
  have hoW : Out S w (w4.setCell ⟨m, 4, none⟩ (.slice none 0 0)) := hO w (Out.of_below (hb.trans (hwa.mono hsz1)))
  have hoW1 : Out S w1 (w4.setCell ⟨m, 4, none⟩ (.slice none 0 0)) := hO w1 (Out.of_below hwa)
  have hSM : ∀ k, S k → Mx m gS gN lv k := fun k hk => by
    rcases hk with hk | hk | hk
    · exact .inl hk
    · exact .inr (.inr (.inr hk))
    · exact .inr (.inr (.inl hk))
  have h2 : w2.heap[m]? = w.heap[m]? := by
    have h0 : Out (fun k => lv.ownBlock = some k) w w2 := ht.out (Out.of_below (hb.trans (hwa.mono hsz1))) (fun k hk _ => hk)
    exact h0.block m hmz (fun e => (h.d4 m e).1 rfl)
  have hb2 := h2.trans h.blk
  have hb3 := heap_setCell_same w2 m 3 _ 68 lv' hb2
  have hb4 := ho.heap hb3 h.d2
  have hb5 := heap_setCell_same w4 m 4 _ 68 (.slice none 0 0) hb4
  have d4' : ∀ k, lv'.ownBlock = some k → k ≠ m ∧ k ≠ gS ∧ k ≠ gN := fun k hk => by
    rcases hbl k hk with h1 | h1
    · exact h.d4 k h1
    · subst h1; refine ⟨?_, ?_, ?_⟩ <;> omega
  refine ⟨fun k => Z k ∨ (w.heap.size ≤ k ∧ k < (w4.setCell ⟨m, 4, none⟩ (.slice none 0 0)).heap.size), ⟨gS, cS, gN, cN, lv', .slice none 0 0, fun k => if k = s.L then v else bv k, hb5, ?_, ?_, ?_, fun k hk => ?_, noBt_at _ _, fun k hk => ?_, fun k hk => ?_, h.d1, h.d2, h.d3, d4'⟩, hoW.mono fun k _ hk => h.zx k (hSM k hk), fun k hk => hk.imp id And.left⟩
  · refine hoW.own h.sure (fun k hk e => ?_)
    cases hk
    rcases e with e | e | e
    · exact h.d1 e.symm
    · exact (h.d4 _ e).2.1 rfl
    · exact h.d3 e
  · exact ownsRow_setCell_other hr (fun e => by cases e; exact h.d2 rfl) _
  · show World.ownsRow _ 0 24 1 lv' (s.L + 1) ((List.range (s.L + 1)).map fun k => if k = s.L then v else bv k)
    rw [map_snoc]
    refine ownsRow_setCell_other (ho.own (ownsRow_setCell_other hl (fun e => (d4' _ e).1 rfl) _) (fun k hk e => (d4' k hk).2.2 e)) (fun e => (d4' _ e).1 rfl) _
  · by_cases e : k = s.L
    · subst e
      simp only [if_true, St.write]
      have hv1 : BatX (fun k => k < w.heap.size ∨ w1.heap.size ≤ k) w1 v b := hv.mono fun k hk h => h.elim id fun e => absurd e (by omega)
      refine (hv1.out hoW1 fun k _ hk => .inl (h.zlt k (h.zx k (hSM k hk)))).mono fun k hk hx => ?_
      rcases hx with hx | hx | hx | hx | hx
      · refine .inl ?_
        have : ¬ (w.heap.size ≤ k ∧ k < (w4.setCell ⟨m, 4, none⟩ (.slice none 0 0)).heap.size) := fun e => hx (.inr e)
        omega
      · exact .inl (by omega)
      · exact .inl (by omega)
      · exact .inl (by omega)
      · rcases hbl k hx with h1 | h1
        · exact .inl (hlz k h1)
        · exact .inr (by omega)
    · have hk' : k < s.L := by have : k < s.L + 1 := hk; omega
      simp only [if_neg e, St.write]
      refine ((h.bat k hk').out hoW fun k _ hk => .inr (hSM k hk)).mono fun k hk hx => ?_
      rcases hx with hx | hx | hx | hx | hx
      · exact .inl fun hz => hx (.inl hz)
      · exact .inr (.inl hx)
      · exact .inr (.inr (.inl hx))
      · exact .inr (.inr (.inr (.inl hx)))
      · rcases hbl k hx with h1 | h1
        · exact .inr (.inr (.inr (.inr h1)))
        · exact .inl fun hz => by have := h.zlt k hz; omega
  · rcases hk with hk | hk | hk | hk
    · exact .inl (h.zx k (.inl hk))
    · exact .inl (h.zx k (.inr (.inl hk)))
    · exact .inl (h.zx k (.inr (.inr (.inl hk))))
    · rcases hbl k hk with h1 | h1
      · exact .inl (h.zx k (.inr (.inr (.inr h1))))
      · refine .inr ⟨by omega, ?_⟩
        have h3 := (hl.lt k hk).2
        have h4 := ho.size
        rw [World.size_setCell] at h4
        rw [World.size_setCell]
        omega
  · rcases hk with hk | hk
    · exact Nat.lt_of_lt_of_le (h.zlt k hk) hoW.size
    · exact hk.2
/-- What own hands back, told from an elder world w0. -/
def OwnQ (B : Nat) (b : Bt) (w0 : World) (e : Ending) (w' : World) : Prop := ∃ a0 cap, e = .returned (.slice a0 b.N cap) ∧ BatX (fun k => k < B) w' (.slice a0 b.N cap) b ∧ Below w0.heap.size w0 w'
theorem own_q {w0 w1 : World} {v : Value} {b : Bt} {X : Nat → Prop} (h : BatX X w0 v b) (hN : b.N ≤ 65536) (hb : Below w0.heap.size w0 w1) (B : Nat) (hB : B ≤ w0.heap.size) : Calls Try.prog 23 #[v] w1 (OwnQ B b w0) := by
  obtain ⟨dv, hpt, hdt⟩ := h.out (Out.of_below (S := fun _ => False) hb) (fun _ _ h => h.elim)
  refine (own_any v b.N (fun i => (b.bl i : Int)) dv b.f X w1 hpt hdt hN).mono ?_
  intro e w' hO
  obtain ⟨a0, cap, rfl, h1, h2⟩ := hO.at (X := fun k => k < B) (fun k h _ => by have := hb.size; omega)
  exact ⟨a0, cap, rfl, h1, hb.trans (h2.mono hb.size)⟩
set_option maxRecDepth 100000 in
set_option maxHeartbeats 1000000 in
theorem write_any (Z : Nat → Prop) (m n : Nat) (s : St) (a : Ar) (v : Value) (w : World) (h : MdlAt Z w m n s) (hn : n ≤ 61440) (hL : s.L ≤ 1000000) (hv : ArX Z w v a) :
    Calls Try.prog 12 #[.pointer (some ⟨m, 0, none⟩), v] w (MutP m n (a.chk n) Z (s.wr n a) w) := by
  obtain ⟨gS, cS, gN, cN, lv, wv, bv, h⟩ := h
  have HM := Lib.hid h
  have hcheck := Lib.hid (check_any m n cN _ _ _ _ _ a v w h.blk hn (hv.mono fun _ _ h => h.elim))
  have hmz : m < w.heap.size := h.zlt m (h.zx m (.inl rfl))
  obtain ⟨a0, cap0, rfl⟩ := hv.form
  obtain ⟨la, lc, rfl, -⟩ := own_formN h.loose
  clear h
  rcases chk_cases n a with h0 | ⟨hne, hc⟩
  · have ht := Ar.taken_of h0
    by_cases hN0 : a.N = 0
    · have e0 : s.wr n a = s := if_neg (by omega)
      rw [e0]
      rw [h0] at hcheck ⊢
      rw [hN0] at hcheck ⊢
      clear h0 e0 ht hv hN0
      go_enter Try.func12, Try.ntmps12
      go_wp2_with (first | (go_at_call 22; refine hcheck.out.mono ?_; rintro e w1 ⟨rfl, hb⟩; have HB := Lib.hid hb; clear hb hcheck))
      go_ret
      exact MutP.same ⟨_, _, _, _, _, _, _, HM.out⟩ HB.out
    · have e0 : s.wr n a = s.write a.bt := if_pos ⟨h0, by omega⟩
      rw [e0]
      rw [h0] at hcheck ⊢
      have HV := Lib.hid hv
      have HT := Lib.hid ht
      have hpos : (0 : Int) < (a.N : Int) := by omega
      clear h0 e0 ht hv
      obtain ⟨i1, hi1, hy0, hy1, hy2⟩ := info_parts Try.info24
      go_enter Try.func12, Try.ntmps12
      go_wp2_with (first | (go_at_call 22; refine hcheck.out.mono ?_; rintro e w1 ⟨rfl, hb⟩; have HB := Lib.hid hb; clear hb hcheck))
      have hb1 : BatX Z w1 (.slice a0 a.N cap0) a.bt := (HT.out.at HV.out).out (Out.of_below (S := fun _ => False) HB.out) (fun _ _ h => h.elim)
      have hown : Hid (∀ W, Below w1.heap.size w1 W → Calls Try.prog 23 #[.slice a0 a.N cap0] W (OwnQ w.heap.size a.bt w1)) := fun W hb => own_q hb1 (by have := HT.out.N; show a.N ≤ _; omega) hb _ HB.out.size
      have HLo : Hid (w1.ownsRow 0 24 1 (.slice la s.L lc) s.L ((List.range s.L).map bv)) := own_keep HB.out HM.out.loose
      have hm1 := HM.out.out (Out.of_below (S := fun _ => False) HB.out) (fun _ _ h => h.elim)
      have hm1z : m < w1.heap.size := Nat.lt_of_lt_of_le hmz HB.out.size
      obtain ⟨k1, f1, z1⟩ := cr hm1.blk
      have HB1 := Lib.hid hb1
      have HBlk1 := Lib.hid hm1.blk
      clear hb1 hm1
      go_region_law (first
        | (refine step_append_two _ rfl (.tmp 20) (.tmp 23) 22 rfl 0 24 i1 (.slice none 0 0) 1 24 Try.underlying22 hi1 hy0 hy1 hy2 rfl (by decide) (.slice la s.L lc) s.L ((List.range s.L).map bv) (by simp [Act.eval]) (own_keep (w := w1) (by go_grown) HLo.out) ⟨w2.heap.size, 0, none⟩ 1 1 [.slice va a.bt.N vc] (by simp [Act.eval]) rfl (World.news_of_block (cs := #[.slice va a.bt.N vc]) (t := 24) (fr := (0, 0)) (heap_alloc_new w2 _)) (by intro u hu; rw [List.mem_singleton.1 hu]; rfl) (by omega) (by unfold maxLen; omega) (by omega) (Nat.zero_le _) ?_; intro v' w' hown htwo; obtain ⟨lva, lvc, rfl, -, -⟩ := own_form hown; obtain ⟨kw, fw, zw⟩ := cr (htwo.heap ((Below.heap_alloc _ _ _ (by omega)).trans ((hb.block m hm1z).trans HBlk1.out)) (fun e => (HM.out.d4 m e).1 rfl)))
        | (go_simp; go_at_call 23; refine (hown.out _ (by go_grown)).mono ?_; rintro e w2 ⟨va, vc, rfl, hbat, hb⟩; obtain ⟨kk, ff, zz⟩ := kp hb m hm1z; have hsz2 := hb.size))
      all_goals (
        have hbw : Below w.heap.size w w2 := HB.out.trans (hb.mono HB.out.size)
        have hwa : Below w2.heap.size w2 (w2.alloc (.cells #[.slice va a.bt.N vc] 24)) := bal (Below.refl _ _) _
        have hOut3 : ∀ x, Out Z x (w2.alloc (.cells #[.slice va a.bt.N vc] 24)) → Out Z x (w'.setCell ⟨m, 3, none⟩ (.slice lva (s.L + 1) lvc)) := fun x hx =>
          (htwo.out hx (fun k hk _ => HM.out.zx k (.inr (.inr (.inr hk))))).setCell (p := ⟨m, 3, none⟩) (fun _ => HM.out.zx m (.inl rfl)) _
        have hN3 : (w'.setCell ⟨m, 3, none⟩ (.slice lva (s.L + 1) lvc)).ownsRow 0 5 1 (.slice (some ⟨gN, 0, none⟩) (128 * n) cN) (128 * n) (bytesL (128 * n) s.now) := by
          refine ownsRow_setCell_other (htwo.keep ((own_keep hbw HM.out.now).alloc _) (fun k hk e => by cases hk; exact (HM.out.d4 _ e).2.2 rfl)) (fun e => by cases e; exact HM.out.d2 rfl) _
        have hV3 : BatX Z (w'.setCell ⟨m, 3, none⟩ (.slice lva (s.L + 1) lvc)) (.slice a0 a.N cap0) a.bt := HB1.out.out (hOut3 w1 (Out.of_below (hb.trans (hwa.mono hb.size)))) (fun _ _ h => h)
        have hblk3 := heap_setCell_same w' m 3 _ 68 (.slice lva (s.L + 1) lvc) (htwo.heap ((Below.heap_alloc _ _ _ (by omega)).trans ((hb.block m hm1z).trans HBlk1.out)) (fun e => (HM.out.d4 m e).1 rfl))
        obtain ⟨dv, hpt, hdt⟩ := hV3.mono (Y := fun b => b = gN) (fun k _ e => by rw [e]; exact HM.out.zx gN (.inr (.inr (.inl rfl))))
        have HLay := Lib.hid (lay_any 0 gN n cN s.now (.slice a0 a.N cap0) a.bt.N a.bt.bl dv a.bt.f _ hN3 hpt hdt (fun i hi => by have := HT.out.bl i hi; show (a.bl i).toNat < n; omega) (by have := HT.out.N; show a.N ≤ _; omega) hn)
        have HBW := Lib.hid hbw
        have HBat := Lib.hid hbat
        have HWa := Lib.hid hwa
        have HOwn := Lib.hid hown
        have HTwo := Lib.hid htwo
        have HBlk3 := Lib.hid hblk3
        clear hbw hbat hwa hown htwo hN3 hV3 hpt hdt hOut3 hb hsz2 kk ff zz
        go_wp2_with fail
        refine HLay.out.mono ?_
        clear HLay
        rintro e w4 ⟨rfl, hrow, hout⟩
        have HRow := Lib.hid hrow
        have HOut4 := Lib.hid hout
        obtain ⟨k4, f4, z4⟩ := cr (hout.heap hblk3 HM.out.d2)
        clear hrow hout hblk3
        go_wp2
        go_ret
        obtain ⟨Z', h1, h2, h3⟩ := HM.out.wrote HBW.out HBat.out HWa.out HOwn.out HTwo.out HOut4.out HRow.out
        exact ⟨rfl, Z', h1, h2, h3⟩)
  · have e0 : s.wr n a = s := if_neg (fun e => hne e.1)
    rw [e0]
    obtain ⟨c, hcc⟩ : ∃ c, a.chk n = c := ⟨_, rfl⟩
    rw [hcc] at hcheck hne hc ⊢
    clear e0 hcc hv
    have hne' : ((c : Int) == 0) = false := by simp; exact hne
    go_enter Try.func12, Try.ntmps12
    go_wp2_with (first | (go_at_call 22; refine hcheck.out.mono ?_; rintro e w1 ⟨rfl, hb⟩; have HB := Lib.hid hb; clear hb hcheck))
    go_ret
    exact MutP.same ⟨_, _, _, _, _, _, _, HM.out⟩ HB.out
end Go.Proofs.Ytgkkmdebpekckaa
