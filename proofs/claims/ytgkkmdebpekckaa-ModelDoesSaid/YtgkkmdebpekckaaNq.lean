/- The reference's Crash. Conditions: as stated at each. -/
import Derived.Test.YtgkkmdebpekckaaNp
namespace Go.Proofs.Ytgkkmdebpekckaa
open Go.RowKit Go.Shelf
def Rf.crash (x : Nat → Nat) : Rf := ⟨x, 0, fun _ => noBt, 0, noBt⟩
theorem rmd_crash {Z : Nat → Prop} {w w1 w2 : World} {r n g c : Nat} {s : Rf} {x : Nat → Nat} {q0 q1 q2 q3 : Value} (h : RMdAt Z w r n s) (hb : Below w.heap.size w w1) (hb2 : Below w1.heap.size w1 w2) (hcs : w2.heap[r]? = some (.cells #[q0, q1, q2, q3] 76 (0, 0)))
    (h1 : w2.ownsRow w1.heap.size 5 1 (.slice (some ⟨g, 0, none⟩) (128 * n) c) (128 * n) (bytesL (128 * n) x))
    {W : World} (hW : W = (((w2.setCell ⟨r, 0, none⟩ (.slice (some ⟨g, 0, none⟩) (128 * n) c)).setCell ⟨r, 1, none⟩ (.slice none 0 0)).setCell ⟨r, 2, none⟩ (.int .i64 0)).setCell ⟨r, 3, none⟩ (.slice none 0 0)) :
    ∃ Z', RMdAt Z' W r n (Rf.crash x) ∧ Out Z w W ∧ ∀ k, Z' k → Z k ∨ w.heap.size ≤ k := by
  obtain ⟨gF, cF, lv, wv, bv, h⟩ := h
  have hrz : r < w.heap.size := h.zlt r (h.zx r (.inl rfl))
  have hsz := hb.size
  have hg := h1.lt g rfl
  have ho : Out (fun k => k = r) w2 W := by
    subst hW
    exact (((Out.setCell (S := fun k => k = r) (Out.refl _ _) (p := ⟨r, 0, none⟩) (fun _ => rfl) _).setCell (p := ⟨r, 1, none⟩) (fun _ => rfl) _).setCell (p := ⟨r, 2, none⟩) (fun _ => rfl) _).setCell (p := ⟨r, 3, none⟩) (fun _ => rfl) _
  have hne : r ≠ g := by omega
  refine ⟨fun k => k = r ∨ k = g, ⟨g, c, .slice none 0 0, .slice none 0 0, fun _ => .slice none 0 0, ?_, ?_, World.ownsRow_nil _ _ _ _, fun _ hk => absurd hk (Nat.not_lt_zero _), noBt_at _ _, ?_, ?_, hne, fun k hk => by cases hk⟩, (Out.of_below (hb.trans (hb2.mono hsz))).tr (ho.mono fun k _ e => by rw [e]; exact h.zx r (.inl rfl)), ?_⟩
  · subst hW
    have e0 := heap_setCell_same w2 r 0 _ 76 (.slice (some ⟨g, 0, none⟩) (128 * n) c) hcs
    have e1 := heap_setCell_same _ r 1 _ 76 (.slice none 0 0) e0
    have e2 := heap_setCell_same _ r 2 _ 76 (.int .i64 0) e1
    exact heap_setCell_same _ r 3 _ 76 (.slice none 0 0) e2
  · exact ho.own (own_base_le h1 (Nat.zero_le _)) fun k hk e => by cases hk; exact hne e.symm
  · rintro k (hk | hk | hk)
    · exact .inl hk
    · exact .inr hk
    · cases hk
  · rintro k (rfl | rfl)
    · have := ho.size; have := hb2.size; omega
    · exact Nat.lt_of_lt_of_le hg.2 ho.size
  · rintro k (rfl | rfl)
    · exact .inl (h.zx _ (.inl rfl))
    · exact .inr (by omega)
set_option maxRecDepth 100000 in
set_option maxHeartbeats 1000000 in
theorem rcrash_bad (Z : Nat → Prop) (r n : Nat) (s : Rf) (aa : Option Addr) (nA ca : Nat) (fa : Nat → Nat) (w : World) (h : RMdAt Z w r n s) (hs : s.ok n) (hn0 : 0 < n) (hn : n ≤ 61440) (hB : s.NB ≤ 1000000000)
    (ha : Bts w (.slice aa nA ca) nA fa) (hf : Lt nA fa) (hc : ¬ s.could n nA fa) :
    Calls Try.prog 39 #[.pointer (some ⟨r, 0, none⟩), .slice aa nA ca] w fun e w' => e = .returned (.int .i64 180) ∧ Below w.heap.size w w' := by
  have HC := Lib.hid (rcould_any Z r n s aa nA ca fa w h hs hn0 hn hB ha hf false ⟨fun e => (by cases e), fun e => absurd e hc⟩)
  clear h hs hn0 hn hB ha hf hc
  go_enter Try.func39, Try.ntmps39
  go_wp2_with fail
  refine HC.out.mono ?_
  rintro e w1 ⟨rfl, hb⟩
  have HB := Lib.hid hb
  clear hb HC
  go_wp2
  go_ret
  exact ⟨rfl, HB.out⟩
set_option maxRecDepth 100000 in
set_option maxHeartbeats 1000000 in
theorem rcrash_ok (Z : Nat → Prop) (r n : Nat) (s : Rf) (aa : Option Addr) (nA ca : Nat) (fa : Nat → Nat) (w : World) (h : RMdAt Z w r n s) (hs : s.ok n) (hn0 : 0 < n) (hn : n ≤ 61440) (hB : s.NB ≤ 1000000000)
    (ha : Bts w (.slice aa nA ca) nA fa) (hf : Lt nA fa) (hc : s.could n nA fa) :
    Calls Try.prog 39 #[.pointer (some ⟨r, 0, none⟩), .slice aa nA ca] w (RMutP r n 0 Z (Rf.crash fa) w) := by
  have HC := Lib.hid (rcould_any Z r n s aa nA ca fa w h hs hn0 hn hB ha hf true ⟨fun _ => hc, fun _ => rfl⟩)
  have hnA : 128 * n = nA := by
    rcases hc with ⟨i, _, _, he⟩ | ⟨_, he⟩
    · simp only [eqB, decide_eq_true_eq] at he; exact he.1
    · simp only [eqB, decide_eq_true_eq] at he; exact he.1
  obtain ⟨_, _, e0, h0⟩ := ha
  cases e0
  rcases h0 with h0 | ⟨xb, xo, rfl, hcell⟩
  · omega
  have HX := Lib.hid hcell
  have HM := Lib.hid h
  have HN := Lib.hid hnA
  have hA7 : nA ≤ 7864320 := by omega
  have hA0 : 0 < nA := by omega
  obtain ⟨i2, hi2, hz0, hz1, hz2⟩ := info_parts Try.info5
  clear h hs hn0 hn hB hf hc hcell hnA
  go_enter Try.func39, Try.ntmps39
  go_wp2_with fail
  refine HC.out.mono ?_
  rintro e w1 ⟨rfl, hb⟩
  have HB := Lib.hid hb
  clear HC
  have HSrc : Hid (∀ q u, (bytesL nA fa)[q]? = some u → w1.cell? ((⟨xb, xo, none⟩ : Addr).add q) = some u) := fun q u hq => by
    by_cases hlt : q < nA
    · rw [bytesL_get _ _ _ hlt] at hq
      rw [addk, hb.cell (p := ⟨xb, xo + q, none⟩) (World.block_lt_of_cell? w _ (HX.out q hlt)), HX.out q hlt]
      exact hq
    · rw [List.getElem?_eq_none (by rw [bytesL_len]; omega)] at hq
      cases hq
  clear hb
  go_wp2_with (first | (at_builtin; refine wpList_append_two _ rfl _ _ 25 rfl w1.heap.size 5 i2 (.int .u8 0) 1 1 Try.underlying25 hi2 hz0 hz1 hz2 rfl (by decide) (.slice none 0 0) 0 [] rfl (World.ownsRow_nil _ _ _ _) ⟨xb, xo, none⟩ nA ca (bytesL nA fa) rfl (by rw [bytesL_len, Nat.mul_one]) HSrc.out (bytesL_one _ _) (by omega) (by unfold maxLen; omega) (by omega) (Nat.le_refl _) ?_))
  intro v' w2 hown0 htwo
  have hown : w2.ownsRow w1.heap.size 5 1 v' nA (bytesL nA fa) := by simpa using hown0
  have HBel : Hid (Below w1.heap.size w1 w2) := htwo.below (B := w1.heap.size) (Below.refl _ _) (Nat.le_refl _) fun k hk => (by cases hk)
  obtain ⟨ga, gc, rfl, hgl, hgf⟩ := own_form hown
  obtain ⟨g, rfl⟩ := hgf.resolve_left (by omega)
  have HOwn := Lib.hid hown
  obtain ⟨gF, cF, lv, wv, bv, h2⟩ := HM.out.keep (HB.out.trans (HBel.out.mono HB.out.size))
  have HK2 := Lib.hid h2.blk
  obtain ⟨k1, f1, z1⟩ := cr h2.blk
  clear h2 hown0 hown htwo
  go_wp2_with fail
  go_ret
  have hn' := HN.out
  subst hn'
  exact ⟨rfl, by
    have h9 := rmd_crash HM.out HB.out HBel.out HK2.out HOwn.out rfl
    simpa using h9⟩
end Go.Proofs.Ytgkkmdebpekckaa
