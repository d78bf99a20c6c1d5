/- The reference's Write. Conditions: as stated at each. -/
import Derived.Test.YtgkkmdebpekckaaNm
namespace Go.Proofs.Ytgkkmdebpekckaa
open Go.RowKit Go.Shelf
def Rf.write (s : Rf) (b : Bt) : Rf := { s with NB := s.NB + 1, rb := fun k => if k = s.NB then b else s.rb k, way := noBt }
theorem RMd.wrote {Z : Nat → Prop} {w w1 wa w2 : World} {r n : Nat} {s : Rf} {gF cF : Nat} {lv wv lv' v : Value} {bv : Nat → Value} {b : Bt} (h : RMd Z w r n s gF cF lv wv bv) (hb : Below w.heap.size w w1)
    (hv : BatX (fun k => k < w.heap.size) w1 v b) (hwa : Below w1.heap.size w1 wa) (hl : w2.ownsRow 0 24 1 lv' (s.NB + 1) ((List.range s.NB).map bv ++ [v])) (ht : Two wa.heap.size wa lv s.NB 1 lv' w2) :
    ∃ Z', RMdAt Z' ((w2.setCell ⟨r, 1, none⟩ lv').setCell ⟨r, 3, none⟩ (.slice none 0 0)) r n (s.write b) ∧ Out Z w ((w2.setCell ⟨r, 1, none⟩ lv').setCell ⟨r, 3, none⟩ (.slice none 0 0)) ∧ ∀ k, Z' k → Z k ∨ w.heap.size ≤ k := by
  have hrz : r < w.heap.size := h.zlt r (h.zx r (.inl rfl))
  have hFz : gF < w.heap.size := h.zlt gF (h.zx gF (.inr (.inl rfl)))
  have hlz : ∀ k, lv.ownBlock = some k → k < w.heap.size := fun k hk => h.zlt k (h.zx k (.inr (.inr hk)))
  have hsz1 := hb.size
  have hsza := hwa.size
  have hbl : ∀ k, lv'.ownBlock = some k → lv.ownBlock = some k ∨ k = wa.heap.size := fun k hk => ht.block hk
  let S : Nat → Prop := fun k => k = r ∨ lv.ownBlock = some k
  have hO : ∀ a, Out S a wa → Out S a ((w2.setCell ⟨r, 1, none⟩ lv').setCell ⟨r, 3, none⟩ (.slice none 0 0)) := fun a ha =>
    ((ht.out ha (fun k hk _ => .inr hk)).setCell (p := ⟨r, 1, none⟩) (fun _ => .inl rfl) lv').setCell (p := ⟨r, 3, none⟩) (fun _ => .inl rfl) _
  have hoW : Out S w ((w2.setCell ⟨r, 1, none⟩ lv').setCell ⟨r, 3, none⟩ (.slice none 0 0)) := hO w (Out.of_below (hb.trans (hwa.mono hsz1)))
  have hoW1 : Out S w1 ((w2.setCell ⟨r, 1, none⟩ lv').setCell ⟨r, 3, none⟩ (.slice none 0 0)) := hO w1 (Out.of_below hwa)
  have hSM : ∀ k, S k → Rx r gF lv k := fun k hk => by
    rcases hk with hk | hk
    · exact .inl hk
    · exact .inr (.inr hk)
  have h2 : w2.heap[r]? = w.heap[r]? := by
    have h0 : Out (fun k => lv.ownBlock = some k) w w2 := ht.out (Out.of_below (hb.trans (hwa.mono hsz1))) (fun k hk _ => hk)
    exact h0.block r hrz (fun e => (h.d2 r e).1 rfl)
  have hb2 := h2.trans h.blk
  have hb3 := heap_setCell_same w2 r 1 _ 76 lv' hb2
  have hb5 := heap_setCell_same _ r 3 _ 76 (.slice none 0 0) hb3
  have d2' : ∀ k, lv'.ownBlock = some k → k ≠ r ∧ k ≠ gF := fun k hk => by
    rcases hbl k hk with h1 | h1
    · exact h.d2 k h1
    · subst h1; refine ⟨?_, ?_⟩ <;> omega
  have hsz : ((w2.setCell ⟨r, 1, none⟩ lv').setCell ⟨r, 3, none⟩ (.slice none 0 0)).heap.size = w2.heap.size := by simp [World.setCell]
  refine ⟨fun k => Z k ∨ (w.heap.size ≤ k ∧ k < w2.heap.size), ⟨gF, cF, lv', .slice none 0 0, fun k => if k = s.NB then v else bv k, hb5, ?_, ?_, fun k hk => ?_, noBt_at _ _, fun k hk => ?_, fun k hk => ?_, h.d1, d2'⟩, hoW.mono fun k _ hk => h.zx k (hSM k hk), fun k hk => hk.imp id And.left⟩
  · refine hoW.own h.first (fun k hk e => ?_)
    cases hk
    rcases e with e | e
    · exact h.d1 e.symm
    · exact (h.d2 _ e).2 rfl
  · show World.ownsRow _ 0 24 1 lv' (s.NB + 1) ((List.range (s.NB + 1)).map fun k => if k = s.NB then v else bv k)
    rw [map_snoc]
    exact ownsRow_setCell_other (ownsRow_setCell_other hl (fun e => (d2' _ e).1 rfl) _) (fun e => (d2' _ e).1 rfl) _
  · by_cases e : k = s.NB
    · subst e
      simp only [if_true, Rf.write]
      have hv1 : BatX (fun k => k < w.heap.size ∨ w1.heap.size ≤ k) w1 v b := hv.mono fun k hk h => h.elim id fun e => absurd e (by omega)
      refine (hv1.out hoW1 fun k _ hk => .inl (h.zlt k (h.zx k (hSM k hk)))).mono fun k hk hx => ?_
      rw [hsz] at hk
      rcases hx with hx | hx | hx | hx
      · refine .inl ?_
        have : ¬ (w.heap.size ≤ k ∧ k < w2.heap.size) := fun e => hx (.inr e)
        omega
      · exact .inl (by omega)
      · exact .inl (by omega)
      · rcases hbl k hx with h1 | h1
        · exact .inl (hlz k h1)
        · exact .inr (by omega)
    · have hk' : k < s.NB := by have : k < s.NB + 1 := hk; omega
      simp only [if_neg e, Rf.write]
      refine ((h.bat k hk').out hoW fun k _ hk => .inr (hSM k hk)).mono fun k hk hx => ?_
      rcases hx with hx | hx | hx | hx
      · exact .inl fun hz => hx (.inl hz)
      · exact .inr (.inl hx)
      · exact .inr (.inr (.inl hx))
      · rcases hbl k hx with h1 | h1
        · exact .inr (.inr (.inr h1))
        · exact .inl fun hz => by have := h.zlt k hz; omega
  · rcases hk with hk | hk | hk
    · exact .inl (h.zx k (.inl hk))
    · exact .inl (h.zx k (.inr (.inl hk)))
    · rcases hbl k hk with h1 | h1
      · exact .inl (h.zx k (.inr (.inr h1)))
      · exact .inr ⟨by omega, (hl.lt k hk).2⟩
  · rw [hsz]
    rcases hk with hk | hk
    · have := hoW.size
      rw [hsz] at this
      exact Nat.lt_of_lt_of_le (h.zlt k hk) this
    · exact hk.2
set_option maxRecDepth 100000 in
set_option maxHeartbeats 800000 in
theorem rwrite_ok (Z : Nat → Prop) (r n : Nat) (s : Rf) (v : Value) (a : Ar) (w : World) (h : RMdAt Z w r n s) (hn : n ≤ 61440) (hNB : s.NB ≤ 1000000) (hv : ArX (fun _ => False) w v a) (hc : a.chk n = 0) (h0 : 0 < a.N) :
    Calls Try.prog 30 #[.pointer (some ⟨r, 0, none⟩), v] w (RMutP r n 0 Z (s.write a.bt) w) := by
  obtain ⟨gF, cF, lv, wv, bv, h⟩ := h
  have HT := Lib.hid (taken_any r n cF _ _ _ _ a v w h.blk hn hv)
  have HC := Lib.hid (fun (w1 : World) (hb : Below w.heap.size w w1) => copied_any (fun _ => False) v a n w1 (hv.out (Out.of_below (S := fun _ => False) hb) (fun _ _ h => h)) (Ar.taken_of hc))
  have HM := Lib.hid h
  obtain ⟨va, vc, rfl⟩ := hv.form
  obtain ⟨la, lc, rfl, -⟩ := own_formN h.list
  rw [hc] at HT
  have HBt : Hid (∀ e w', CopP a w e w' → True) := fun _ _ _ => trivial
  obtain ⟨i1, hi1, hy0, hy1, hy2⟩ := info_parts Try.info24
  have hrz : r < w.heap.size := h.zlt r (h.zx r (.inl rfl))
  clear h hv hc HBt
  go_enter Try.func30, Try.ntmps30
  go_wp2_with fail
  refine HT.out.mono ?_
  rintro e w1 ⟨rfl, hb⟩
  have HB := Lib.hid hb
  have HCl := Lib.hid (HC.out w1 hb)
  clear hb HT HC
  go_wp2_with fail
  refine HCl.out.mono ?_
  rintro e w2 ⟨xa, xc, rfl, hbat, hb⟩
  have HB2 : Hid (Below w.heap.size w w2) := HB.out.trans (hb.mono HB.out.size)
  have HBat : Hid (BatX (fun k => k < w.heap.size) w2 (.slice xa a.N xc) a.bt) := hbat.mono fun k _ hk => Nat.lt_of_lt_of_le hk HB.out.size
  clear hbat hb HCl
  obtain ⟨k1, f1, z1⟩ := cr (HM.out.keep HB2.out).blk
  have HLi : Hid (w2.ownsRow 0 24 1 (.slice la s.NB lc) s.NB ((List.range s.NB).map bv)) := own_keep HB2.out HM.out.list
  have HW2 := Lib.hid (HM.out.keep HB2.out).blk
  go_wp2_with (first | (at_builtin; refine wpList_append_two _ rfl _ _ 22 rfl 0 24 i1 (.slice none 0 0) 1 24 Try.underlying22 hi1 hy0 hy1 hy2 rfl (by decide) (.slice la s.NB lc) s.NB ((List.range s.NB).map bv) rfl (HLi.out.alloc _) ⟨w2.heap.size, 0, none⟩ 1 1 [.slice xa a.N xc] rfl rfl (World.news_of_block (cs := #[.slice xa a.N xc]) (t := 24) (fr := (0, 0)) (heap_alloc_new w2 _)) (by intro u hu; rw [List.mem_singleton.1 hu]; rfl) (by omega) (by unfold maxLen; omega) (by omega) (Nat.zero_le _) ?_))
  intro v' w' hown htwo
  obtain ⟨lva, lvc, rfl, -, -⟩ := own_form hown
  have hblk := htwo.heap ((Below.heap_alloc _ _ _ z1).trans HW2.out) (fun e => (HM.out.d2 r e).1 rfl)
  have HOwn := Lib.hid hown
  have HTwo := Lib.hid htwo
  have HFin := Lib.hid (HM.out.wrote (wa := w2.alloc (.cells #[.slice xa a.N xc] 24)) HB2.out HBat.out (bal (Below.refl _ _) _) hown (by rw [World.size_alloc]; exact htwo))
  clear k1 f1 z1 hown htwo
  obtain ⟨k1, f1, z1⟩ := cr hblk
  clear hblk
  go_wp2_with fail
  go_ret
  obtain ⟨Z', h1, h2, h3⟩ := HFin.out
  exact ⟨rfl, Z', h1, h2, h3⟩
end Go.Proofs.Ytgkkmdebpekckaa
