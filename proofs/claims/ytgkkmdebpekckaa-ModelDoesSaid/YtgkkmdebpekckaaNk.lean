/- The reference's Under. Conditions: as stated at each. -/
import Derived.Test.YtgkkmdebpekckaaNj
namespace Go.Proofs.Ytgkkmdebpekckaa
open Go.RowKit Go.Shelf
def Rf.under (s : Rf) (b : Bt) : Rf := { s with way := b }
theorem RMd.undered {Z : Nat → Prop} {w w1 : World} {r n : Nat} {s : Rf} {gF cF : Nat} {lv wv v : Value} {bv : Nat → Value} {b : Bt} (h : RMd Z w r n s gF cF lv wv bv) (hb : Below w.heap.size w w1) (hv : BatX (fun k => k < w.heap.size) w1 v b) :
    RMd (fun k => Z k ∨ (w.heap.size ≤ k ∧ k < w1.heap.size)) (w1.setCell ⟨r, 3, none⟩ v) r n (s.under b) gF cF lv v bv ∧ Out Z w (w1.setCell ⟨r, 3, none⟩ v) := by
  have h1 := h.keep hb
  have ho : Out (fun k => k = r) w1 (w1.setCell ⟨r, 3, none⟩ v) := Out.setCell (S := fun k => k = r) (Out.refl _ _) (p := ⟨r, 3, none⟩) (fun _ => rfl) _
  have hsz : (w1.setCell ⟨r, 3, none⟩ v).heap.size = w1.heap.size := by simp [World.setCell]
  have hsz1 := hb.size
  have hr : Z r := h.zx r (.inl rfl)
  refine ⟨⟨heap_setCell_same w1 r 3 _ 76 v h1.blk, ?_, ?_, fun k hk => ?_, ?_, fun k hk => .inl (h.zx k hk), fun k hk => ?_, h.d1, h.d2⟩, (Out.of_below hb).tr (ho.mono fun k _ e => by rw [e]; exact hr)⟩
  · exact ho.own h1.first fun k hk e => by cases hk; exact h.d1 e.symm
  · exact ho.own h1.list fun k hk e => (h.d2 k hk).1 e
  · refine ((h1.bat k hk).out ho fun k _ e => .inr (.inl e)).mono fun k _ hx => ?_
    exact hx.imp (fun e e2 => e (.inl e2)) id
  · refine (hv.out ho fun k _ e => (by rw [e]; exact h.zlt r hr)).mono fun k hk hx => ?_
    rw [hsz] at hk
    rcases hx with hx | hx
    · exact Nat.lt_of_not_le fun e => hx (.inr ⟨e, hk⟩)
    · exact h.zlt k (h.zx k hx)
  · rw [hsz]
    rcases hk with hk | hk
    · exact Nat.lt_of_lt_of_le (h.zlt k hk) hsz1
    · exact hk.2
def RMutP (r n : Nat) (c : Int) (Z : Nat → Prop) (s' : Rf) (w : World) (e : Ending) (w' : World) : Prop :=
  e = .returned (.int .i64 c) ∧ ∃ Z', RMdAt Z' w' r n s' ∧ Out Z w w' ∧ ∀ k, Z' k → Z k ∨ w.heap.size ≤ k
set_option maxRecDepth 100000 in
set_option maxHeartbeats 800000 in
theorem runder_ok (Z : Nat → Prop) (r n : Nat) (s : Rf) (v : Value) (a : Ar) (w : World) (h : RMdAt Z w r n s) (hn : n ≤ 61440) (hv : ArX (fun _ => False) w v a) (hc : a.chk n = 0) :
    Calls Try.prog 31 #[.pointer (some ⟨r, 0, none⟩), v] w (RMutP r n 0 Z (s.under a.bt) w) := by
  obtain ⟨gF, cF, lv, wv, bv, h⟩ := h
  have HT := Lib.hid (taken_any r n cF _ _ _ _ a v w h.blk hn hv)
  have HC := Lib.hid (fun (w1 : World) (hb : Below w.heap.size w w1) => copied_any (fun _ => False) v a n w1 (hv.out (Out.of_below (S := fun _ => False) hb) (fun _ _ h => h)) (Ar.taken_of hc))
  have HM := Lib.hid h
  obtain ⟨k1, f1, z1⟩ := cr h.blk
  rw [hc] at HT
  clear h hv hc
  go_enter Try.func31, Try.ntmps31
  go_wp2_with fail
  refine HT.out.mono ?_
  rintro e w1 ⟨rfl, hb⟩
  have HB := Lib.hid hb
  have HCl := Lib.hid (HC.out w1 hb)
  clear hb HT HC
  go_wp2_with fail
  refine HCl.out.mono ?_
  rintro e w2 ⟨va, vc, rfl, hbat, hb⟩
  have HB2 : Hid (Below w.heap.size w w2) := HB.out.trans (hb.mono HB.out.size)
  have HBat : Hid (BatX (fun k => k < w.heap.size) w2 (.slice va a.N vc) a.bt) := hbat.mono fun k _ hk => Nat.lt_of_lt_of_le hk HB.out.size
  clear hbat hb HCl k1 f1 z1
  obtain ⟨k1, f1, z1⟩ := cr (HM.out.keep HB2.out).blk
  have HU := Lib.hid (HM.out.undered HB2.out HBat.out)
  go_wp2_with fail
  go_ret
  exact ⟨rfl, _, ⟨_, _, _, _, _, HU.out.1⟩, HU.out.2, fun k hk => hk.imp id And.left⟩
end Go.Proofs.Ytgkkmdebpekckaa
