/- The reference's Sure. Conditions: as stated at each. -/
import Derived.Test.YtgkkmdebpekckaaNi
namespace Go.Proofs.Ytgkkmdebpekckaa
open Go.RowKit Go.Shelf
def Rf.mkSure (s : Rf) : Rf := { s with many := s.NB }
theorem Rf.ok.mkSure {n : Nat} {s : Rf} (h : s.ok n) : s.mkSure.ok n := ⟨h.x0, h.bat, h.way, Nat.le_refl _⟩
theorem RMd.sured {Z : Nat → Prop} {w : World} {r n : Nat} {s : Rf} {gF cF : Nat} {lv wv : Value} {bv : Nat → Value} (h : RMd Z w r n s gF cF lv wv bv) :
    RMd Z (w.setCell ⟨r, 2, none⟩ (.int .i64 s.NB)) r n s.mkSure gF cF lv wv bv ∧ Out Z w (w.setCell ⟨r, 2, none⟩ (.int .i64 s.NB)) := by
  have ho : Out (fun k => k = r) w (w.setCell ⟨r, 2, none⟩ (.int .i64 s.NB)) := Out.setCell (S := fun k => k = r) (Out.refl _ _) (p := ⟨r, 2, none⟩) (fun _ => rfl) _
  have hx : ∀ k, k < w.heap.size → k = r → ¬ Z k ∨ Rx r gF lv k := fun k _ e => .inr (.inl e)
  refine ⟨⟨heap_setCell_same w r 2 _ 76 (.int .i64 s.NB) h.blk, ?_, ?_, fun k hk => (h.bat k hk).out ho hx, h.way.out ho hx, h.zx, fun k hk => Nat.lt_of_lt_of_le (h.zlt k hk) ho.size, h.d1, h.d2⟩, ho.mono fun k _ e => h.zx k (.inl e)⟩
  · exact ho.own h.first fun k hk e => by cases hk; exact h.d1 e.symm
  · exact ho.own h.list fun k hk e => (h.d2 k hk).1 e
def RSureP (r n : Nat) (Z : Nat → Prop) (s' : Rf) (w : World) (e : Ending) (w' : World) : Prop :=
  e = .returned (.tuple #[]) ∧ RMdAt Z w' r n s' ∧ Out Z w w'
set_option maxRecDepth 100000 in
set_option maxHeartbeats 800000 in
theorem rsure_any (Z : Nat → Prop) (r n : Nat) (s : Rf) (w : World) (h : RMdAt Z w r n s) : Calls Try.prog 34 #[.pointer (some ⟨r, 0, none⟩)] w (RSureP r n Z s.mkSure w) := by
  obtain ⟨gF, cF, lv, wv, bv, h⟩ := h
  have HS := Lib.hid h.sured
  obtain ⟨la, lc, rfl, -⟩ := own_form h.list
  obtain ⟨k1, f1, z1⟩ := cr h.blk
  clear h
  obtain ⟨N, hN⟩ : ∃ N, s.NB = N := ⟨_, rfl⟩
  rw [hN] at k1
  have HNB := Lib.hid hN
  clear hN
  go_enter Try.func34, Try.ntmps34
  go_wp2
  go_end0
  have hS := HS.out
  rw [HNB.out] at hS
  exact ⟨rfl, ⟨_, _, _, _, _, hS.1⟩, hS.2⟩
end Go.Proofs.Ytgkkmdebpekckaa
