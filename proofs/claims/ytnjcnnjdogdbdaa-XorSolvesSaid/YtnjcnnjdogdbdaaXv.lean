/- What Of and Even answer, told by a number, a length and bytes. Conditions: as stated at each. -/
import Derived.Test.YtnjcnnjdogdbdaaXu
namespace Go.Proofs.Ytnjcnnjdogdbdaa
open Go.RowKit
/-- Of's error: 1 of no rows, 4 of rows of several lengths. -/
def er (N : Nat) (n : Nat → Nat) : Int := if N = 0 then 1 else if ∀ i, i < N → n i = n 0 then 0 else 4
/-- How long what comes out is. -/
def ln (N : Nat) (n : Nat → Nat) : Nat := if er N n = 0 then n 0 else 0
theorem er_zero (n : Nat → Nat) : er 0 n = 1 := if_pos rfl
theorem er_ok {N : Nat} {n : Nat → Nat} (h0 : 0 < N) (h : ∀ i, i < N → n i = n 0) : er N n = 0 := by
  unfold er
  rw [if_neg (by omega), if_pos h]
theorem er_bad {N : Nat} {n : Nat → Nat} {j : Nat} (hj : j < N) (h : n j ≠ n 0) : er N n = 4 := by
  unfold er
  rw [if_neg (by omega), if_neg (fun hh => h (hh j hj))]
theorem ln_le {N : Nat} {n : Nat → Nat} {B : Nat} (h : ∀ i, i < N → n i ≤ B) : ln N n ≤ B := by
  unfold ln er
  by_cases h0 : N = 0
  · simp [h0]
  · rw [if_neg h0]
    split
    · exact h 0 (by omega)
    · exact Nat.zero_le _
theorem er_cases (N : Nat) (n : Nat → Nat) : (N = 0 ∧ er N n = 1) ∨ (0 < N ∧ (∀ i, i < N → n i = n 0) ∧ er N n = 0) ∨ (0 < N ∧ (∃ j, j < N ∧ n j ≠ n 0) ∧ er N n = 4) := by
  by_cases h0 : N = 0
  · subst h0; exact .inl ⟨rfl, er_zero n⟩
  · by_cases h : ∀ i, i < N → n i = n 0
    · exact .inr (.inl ⟨by omega, h, er_ok (by omega) h⟩)
    · obtain ⟨j, hj⟩ : ∃ j, j < N ∧ n j ≠ n 0 := Classical.byContradiction fun hh => h fun i hi => Classical.byContradiction fun e => hh ⟨i, hi, e⟩
      exact .inr (.inr ⟨by omega, ⟨j, hj⟩, er_bad hj.1 hj.2⟩)
/-- A list of bytes of its owner's, and an error. -/
def OfQ (x : Int) (L : Nat) (F : Nat → Nat) (w : World) (e : Ending) (w' : World) : Prop :=
  ∃ v, e = .returned (.tuple #[v, .int .u16 x]) ∧ w'.ownsRow w.heap.size 5 1 v L (bytesL L F) ∧ Below w.heap.size w w'
theorem OfP.q {N : Nat} {n : Nat → Nat} {h : Nat → Nat → Nat} {w : World} {e : Ending} {w' : World} (H : OfP N n h w e w') : OfQ (er N n) (ln N n) (acc (fun _ => 0) h N) w e w' := by
  unfold ln
  rcases H with ⟨rfl, rfl, hb⟩ | ⟨h0, ha, v, rfl, ho, hb⟩ | ⟨h0, ⟨j, hj, hne⟩, rfl, hb⟩
  · rw [er_zero]
    exact ⟨_, rfl, World.ownsRow_nil _ _ _ _, hb⟩
  · rw [er_ok h0 ha]
    exact ⟨v, rfl, ho, hb⟩
  · rw [er_bad hj hne]
    exact ⟨_, rfl, World.ownsRow_nil _ _ _ _, hb⟩
/-- Even's answer. -/
def ev (N : Nat) (n : Nat → Nat) (h : Nat → Nat → Nat) : Bool := er N n == 0 && allZ (n 0) (acc (fun _ => 0) h N)
theorem EvenP.q {N : Nat} {n : Nat → Nat} {h : Nat → Nat → Nat} {w : World} {e : Ending} {w' : World} (H : EvenP N n h w e w') : EvP w (ev N n h) (er N n) e w' := by
  unfold ev
  rcases H with ⟨rfl, H⟩ | ⟨h0, ha, H⟩ | ⟨h0, ⟨j, hj, hne⟩, H⟩
  · rw [er_zero]; exact H
  · rw [er_ok h0 ha]; exact H
  · rw [er_bad hj hne]; exact H
theorem er_congr {N M : Nat} {n m : Nat → Nat} (h0 : N = 0 ↔ M = 0) (h : 0 < N → 0 < M → ((∀ i, i < N → n i = n 0) ↔ ∀ i, i < M → m i = m 0)) : er N n = er M m := by
  unfold er
  by_cases e : N = 0
  · rw [if_pos e, if_pos (h0.1 e)]
  · have e2 : ¬ M = 0 := fun e2 => e (h0.2 e2)
    rw [if_neg e, if_neg e2]
    by_cases e3 : ∀ i, i < N → n i = n 0
    · rw [if_pos e3, if_pos ((h (by omega) (by omega)).1 e3)]
    · rw [if_neg e3, if_neg fun e4 => e3 ((h (by omega) (by omega)).2 e4)]
theorem ln_congr {N M : Nat} {n m : Nat → Nat} (h : er N n = er M m) (h0 : er N n = 0 → n 0 = m 0) : ln N n = ln M m := by
  unfold ln
  rw [← h]
  split
  · exact h0 ‹_›
  · rfl
end Go.Proofs.Ytnjcnnjdogdbdaa
