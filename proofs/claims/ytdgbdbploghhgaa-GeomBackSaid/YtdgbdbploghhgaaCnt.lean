/- Counting: over as many stripes as members each member has the parity once; a stripe's members and its parity are all members, each once. Plain law, no program. Conditions: as stated. -/
import Derived.Test.YtdgbdbploghhgaaKn
namespace Go.Proofs.Ytdgbdbploghhgaa
open Go.RowKit
/-- How many of f 0 .. f (k - 1) are x. -/
def cnt (f : Nat → Int) : Nat → Int → Int
  | 0, _ => 0
  | k + 1, x => cnt f k x + if f k = x then 1 else 0
theorem cnt_bd (f : Nat → Int) (k : Nat) (x : Int) : 0 ≤ cnt f k x ∧ cnt f k x ≤ k := by
  induction k with
  | zero => simp [cnt]
  | succ k ih => simp only [cnt]; split <;> omega
theorem cnt_none (f : Nat → Int) (k : Nat) (x : Int) (h : ∀ i, i < k → f i ≠ x) : cnt f k x = 0 := by
  induction k with
  | zero => rfl
  | succ k ih => simp only [cnt]; rw [ih (fun i hi => h i (by omega)), if_neg (h k (by omega))]; rfl
theorem cnt_one (f : Nat → Int) (k : Nat) (x : Int) (i0 : Nat) (h0 : i0 < k) (h1 : f i0 = x) (h : ∀ i, i < k → f i = x → i = i0) : cnt f k x = 1 := by
  induction k with
  | zero => omega
  | succ k ih =>
    simp only [cnt]
    by_cases hk : i0 = k
    · subst hk
      rw [if_pos h1, cnt_none f i0 x (fun i hi e => by have := h i (by omega) e; omega)]; rfl
    · rw [ih (by omega) (fun i hi e => h i (by omega) e), if_neg (fun e => hk (h k (by omega) e).symm)]; rfl
theorem rot_iff {m : Int} (a i y : Int) (hi0 : 0 ≤ i) (hi1 : i < m) (hy0 : 0 ≤ y) (hy1 : y < m) : (a + i) % m = y ↔ i = (y - a) % m := by
  constructor
  · intro h
    rw [← h, Int.emod_sub_emod, show a + i - a = i by omega]
    exact (Int.emod_eq_of_lt hi0 hi1).symm
  · intro h
    rw [h, Int.add_emod_emod, show a + (y - a) = y by omega]
    exact Int.emod_eq_of_lt hy0 hy1
/-- Over as many stripes as members each has the parity once. -/
theorem cnt_par (M : Nat) (first x : Int) (h : 3 ≤ (M : Int)) (hx0 : 0 ≤ x) (hx1 : x < M) : cnt (fun j => par M (first + j)) M x = 1 := by
  have key : ∀ i : Nat, i < M → (par M (first + i) = x ↔ (i : Int) = ((M - 1 - x) - first) % M) := fun i hi => by
    rw [← rot_iff first i (M - 1 - x) (by omega) (by omega) (by omega) (by omega)]
    unfold par; omega
  have h0 := Int.emod_nonneg ((M - 1 - x) - first) (show (M : Int) ≠ 0 by omega)
  have h1 := Int.emod_lt_of_pos ((M - 1 - x) - first) (show (0 : Int) < M by omega)
  obtain ⟨i0, hi⟩ := Int.eq_ofNat_of_zero_le h0
  refine cnt_one _ _ _ i0 (by omega) ((key i0 (by omega)).2 (by omega)) (fun i hi2 e => ?_)
  have := (key i hi2).1 e
  omega
/-- A stripe's members are all but its parity, each once. -/
theorem cnt_mem (N : Nat) (st x : Int) (h : 2 ≤ (N : Int)) (hx0 : 0 ≤ x) (hx1 : x < N + 1) : cnt (fun i => mem (N + 1) st i) N x = 1 - if par (N + 1) st = x then 1 else 0 := by
  obtain ⟨p0, p1⟩ := par_bd st (show (3 : Int) ≤ N + 1 by omega)
  have key : ∀ i : Nat, i < N + 1 → (mem (N + 1) st i = x ↔ (i : Int) = (x - (par (N + 1) st + 1)) % (N + 1)) := fun i hi => by
    unfold mem
    exact rot_iff _ i x (by omega) (by omega) (by omega) (by omega)
  have h0 := Int.emod_nonneg (x - (par (N + 1) st + 1)) (show (N + 1 : Int) ≠ 0 by omega)
  have h1 := Int.emod_lt_of_pos (x - (par (N + 1) st + 1)) (show (0 : Int) < N + 1 by omega)
  by_cases hp : par (N + 1) st = x
  · rw [if_pos hp]
    refine cnt_none _ _ _ (fun i hi e => ?_)
    have := (key i (by omega)).1 e
    rw [hp, show x - (x + 1) = -1 by omega, ← Int.add_emod_right, Int.emod_eq_of_lt (by omega) (by omega)] at this
    omega
  · rw [if_neg hp]
    obtain ⟨i0, hi⟩ := Int.eq_ofNat_of_zero_le h0
    have hne : i0 ≠ N := fun e => by
      have := (key N (by omega)).2 (by omega)
      unfold mem at this
      rw [show par (↑N + 1) st + 1 + (N : Int) = par (↑N + 1) st + (N + 1) by omega, Int.add_emod_right, Int.emod_eq_of_lt p0 p1] at this
      exact hp this
    refine cnt_one _ _ _ i0 (by omega) ((key i0 (by omega)).2 (by omega)) (fun i hi2 e => ?_)
    have := (key i (by omega)).1 e
    omega
/-- M places that hold g's numbers. -/
def arrA (M : Nat) (g : Nat → Int) : Array Value := ((List.range M).map fun x => Value.int .i64 (g x)).toArray
theorem arrA_get (M : Nat) (g : Nat → Int) (j : Nat) (h : j < M) : (arrA M g)[j]? = some (.int .i64 (g j)) := by simp [arrA, h]
theorem arrA_zero (M : Nat) (f : Nat → Int) : fillA M f 0 = arrA M (fun _ => 0) := by simp [fillA, arrA]
theorem arrA_inc (M : Nat) (g : Nat → Int) (x : Nat) : (arrA M g).setIfInBounds x (.int .i64 (g x + 1)) = arrA M (fun y => g y + if x = y then 1 else 0) := by
  apply Array.ext
  · simp [arrA]
  · intro i h1 h2
    by_cases h : x = i
    · subst h; simp [arrA]
    · simp [arrA, h]
theorem arrA_congr (M : Nat) (g g' : Nat → Int) (h : ∀ x, x < M → g x = g' x) : arrA M g = arrA M g' := by
  unfold arrA
  congr 1
  apply List.map_congr_left
  intro x hx
  rw [h x (by simpa using hx)]
end Go.Proofs.Ytdgbdbploghhgaa
