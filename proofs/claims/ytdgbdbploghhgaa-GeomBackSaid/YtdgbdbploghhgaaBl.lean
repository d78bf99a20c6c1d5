/- Blocks and places are one to one; what the calls of GeomBack answer. Conditions: as stated. -/
import Derived.Test.YtdgbdbploghhgaaCnt
import Derived.Test.YtdgbdbploghhgaaBo
namespace Go.Proofs.Ytdgbdbploghhgaa
open Go.RowKit
def OfP (m c s b x1 x2 x3 x4 : Int) : Prop := ∀ w, Calls Try.prog 12 #[G m c s, .int .i64 b] w fun x w' => x = .returned (.tuple #[.agg #[.int .i64 x1, .int .i64 x2, .int .i64 x3, .int .i64 x4], .int .u16 0]) ∧ Below w.heap.size w w'
def AtP (m c s a r q : Int) (is : Bool) : Prop := ∀ w, Calls Try.prog 15 #[G m c s, .int .i64 a, .int .i64 r] w fun x w' => x = .returned (.tuple #[.int .i64 q, .bool is, .int .u16 0]) ∧ Below w.heap.size w w'
def ParP (m c s r q : Int) : Prop := ∀ w, Calls Try.prog 13 #[G m c s, .int .i64 r] w fun x w' => x = .returned (.tuple #[.int .i64 q, .int .u16 0]) ∧ Below w.heap.size w w'
theorem place_row {S c x : Int} (hc : 1 ≤ c) (h0 : 0 ≤ x) (h1 : x < c) : (S * c + x) / c = S ∧ (S * c + x) % c = x := by
  constructor
  · rw [Int.add_comm, Int.add_mul_ediv_right _ _ (by omega), Int.ediv_eq_zero_of_lt h0 h1]; omega
  · rw [Int.add_comm, Int.add_mul_emod_self_right]; exact Int.emod_eq_of_lt h0 h1
/-- The place of a member among its stripe's blocks. -/
theorem atI_mem {m : Int} (c st r i : Int) (hr : r / c = st) (h0 : 0 ≤ i) (h1 : i < m) : atI m c (mem m st i) r = i := by
  unfold atI
  rw [hr, emod_shift1]
  unfold mem
  rw [Int.emod_sub_emod, Int.sub_emod_emod, show par m st + 1 + i - (par m st + 1 + 0) = i by omega]
  exact Int.emod_eq_of_lt h0 h1
theorem mem_atI {m : Int} (c st r a : Int) (hr : r / c = st) (h0 : 0 ≤ a) (h1 : a < m) : mem m st (atI m c a r) = a := by
  unfold atI
  rw [hr, emod_shift1]
  unfold mem
  rw [Int.add_emod_emod, show par m st + 1 + (a - (par m st + 1 + 0) % m) = par m st + 1 + a - (par m st + 1 + 0) % m by omega, Int.sub_emod_emod, show par m st + 1 + a - (par m st + 1 + 0) = a by omega]
  exact Int.emod_eq_of_lt h0 h1
theorem blk_parts {m c S j x : Int} (hc : 1 ≤ c) (hj0 : 0 ≤ j) (hj1 : j < m - 1) (hx0 : 0 ≤ x) (hx1 : x < c) :
    ((S * (m - 1) + j) * c + x) / ((m - 1) * c) = S ∧ ((S * (m - 1) + j) * c + x) % ((m - 1) * c) = j * c + x ∧ (j * c + x) / c = j ∧ (j * c + x) % c = x ∧ j * c + x < (m - 1) * c ∧ 0 ≤ j * c + x := by
  have h1 : j * c ≤ (m - 1 - 1) * c := Int.mul_le_mul_of_nonneg_right (by omega) (by omega)
  have h2 : (m - 1 - 1) * c = (m - 1) * c - c := by rw [Int.sub_mul (m - 1) 1 c, Int.one_mul]
  have h3 : 0 ≤ j * c := Int.mul_nonneg hj0 (by omega)
  have h4 : (S * (m - 1) + j) * c + x = S * ((m - 1) * c) + (j * c + x) := by rw [Int.add_mul, Int.mul_assoc]; omega
  have h5 := place_row (S := S) (c := (m - 1) * c) (x := j * c + x) (by omega) (by omega) (by omega)
  have h6 := place_row (S := j) (c := c) (x := x) hc hx0 hx1
  rw [h4]
  exact ⟨h5.1, h5.2, h6.1, h6.2, by omega, by omega⟩
theorem blk_lt {m c s st j x : Int} (h : Good m c s) (hst : 0 ≤ st) (hst1 : st < s) (hj0 : 0 ≤ j) (hj1 : j < m - 1) (hx0 : 0 ≤ x) (hx1 : x < c) :
    0 ≤ (st * (m - 1) + j) * c + x ∧ (st * (m - 1) + j) * c + x < s * c * (m - 1) := by
  have hc := h.c1
  have hm := h.m3
  obtain ⟨b1, b2, b3, b4, b5, b6⟩ := blk_parts (m := m) (c := c) (S := st) (j := j) (x := x) hc hj0 hj1 hx0 hx1
  have e1 : (st * (m - 1) + j) * c + x = st * ((m - 1) * c) + (j * c + x) := by rw [Int.add_mul, Int.mul_assoc]; omega
  have e2 : s * c * (m - 1) = s * ((m - 1) * c) := by rw [Int.mul_assoc, Int.mul_comm c (m - 1)]
  have e3 : (st + 1) * ((m - 1) * c) ≤ s * ((m - 1) * c) := Int.mul_le_mul_of_nonneg_right (by omega) (Int.mul_nonneg (by omega) (by omega))
  have e4 : (st + 1) * ((m - 1) * c) = st * ((m - 1) * c) + (m - 1) * c := by rw [Int.add_mul, Int.one_mul]
  have e5 : 0 ≤ st * ((m - 1) * c) := Int.mul_nonneg hst (Int.mul_nonneg (by omega) (by omega))
  rw [e1, e2]
  omega
/-- Of, then At. -/
theorem back1 {m c s B : Int} (h : Good m c s) (h0 : 0 ≤ B) (h1 : B < s * c * (m - 1)) :
    ∃ S R M P, OfP m c s B S R M P ∧ AtP m c s M R B false ∧ (0 ≤ S ∧ S < s ∧ 0 ≤ R ∧ R < s * c ∧ 0 ≤ M ∧ M < m ∧ 0 ≤ P ∧ P < m) ∧ R / c = S ∧ P = par m S := by
  have hm := h.m3
  have hc := h.c1
  have hE : 1 ≤ (m - 1) * c := Int.mul_pos (by omega) (by omega)
  have hS0 : 0 ≤ B / ((m - 1) * c) := Int.ediv_nonneg h0 (by omega)
  have hS1 : B / ((m - 1) * c) < s := by
    apply Int.ediv_lt_of_lt_mul (by omega)
    rw [Int.mul_comm (m - 1) c, ← Int.mul_assoc]; exact h1
  have hi0 : 0 ≤ B % ((m - 1) * c) := Int.emod_nonneg _ (by omega)
  have hi1 : B % ((m - 1) * c) < (m - 1) * c := Int.emod_lt_of_pos _ (by omega)
  have hj0 : 0 ≤ B % ((m - 1) * c) / c := Int.ediv_nonneg hi0 (by omega)
  have hj1 : B % ((m - 1) * c) / c < m - 1 := Int.ediv_lt_of_lt_mul (by omega) hi1
  have hx0 : 0 ≤ B % ((m - 1) * c) % c := Int.emod_nonneg _ (by omega)
  have hx1 : B % ((m - 1) * c) % c < c := Int.emod_lt_of_pos _ (by omega)
  have hR := place_row (S := B / ((m - 1) * c)) hc hx0 hx1
  have hRlt : B / ((m - 1) * c) * c + B % ((m - 1) * c) % c < s * c := by
    have e : (B / ((m - 1) * c) + 1) * c ≤ s * c := Int.mul_le_mul_of_nonneg_right (by omega) (by omega)
    rw [Int.add_mul, Int.one_mul] at e
    omega
  have hR0 : 0 ≤ B / ((m - 1) * c) * c + B % ((m - 1) * c) % c := by
    have := Int.mul_nonneg hS0 (show 0 ≤ c by omega); omega
  have hmb := mem_bd (B / ((m - 1) * c)) (B % ((m - 1) * c) / c) hm
  have hpb := par_bd (B / ((m - 1) * c)) hm
  refine ⟨_, _, _, _, fun w => gof_ok m c s B w h h0 h1, fun w => ?_, ⟨hS0, hS1, hR0, hRlt, hmb.1, hmb.2, hpb.1, hpb.2⟩, hR.1, rfl⟩
  have hI := atI_mem (m := m) c (B / ((m - 1) * c)) _ (B % ((m - 1) * c) / c) hR.1 hj0 (by omega)
  have := gat_blk m c s (mem m (B / ((m - 1) * c)) (B % ((m - 1) * c) / c)) (B / ((m - 1) * c) * c + B % ((m - 1) * c) % c) w h hmb.1 hmb.2 hR0 hRlt (by rw [hI]; omega)
  rw [hI, hR.1, hR.2] at this
  have d1 := Int.mul_ediv_add_emod B ((m - 1) * c)
  have d2 := Int.mul_ediv_add_emod (B % ((m - 1) * c)) c
  have e : (B / ((m - 1) * c) * (m - 1) + B % ((m - 1) * c) / c) * c + B % ((m - 1) * c) % c = B := by
    rw [Int.add_mul, Int.mul_assoc, Int.mul_comm (B / ((m - 1) * c)), Int.mul_comm (B % ((m - 1) * c) / c) c]
    omega
  rw [e] at this
  exact this
/-- At, then Of; Parity. -/
theorem back2 {m c s A R : Int} (h : Good m c s) (h0 : 0 ≤ A) (h1 : A < m) (h2 : 0 ≤ R) (h3 : R < s * c) :
    (A = par m (R / c) ∧ AtP m c s A R 0 true) ∨ (¬ A = par m (R / c) ∧ ∃ x S, AtP m c s A R x false ∧ OfP m c s x S R A (par m (R / c))) := by
  have hm := h.m3
  have hc := h.c1
  have hst0 : 0 ≤ R / c := Int.ediv_nonneg h2 (by omega)
  have hst1 : R / c < s := Int.ediv_lt_of_lt_mul (by omega) h3
  have hx0 : 0 ≤ R % c := Int.emod_nonneg _ (by omega)
  have hx1 : R % c < c := Int.emod_lt_of_pos _ (by omega)
  have hp := at_rat c A R hm h0 h1
  by_cases hA : A = par m (R / c)
  · exact .inl ⟨hA, fun w => gat_par m c s A R w h h0 h1 h2 h3 (hp.1.2 hA)⟩
  · have hI0 : 0 ≤ atI m c A R := Int.emod_nonneg _ (by omega)
    have hI1 : atI m c A R < m := Int.emod_lt_of_pos _ (by omega)
    have hI2 : ¬ atI m c A R = m - 1 := fun e => hA (hp.1.1 e)
    refine .inr ⟨hA, _, R / c, fun w => gat_blk m c s A R w h h0 h1 h2 h3 hI2, fun w => ?_⟩
    have hlt := blk_lt (j := atI m c A R) (x := R % c) h hst0 hst1 hI0 (by omega) hx0 hx1
    have := gof_ok m c s _ w h hlt.1 hlt.2
    obtain ⟨b1, b2, b3, b4, _, _⟩ := blk_parts (m := m) (c := c) (S := R / c) (j := atI m c A R) (x := R % c) hc hI0 (by omega) hx0 hx1
    have d := Int.mul_ediv_add_emod R c
    have e : R / c * c + R % c = R := by rw [Int.mul_comm]; omega
    rw [b1, b2, b3, b4, mem_atI c (R / c) R A rfl h0 h1, e] at this
    exact this
/-- The blocks of a row's members rise. -/
theorem back3 (N : Nat) {c s R : Int} (h : Good (N + 1) c s) (h2 : 0 ≤ R) (h3 : R < s * c) :
    ∃ z : Nat → Int, (∀ d : Nat, d < N → AtP (N + 1) c s (mem (N + 1) (R / c) d) R (z d) false) ∧ (∀ d : Nat, 0 < d → z (d - 1) < z d) := by
  have hm := h.m3
  have hc := h.c1
  have hst0 : 0 ≤ R / c := Int.ediv_nonneg h2 (by omega)
  refine ⟨fun d => (R / c * ((N : Int) + 1 - 1) + d) * c + R % c, fun d hd w => ?_, fun d hd => ?_⟩
  · have hmb := mem_bd (R / c) (d : Int) hm
    have hI := atI_mem (m := N + 1) c (R / c) R (d : Int) rfl (by omega) (by omega)
    have := gat_blk (N + 1) c s (mem (N + 1) (R / c) d) R w h hmb.1 hmb.2 h2 h3 (by rw [hI]; omega)
    rw [hI] at this
    exact this
  · obtain ⟨e, rfl⟩ : ∃ e, d = e + 1 := ⟨d - 1, by omega⟩
    show (R / c * ((N : Int) + 1 - 1) + ((e + 1 - 1 : Nat) : Int)) * c + R % c < (R / c * ((N : Int) + 1 - 1) + ((e + 1 : Nat) : Int)) * c + R % c
    have e1 : (R / c * ((N : Int) + 1 - 1) + ((e + 1 : Nat) : Int)) * c = (R / c * ((N : Int) + 1 - 1) + ((e + 1 - 1 : Nat) : Int)) * c + c := by
      rw [show ((e + 1 : Nat) : Int) = ((e + 1 - 1 : Nat) : Int) + 1 by omega, ← Int.add_assoc, Int.add_mul _ 1 c, Int.one_mul]
    omega
/-- The parity goes round. -/
theorem back4 {m c s S R : Int} (h : Good m c s) (hR : R / c = S) (hR0 : 0 ≤ R) (hS : S + m < s) :
    ∃ u v, ParP m c s R u ∧ ParP m c s (R + m * c) u ∧ ParP m c s (R + c) v ∧ ¬ u = v := by
  have hm := h.m3
  have hc := h.c1
  have d := Int.mul_ediv_add_emod R c
  have hx0 : 0 ≤ R % c := Int.emod_nonneg _ (by omega)
  have hx1 : R % c < c := Int.emod_lt_of_pos _ (by omega)
  have e0 : R = S * c + R % c := by rw [hR, Int.mul_comm] at d; omega
  have e1 : R + m * c = (S + m) * c + R % c := by rw [Int.add_mul]; omega
  have e2 : R + c = (S + 1) * c + R % c := by rw [Int.add_mul, Int.one_mul]; omega
  have l1 : (S + m + 1) * c ≤ s * c := Int.mul_le_mul_of_nonneg_right (by omega) (by omega)
  have l2 : (S + m + 1) * c = (S + m) * c + c := by rw [Int.add_mul (S + m) 1 c, Int.one_mul]
  have l3 : 0 ≤ m * c := Int.mul_nonneg (by omega) (by omega)
  have l4 : c ≤ m * c := by
    have := Int.mul_le_mul_of_nonneg_right (show 1 ≤ m by omega) (show 0 ≤ c by omega); omega
  have r1 : (R + m * c) / c = S + m := by rw [e1]; exact (place_row hc hx0 hx1).1
  have r2 : (R + c) / c = S + 1 := by rw [e2]; exact (place_row hc hx0 hx1).1
  refine ⟨par m S, par m (S + 1), fun w => ?_, fun w => ?_, fun w => ?_, ?_⟩
  · have := gparity_ok m c s R w h hR0 (by omega)
    rw [hR] at this; exact this
  · have := gparity_ok m c s (R + m * c) w h (by omega) (by omega)
    rw [r1] at this
    have e : par m (S + m) = par m S := by unfold par; rw [Int.add_emod_right]
    rw [e] at this; exact this
  · have := gparity_ok m c s (R + c) w h (by omega) (by omega)
    rw [r2] at this; exact this
  · unfold par
    intro e
    have e3 : S % m = (S + 1) % m := by omega
    have e5 : (S + 1) % m = (S % m + 1) % m := by rw [Int.emod_add_emod]
    have g0 := Int.emod_nonneg S (show m ≠ 0 by omega)
    have g1 := Int.emod_lt_of_pos S (show 0 < m by omega)
    by_cases g : S % m + 1 = m
    · rw [g, Int.emod_self] at e5; omega
    · rw [Int.emod_eq_of_lt (a := S % m + 1) (b := m) (by omega) (by omega)] at e5; omega
end Go.Proofs.Ytdgbdbploghhgaa
