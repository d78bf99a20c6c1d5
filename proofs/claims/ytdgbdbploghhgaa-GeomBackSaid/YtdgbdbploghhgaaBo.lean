/- The code and the reference answer alike: Of, Parity, Members, At, Check, Rows, Blocks. Conditions: none. -/
import Derived.Test.YtdgbdbploghhgaaKn
namespace Go.Proofs.Ytdgbdbploghhgaa
open Go.RowKit
theorem emod_shift (x m : Int) : (x + 2 * m) % m = x % m := by
  rw [show x + 2 * m = x + m * 2 by omega]; exact Int.add_mul_emod_self_left x m 2
theorem emod_shift1 (x m : Int) : (x + m) % m = x % m := by
  rw [show x + m = x + m * 1 by omega]; exact Int.add_mul_emod_self_left x m 1
theorem mem_zero {m : Int} (st : Int) (h : 3 ≤ m) : mem m st 0 = if par m st = m - 1 then 0 else par m st + 1 := by
  obtain ⟨h1, h2⟩ := par_bd st h
  unfold mem
  split
  · rw [show par m st + 1 + 0 = m by omega]; exact Int.emod_self
  · rw [Int.add_zero]; exact Int.emod_eq_of_lt (by omega) (by omega)
theorem at_rat {m : Int} (c a r : Int) (h : 3 ≤ m) (h0 : 0 ≤ a) (h1 : a < m) :
    (atI m c a r = m - 1 ↔ a = par m (r / c)) ∧ (¬ a = par m (r / c) → ratI m c a r = atI m c a r) := by
  obtain ⟨p0, p1⟩ := par_bd (r / c) h
  have hz := mem_zero (r / c) h
  unfold atI ratI
  rw [emod_shift, emod_shift1, hz]
  generalize par m (r / c) = p at *
  by_cases hp : p = m - 1
  · rw [if_pos hp]
    have e1 : (a - 0) % m = a := by rw [Int.sub_zero]; exact Int.emod_eq_of_lt (by omega) (by omega)
    rw [e1]
    refine ⟨by omega, fun hne => ?_⟩
    rw [← emod_shift1]
    rw [Int.emod_eq_of_lt (by omega) (by omega)]; omega
  · rw [if_neg hp]
    rw [show a - p - 1 = a - (p + 1) by omega]
    refine ⟨?_, fun _ => rfl⟩
    by_cases h2 : p < a
    · rw [Int.emod_eq_of_lt (by omega) (by omega)]; omega
    · rw [← emod_shift1, Int.emod_eq_of_lt (by omega) (by omega)]; omega
theorem at_val (m c st i x : Int) : (st * (m - 1) + i) * c + x = st * (m - 1) * c + i * c + x := by rw [Int.add_mul]

def OfB (m c s b : Int) (p1 p2 p3 p4 e : Int) : Prop :=
  (∀ w, Calls Try.prog 12 #[G m c s, .int .i64 b] w fun x w' => x = .returned (.tuple #[.agg #[.int .i64 p1, .int .i64 p2, .int .i64 p3, .int .i64 p4], .int .u16 e]) ∧ Below w.heap.size w w') ∧ (∀ w, Calls Try.prog 16 #[G m c s, .int .i64 b] w fun x w' => x = .returned (.tuple #[.agg #[.int .i64 p1, .int .i64 p2, .int .i64 p3, .int .i64 p4], .int .i64 e]) ∧ Below w.heap.size w w')
def ParB (m c s r : Int) (q e : Int) : Prop :=
  (∀ w, Calls Try.prog 13 #[G m c s, .int .i64 r] w fun x w' => x = .returned (.tuple #[.int .i64 q, .int .u16 e]) ∧ Below w.heap.size w w') ∧ (∀ w, Calls Try.prog 17 #[G m c s, .int .i64 r] w fun x w' => x = .returned (.tuple #[.int .i64 q, .int .i64 e]) ∧ Below w.heap.size w w')
def AtB (m c s a r : Int) (q e : Int) (is : Bool) : Prop :=
  (∀ w, Calls Try.prog 15 #[G m c s, .int .i64 a, .int .i64 r] w fun x w' => x = .returned (.tuple #[.int .i64 q, .bool is, .int .u16 e]) ∧ Below w.heap.size w w') ∧ (∀ w, Calls Try.prog 19 #[G m c s, .int .i64 a, .int .i64 r] w fun x w' => x = .returned (.tuple #[.int .i64 q, .bool is, .int .i64 e]) ∧ Below w.heap.size w w')
def ChB (m c s : Int) (e : Int) : Prop :=
  (∀ w, Calls Try.prog 11 #[G m c s] w fun x w' => x = .returned (.int .u16 e) ∧ Below w.heap.size w w') ∧ (∀ w, Calls Try.prog 20 #[G m c s] w fun x w' => x = .returned (.int .i64 e) ∧ Below w.heap.size w w')
def RowB (m c s : Int) (e : Int) : Prop :=
  (∀ w, Calls Try.prog 21 #[G m c s] w fun x w' => x = .returned (.int .i64 e) ∧ Below w.heap.size w w') ∧ (∀ w, Calls Try.prog 22 #[G m c s] w fun x w' => x = .returned (.int .i64 e) ∧ Below w.heap.size w w')
def BlB (m c s : Int) (e : Int) : Prop :=
  (∀ w, Calls Try.prog 23 #[G m c s] w fun x w' => x = .returned (.int .i64 e) ∧ Below w.heap.size w w') ∧ (∀ w, Calls Try.prog 24 #[G m c s] w fun x w' => x = .returned (.int .i64 e) ∧ Below w.heap.size w w')
def MemOut (n : Nat) (f : Nat → Int) (k : IntKind) (e0 : Int) (w : World) (e : Ending) (w' : World) : Prop :=
  ∃ v, e = .returned (.tuple #[v, .int k e0]) ∧ IntsV w' v n f ∧ Below w.heap.size w w'
def MeB (m c s r : Int) (n : Nat) (f : Nat → Int) (e0 : Int) : Prop :=
  (∀ w, Calls Try.prog 14 #[G m c s, .int .i64 r] w (MemOut n f .u16 e0 w)) ∧ (∀ w, Calls Try.prog 18 #[G m c s, .int .i64 r] w (MemOut n f .i64 e0 w))
theorem chB (m c s : Int) : ∃ e, (0 ≤ e ∧ e ≤ 60) ∧ ChB m c s e := by
  by_cases h : Good m c s
  · exact ⟨0, by omega, fun w => check_ok m c s w ((Good.iff m c s).1 h), fun w => rcheck_ok m c s w h⟩
  · exact ⟨60, by omega, fun w => check_bad m c s w (fun h' => h ((Good.iff m c s).2 h')), fun w => rcheck_bad m c s w h⟩
theorem rowB (m c s : Int) : ∃ e, RowB m c s e := by
  by_cases h : Good m c s
  · exact ⟨_, fun w => grows_ok m c s w h, fun w => rrows_ok m c s w h⟩
  · exact ⟨0, fun w => grows_bad m c s w h, fun w => rrows_bad m c s w h⟩
theorem blB (m c s : Int) : ∃ e, BlB m c s e := by
  by_cases h : Good m c s
  · exact ⟨_, fun w => gblocks_ok m c s w h, fun w => rblocks_ok m c s w h⟩
  · exact ⟨0, fun w => gblocks_bad m c s w h, fun w => rblocks_bad m c s w h⟩
theorem parB (m c s r : Int) : ∃ q e, (0 ≤ e ∧ e ≤ 60) ∧ ParB m c s r q e := by
  by_cases h : Good m c s
  · by_cases h1 : r < 0
    · exact ⟨0, 3, by omega, fun w => gparity_rangea m c s r w h h1, fun w => rparity_rangea m c s r w h h1⟩
    · by_cases h2 : r < s * c
      · exact ⟨_, 0, by omega, fun w => gparity_ok m c s r w h (by omega) h2, fun w => rparity_ok m c s r w h (by omega) h2⟩
      · exact ⟨0, 3, by omega, fun w => gparity_rangeb m c s r w h (by omega), fun w => rparity_rangeb m c s r w h (by omega)⟩
  · exact ⟨0, 60, by omega, fun w => gparity_bad m c s r w h, fun w => rparity_bad m c s r w h⟩
theorem ofB (m c s b : Int) : ∃ p1 p2 p3 p4 e, (0 ≤ e ∧ e ≤ 60) ∧ OfB m c s b p1 p2 p3 p4 e := by
  by_cases h : Good m c s
  · by_cases h1 : b < 0
    · exact ⟨0, 0, 0, 0, 3, by omega, fun w => gof_rangea m c s b w h h1, fun w => rof_rangea m c s b w h h1⟩
    · by_cases h2 : b < s * c * (m - 1)
      · exact ⟨_, _, _, _, 0, by omega, fun w => gof_ok m c s b w h (by omega) h2, fun w => rof_ok m c s b w h (by omega) h2⟩
      · exact ⟨0, 0, 0, 0, 3, by omega, fun w => gof_rangeb m c s b w h (by omega), fun w => rof_rangeb m c s b w h (by omega)⟩
  · exact ⟨0, 0, 0, 0, 60, by omega, fun w => gof_bad m c s b w h, fun w => rof_bad m c s b w h⟩
theorem atB (m c s a r : Int) : ∃ q e is, (0 ≤ e ∧ e ≤ 60) ∧ AtB m c s a r q e is := by
  by_cases h : Good m c s
  · by_cases h1 : a < 0
    · exact ⟨0, 3, false, by omega, fun w => gat_rangea m c s a r w h h1, fun w => rat_rangea m c s a r w h h1⟩
    by_cases h2 : m ≤ a
    · exact ⟨0, 3, false, by omega, fun w => gat_rangeb m c s a r w h (by omega) h2, fun w => rat_rangeb m c s a r w h (by omega) h2⟩
    by_cases h3 : r < 0
    · exact ⟨0, 3, false, by omega, fun w => gat_rangec m c s a r w h (by omega) (by omega) h3, fun w => rat_rangec m c s a r w h (by omega) (by omega) h3⟩
    by_cases h4 : s * c ≤ r
    · exact ⟨0, 3, false, by omega, fun w => gat_ranged m c s a r w h (by omega) (by omega) (by omega) h4, fun w => rat_ranged m c s a r w h (by omega) (by omega) h4⟩
    have hp := at_rat c a r h.m3 (by omega) (by omega)
    by_cases h5 : a = par m (r / c)
    · exact ⟨0, 0, true, by omega, fun w => gat_par m c s a r w h (by omega) (by omega) (by omega) (by omega) (hp.1.2 h5), fun w => rat_par m c s a r w h (by omega) (by omega) (by omega) (by omega) h5⟩
    · refine ⟨_, 0, false, by omega, fun w => gat_blk m c s a r w h (by omega) (by omega) (by omega) (by omega) (fun hh => h5 (hp.1.1 hh)), fun w => ?_⟩
      have := rat_blk m c s a r w h (by omega) (by omega) (by omega) (by omega) h5
      rw [hp.2 h5, ← at_val] at this
      exact this
  · exact ⟨0, 60, false, by omega, fun w => gat_bad m c s a r w h, fun w => rat_bad m c s a r w h⟩
theorem memOut_nil {k : IntKind} {e0 : Int} {f : Nat → Int} {w : World} (e : Ending) (w' : World) (h : e = .returned (.tuple #[.slice none 0 0, .int k e0]) ∧ Below w.heap.size w w') : MemOut 0 f k e0 w e w' :=
  ⟨_, h.1, IntsV.nil _ _, h.2⟩
theorem meB (m c s r : Int) : ∃ n f e, (0 ≤ e ∧ e ≤ 60) ∧ n ≤ 1000 ∧ MeB m c s r n f e := by
  by_cases h : Good m c s
  · by_cases h1 : r < 0
    · exact ⟨0, fun _ => 0, 3, by omega, by omega, fun w => (gmembers_rangea m c s r w h h1).mono memOut_nil, fun w => (rmembers_rangea m c s r w h h1).mono memOut_nil⟩
    · by_cases h2 : r < s * c
      · obtain ⟨N, rfl⟩ : ∃ N : Nat, m = N + 1 := ⟨(m - 1).toNat, by have := h.m3; omega⟩
        refine ⟨N, fun i => mem (N + 1) (r / c) i, 0, by omega, by have := h.m16; omega, fun w => (gmembers_ok N c s r w h (by omega) h2).mono ?_, fun w => (rmembers_ok N c s r w h (by omega) h2).mono ?_⟩
        · rintro e w' ⟨g, he, _, hin, hb⟩
          exact ⟨_, he, hin.V, hb⟩
        · rintro e w' ⟨v, he, hown, hb⟩
          exact ⟨_, he, ownsV hown, hb⟩
      · exact ⟨0, fun _ => 0, 3, by omega, by omega, fun w => (gmembers_rangeb m c s r w h (by omega)).mono memOut_nil, fun w => (rmembers_rangeb m c s r w h (by omega)).mono memOut_nil⟩
  · exact ⟨0, fun _ => 0, 60, by omega, by omega, fun w => (gmembers_bad m c s r w h).mono memOut_nil, fun w => (rmembers_bad m c s r w h).mono memOut_nil⟩
end Go.Proofs.Ytdgbdbploghhgaa
