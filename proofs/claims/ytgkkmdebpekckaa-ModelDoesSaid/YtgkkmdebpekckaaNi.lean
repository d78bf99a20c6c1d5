/- The reference's Read out of range, New. Conditions: as stated at each. -/
import Derived.Test.YtgkkmdebpekckaaNh
namespace Go.Proofs.Ytgkkmdebpekckaa
open Go.RowKit Go.Shelf
set_option maxRecDepth 100000 in
set_option maxHeartbeats 800000 in
theorem rread_bad (Z : Nat → Prop) (r n : Nat) (s : Rf) (b k : Int) (w : World) (h : RMdAt Z w r n s) (hn : n ≤ 61440) (hb : ¬ inRange n b k) : Calls Try.prog 28 #[.pointer (some ⟨r, 0, none⟩), .int .i64 b, .int .i64 k] w (RReadBad w) := by
  obtain ⟨gF, cF, lv, wv, bv, h⟩ := h
  obtain ⟨k1, f1, z1⟩ := cr h.blk
  clear h
  obtain ⟨L, hL⟩ : ∃ L, 128 * n = L := ⟨_, rfl⟩
  rw [hL] at k1
  have q1 : (L : Int).tdiv 128 = (n : Int) := by rw [Int.tdiv_eq_ediv_of_nonneg (by omega)]; omega
  unfold inRange at hb
  have j8 : (n : Int) ≤ 61440 := by omega
  have j9 : (0 : Int) ≤ n := by omega
  clear hL hn
  by_cases h1 : k < 0
  · clear hb
    go_enter Try.func28, Try.ntmps28
    go_wp2
    all_goals (go_ret2; exact ⟨rfl, Below.refl _ _⟩)
  by_cases h2 : b < 0
  · clear hb
    go_enter Try.func28, Try.ntmps28
    go_wp2
    all_goals (go_ret2; exact ⟨rfl, Below.refl _ _⟩)
  by_cases h3 : (n : Int) < b
  · clear hb
    go_enter Try.func28, Try.ntmps28
    go_wp2
    all_goals (go_ret2; exact ⟨rfl, Below.refl _ _⟩)
  have h4 : (n : Int) - b < k := by omega
  clear hb
  have h1' : 0 ≤ k := by omega
  have h2' : 0 ≤ b := by omega
  have h3' : b ≤ n := by omega
  clear h1 h2 h3
  go_enter Try.func28, Try.ntmps28
  go_wp2
  all_goals (go_ret2; exact ⟨rfl, Below.refl _ _⟩)
theorem make_25 (w : World) (N : Nat) (h : N ≤ 281474976710656) : (Instr.makeSlice 25 (.int .i64 (N : Int)) (.int .i64 (N : Int))).run Try.prog w = .ok (.slice (some ⟨w.heap.size, 0, none⟩) N N) (w.alloc (.cells (arrB N (fun _ => 0)) 5)) := by
  obtain ⟨i0, hi, hz0, hz1, hz2⟩ := info_parts Try.info5
  have := run_make (P := Try.prog) w 25 5 i0 (.int .u8 0) Try.underlying25 hi hz0 .i64 .i64 N N (by omega) (by omega) (by rw [hz2]; omega) (by omega)
  rw [this, hz1, Nat.mul_one, ← made_zero N]
  simp
def Rf.start : Rf := ⟨fun _ => 0, 0, fun _ => noBt, 0, noBt⟩
def RNewP (n : Nat) (w : World) (e : Ending) (w' : World) : Prop :=
  ∃ r Z, e = .returned (.tuple #[.pointer (some ⟨r, 0, none⟩), .int .i64 0]) ∧ RMdAt Z w' r n .start ∧ (∀ k, Z k → w.heap.size ≤ k) ∧ Below w.heap.size w w'
set_option maxRecDepth 100000 in
set_option maxHeartbeats 400000 in
theorem rnew_bad (n : Int) (w : World) (h : n < 1 ∨ 61440 < n) : Calls Try.prog 18 #[.int .i64 n] w fun e w' => e = .returned (.tuple #[.pointer none, .int .i64 1]) ∧ w = w' := by
  rcases h with h | h
  · go_enter Try.func18, Try.ntmps18
    go_wp2
    go_ret2
    exact ⟨rfl, rfl⟩
  · have h' : ¬ n < 1 := by omega
    go_enter Try.func18, Try.ntmps18
    go_wp2
    go_ret2
    exact ⟨rfl, rfl⟩
set_option maxRecDepth 100000 in
set_option maxHeartbeats 400000 in
theorem rnew_ok (n : Nat) (w : World) (h0 : 1 ≤ n) (h : n ≤ 61440) : Calls Try.prog 18 #[.int .i64 n] w (RNewP n w) := by
  have hmk := make_25 w (128 * n) (by omega)
  have h1 : ¬ (n : Int) < 1 := by omega
  have h2 : ¬ (61440 : Int) < (n : Int) := by omega
  have hw : IntKind.i64.wrap (128 * (n : Int)) = ((128 * n : Nat) : Int) := by go_arith
  have hL : 128 * n ≤ maxLen := by unfold maxLen; omega
  obtain ⟨L, hLn⟩ : ∃ L, 128 * n = L := ⟨_, rfl⟩
  rw [hLn] at hmk hw hL
  have HL := Lib.hid hLn
  clear hLn h0 h
  go_enter Try.func18, Try.ntmps18
  go_wp2
  go_ret2
  refine ⟨w.heap.size + 1, fun k => k = w.heap.size + 1 ∨ k = w.heap.size, rfl, ⟨w.heap.size, L, .slice none 0 0, .slice none 0 0, fun _ => .slice none 0 0, ?_⟩, ?_, bal (bal (Below.refl _ _) _) _⟩
  · refine ⟨by rw [HL.out]; exact hn2 _ _ _, ?_, World.ownsRow_nil _ _ _ _, fun _ h => absurd h (Nat.not_lt_zero _), noBt_at _ _, ?_, ?_, by omega, fun k hk => by cases hk⟩
    · rw [HL.out]; exact own_arrB (hn1 _ _ _) (Nat.zero_le _) hL
    · rintro k (hk | hk | hk)
      · exact .inl hk
      · exact .inr hk
      · cases hk
    · rintro k (rfl | rfl) <;> (simp only [World.size_alloc]; omega)
  · rintro k (rfl | rfl) <;> omega
end Go.Proofs.Ytgkkmdebpekckaa
