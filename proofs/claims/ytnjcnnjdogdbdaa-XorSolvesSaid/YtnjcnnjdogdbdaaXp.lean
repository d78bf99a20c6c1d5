/- The reference's First. Conditions: as stated at each. -/
import Derived.Test.YtnjcnnjdogdbdaaXo
namespace Go.Proofs.Ytnjcnnjdogdbdaa
open Go.RowKit
set_option maxRecDepth 100000 in
set_option maxHeartbeats 800000 in
theorem ref_first {w : World} {v1 v2 : Value} {n n' : Nat} {f g : Nat → Nat} (hn : n ≤ 140737488355328) (hn' : n' ≤ 140737488355328) (h1 : Bts w v1 n f) (h2 : Bts w v2 n' g) :
    Calls Try.prog 30 #[v1, v2] w (FirstP n n' f g w) := by
  obtain ⟨a, cap, rfl, h1⟩ := h1
  obtain ⟨a', cap', rfl, h2⟩ := h2
  have H1 := Lib.hid h1
  have H2 := Lib.hid h2
  clear h1 h2
  go_enter Try.func30, Try.ntmps30
  go_wp2
  go_loopw [5] (fun i wr => ∃ k q : Nat, k ≤ n ∧ k ≤ n' ∧ i = .int .i64 k ∧ wr = w.drewN q ∧ ∀ i, i < k → f i = g i) (fun i _ => n - (intOf i).toNat)
  case atStart => exact ⟨0, 0, Nat.zero_le _, Nat.zero_le _, rfl, rfl, fun _ h => by omega⟩
  case round =>
    obtain ⟨k, q, hk, hk', rfl, rfl, heq⟩ := hrel
    have HE := Lib.hid heq
    clear heq
    by_cases hlt : k < n
    · by_cases hlt' : k < n'
      · rcases H1.out with h0 | ⟨b, o, rfl, hc1⟩
        · omega
        rcases H2.out with h0 | ⟨b', o', rfl, hc2⟩
        · omega
        have d1 := hc1 k hlt
        have d2 := hc2 k hlt'
        clear hc1 hc2
        have i1 : (0 : Int) ≤ (k : Int) := by omega
        have i2 : (k : Int) < (n : Int) := by omega
        have i3 : (k : Int) < (n' : Int) := by omega
        by_cases hfg : f k = g k
        · have hb : ((f k : Int) != (g k : Int)) = false := by simp [hfg]
          have HF := Lib.hid hfg
          clear hfg
          go_wp2
          go_quiet (fail)
          go_wp2
          go_roundw
          case rel =>
            refine ⟨k + 1, _, by omega, by omega, by go_num, rfl, fun i hi => ?_⟩
            by_cases e : i = k
            · subst e; exact HF.out
            · exact HE.out i (by omega)
          case measure => simp [intOf]; omega
        · have hb : ((f k : Int) != (g k : Int)) = true := by simp; omega
          have HF := Lib.hid hfg
          clear hfg
          go_wp2
          go_quiet (fail)
          go_wp2
          go_returns
          exact ⟨ret_int (firstV_at (by omega) (by omega) HE.out HF.out).symm, bdn (bdn (Below.refl _ _) _) _⟩
      · obtain rfl : n' = k := by omega
        have hne : ((n : Int) != (n' : Int)) = true := by rw [bne_iff_ne]; omega
        go_wp2
        all_goals (
          go_returns
          refine ⟨ret_int ?_, bdn (Below.refl _ _) _⟩
          rw [firstV_none (fun i hi => HE.out i (by omega)), if_neg (by omega)]
          first | omega | (simp; omega))
    · obtain rfl : n = k := by omega
      by_cases he : n = n'
      · subst he
        have hne : ((n : Int) != (n : Int)) = false := by simp
        go_wp2
        go_returns
        refine ⟨ret_int ?_, bdn (Below.refl _ _) _⟩
        rw [firstV_none (fun i hi => HE.out i (by omega)), if_pos rfl]
      · have hne : ((n : Int) != (n' : Int)) = true := by rw [bne_iff_ne]; omega
        go_wp2
        all_goals (
          go_returns
          refine ⟨ret_int ?_, bdn (Below.refl _ _) _⟩
          rw [firstV_none (fun i hi => HE.out i (by omega)), if_neg he]
          first | omega | (simp; omega))
end Go.Proofs.Ytnjcnnjdogdbdaa
