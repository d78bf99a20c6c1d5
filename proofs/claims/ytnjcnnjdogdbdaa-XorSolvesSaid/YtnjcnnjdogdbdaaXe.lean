/- The contracts of IndexFunc, ContainsFunc (is there a byte that is not nought), Nought, Value, ask, Of, Even. Conditions: as stated at each. -/
import Derived.Test.YtnjcnnjdogdbdaaXd
namespace Go.Proofs.Ytnjcnnjdogdbdaa
open Go.RowKit
def allZ (L : Nat) (f : Nat → Nat) : Bool := (List.range L).all fun k => f k == 0
theorem allZ_true {L : Nat} {f : Nat → Nat} (h : ∀ k, k < L → f k = 0) : allZ L f = true := by
  simp only [allZ, List.all_eq_true, List.mem_range, beq_iff_eq]; exact h
theorem allZ_false {L : Nat} {f : Nat → Nat} (k : Nat) (h : k < L) (h0 : f k ≠ 0) : allZ L f = false := by
  cases e : allZ L f with
  | false => rfl
  | true =>
    simp only [allZ, List.all_eq_true, List.mem_range, beq_iff_eq] at e
    exact absurd (e k h) h0
def IdxP (L : Nat) (f : Nat → Nat) (w : World) (e : Ending) (w' : World) : Prop :=
  ∃ r : Int, e = .returned (.int .i64 r) ∧ decide (0 ≤ r) = !allZ L f ∧ w = w'
set_option maxHeartbeats 400000 in
theorem idx_any (b o L cap : Nat) (f : Nat → Nat) (w : World) (hc : ∀ k, k < L → w.cell? ⟨b, o + k, none⟩ = some (.int .u8 (f k))) (hL : L ≤ 200000) :
    Calls Try.prog 64 #[.slice (some ⟨b, o, none⟩) L cap, .func (.func 60) #[] #[]] w (IdxP L f w) := by
  have HC := Lib.hid hc
  clear hc
  go_enter Try.func64, Try.ntmps64
  go_wp2
  go_loop [8] (fun s8 => ∃ k : Nat, k ≤ L ∧ s8 = .int .i64 k ∧ ∀ i, i < k → f i = 0) (fun s8 => L - (intOf s8).toNat)
  case atStart => exact ⟨0, by omega, rfl, fun _ h => by omega⟩
  case round =>
    obtain ⟨k, hk, rfl, hz⟩ := hrel
    have HZ := Lib.hid hz
    clear hz
    by_cases hlt : k < L
    · have d1 := HC.out k hlt
      by_cases hf : f k = 0
      · have hb : ((f k : Int) != 0) = false := by simp [hf]
        have HF := Lib.hid hf
        clear hf
        go_wp2
        go_round
        case rel =>
          refine ⟨k + 1, by omega, by go_num, fun i hi => ?_⟩
          by_cases e : i = k
          · subst e; exact HF.out
          · exact HZ.out i (by omega)
        case measure => simp [intOf]; omega
      · have hb : ((f k : Int) != 0) = true := by simp; omega
        have HF := Lib.hid hf
        clear hf
        go_wp2
        go_ret
        exact ⟨_, rfl, by rw [allZ_false k hlt HF.out]; simp, rfl⟩
    · obtain rfl : k = L := by omega
      go_wp2
      go_ret
      exact ⟨_, rfl, by rw [allZ_true HZ.out]; rfl, rfl⟩
theorem contains_any (b o L cap : Nat) (f : Nat → Nat) (w : World) (hc : ∀ k, k < L → w.cell? ⟨b, o + k, none⟩ = some (.int .u8 (f k))) (hL : L ≤ 200000) :
    Calls Try.prog 59 #[.slice (some ⟨b, o, none⟩) L cap, .func (.func 60) #[] #[]] w fun e w' => e = .returned (.bool (!allZ L f)) ∧ w = w' := by
  have HC := Lib.hid hc
  clear hc
  go_enter Try.func59, Try.ntmps59
  go_wp2_with fail
  refine (idx_any b o L cap f _ HC.out hL).mono ?_
  rintro e w' ⟨r, rfl, hr, rfl⟩
  go_wp2
  go_ret
  exact ⟨rfl, rfl⟩
theorem nought_any (sb g L : Nat) (f : Nat → Nat) (many : Nat) (w : World) (hS : SumS w sb g L f many) (hL : L ≤ 200000) :
    Calls Try.prog 39 #[.pointer (some ⟨sb, 0, none⟩)] w fun e w' => e = .returned (.bool (allZ L f)) ∧ w = w' := by
  obtain ⟨c0, f0, z0⟩ := cr hS.hs
  have HC := Lib.hid (cr hS.hg).1
  clear hS
  go_enter Try.func39, Try.ntmps39
  go_wp2_with fail
  refine (contains_any g 0 L L f _ (fun k hk => by rw [Nat.zero_add, HC.out k, arrB_get _ _ _ hk]) hL).mono ?_
  rintro e w' ⟨rfl, rfl⟩
  go_wp2
  go_ret
  exact ⟨by simp, rfl⟩
theorem value_any (sb g L : Nat) (f : Nat → Nat) (many : Nat) (w : World) (hS : SumS w sb g L f many) (hL : L ≤ 200000) :
    Calls Try.prog 37 #[.pointer (some ⟨sb, 0, none⟩)] w (CloneP L f w) := by
  obtain ⟨c0, f0, z0⟩ := cr hS.hs
  have HC := Lib.hid (cr hS.hg).1
  clear hS
  go_enter Try.func37, Try.ntmps37
  go_wp2_with fail
  refine (clone_any g 0 L L f _ (fun k hk => by rw [Nat.zero_add, HC.out k, arrB_get _ _ _ hk]) hL).mono ?_
  rintro e w' ⟨v, rfl, hown, hb⟩
  have HO := Lib.hid hown
  have HBel := Lib.hid hb
  clear hown hb
  go_wp2
  go_ret
  exact ⟨v, rfl, HO.out, HBel.out⟩
end Go.Proofs.Ytnjcnnjdogdbdaa
