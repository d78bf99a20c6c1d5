/- The contract of 'much': it says no only where the rows have few bytes. Conditions: as stated at each. -/
import Derived.Test.YtnjcnnjdogdbdaaXg
namespace Go.Proofs.Ytnjcnnjdogdbdaa
open Go.RowKit
/-- N and the first i lengths. -/
def tot (N : Nat) (n : Nat → Nat) : Nat → Nat
  | 0 => N
  | i + 1 => tot N n i + n i
theorem tot_mono (N : Nat) (n : Nat → Nat) {i j : Nat} (h : i ≤ j) : tot N n i ≤ tot N n j := by
  induction j with
  | zero => rw [Nat.le_zero.1 h]; exact Nat.le_refl _
  | succ j ih =>
    by_cases e : i = j + 1
    · rw [e]; exact Nat.le_refl _
    · have := ih (by omega)
      simp only [tot]; omega
theorem tot_ge (N : Nat) (n : Nat → Nat) (i : Nat) : N ≤ tot N n i := tot_mono N n (Nat.zero_le i)
theorem tot_each (N : Nat) (n : Nat → Nat) {i j : Nat} (h : i < j) : n i + N ≤ tot N n j := by
  have h1 := tot_mono N n (show i + 1 ≤ j from h)
  have h2 := tot_ge N n i
  simp only [tot] at h1
  omega
def MuchP (N : Nat) (n : Nat → Nat) (w : World) (e : Ending) (w' : World) : Prop :=
  ∃ b, e = .returned (.bool b) ∧ (b = false → tot N n N ≤ 100000) ∧ Below w.heap.size w w'
set_option maxHeartbeats 400000 in
theorem much_any (v : Value) (N : Nat) (rv : Nat → Value) (n : Nat → Nat) (h : Nat → Nat → Nat) (w : World) (hr : Rows2 w v N rv n h) (hN : (N : Int) ≤ 140737488351232) (hn : ∀ i, i < N → (n i : Int) ≤ 140737488351232) :
    Calls Try.prog 12 #[v] w (MuchP N n w) := by
  have HR := Lib.hid hr
  obtain ⟨a, cap, rfl, hl⟩ := hr.l
  have HL := Lib.hid hl
  have HN := Lib.hid hn
  clear hr hl hn
  go_enter Try.func12, Try.ntmps12
  go_wp2
  go_loop [3, 4] (fun s3 s4 => ∃ k t : Nat, k ≤ N ∧ s4 = .int .i64 k ∧ s3 = .int .i64 t ∧ t = tot N n k ∧ (t : Int) ≤ 281474976710656) (fun _ s4 => N - (intOf s4).toNat)
  case atStart => exact ⟨0, N, Nat.zero_le _, rfl, rfl, rfl, by omega⟩
  case round =>
    obtain ⟨k, t, hk, rfl, rfl, ht, htb⟩ := hrel
    have HT := Lib.hid ht
    clear ht
    by_cases hlt : k < N
    · rcases HL.out with h0 | ⟨b, o, rfl, hc⟩
      · omega
      have hcell := hc k hlt
      obtain ⟨av, capv, hv, -⟩ := HR.out.b k hlt
      rw [hv] at hcell
      have nb := HN.out k hlt
      clear hc hv
      by_cases ht2 : (t : Int) ≤ 100000
      · go_wp2
        go_round
        case rel => exact ⟨k + 1, t + n k, by omega, by go_num, by go_num, by rw [HT.out]; rfl, by omega⟩
        case measure => simp [intOf]; omega
      · go_wp2
        go_ret
        exact ⟨_, rfl, fun e => by simp at e <;> omega, Below.refl _ _⟩
    · obtain rfl : k = N := by omega
      go_wp2
      go_ret
      exact ⟨_, rfl, fun e => by rw [← HT.out]; simp at e <;> omega, Below.refl _ _⟩
end Go.Proofs.Ytnjcnnjdogdbdaa
