/- The contracts of SameBytes at lists that read alike, of xor.First and the reference's First, of 'much'. Conditions: as stated at each. -/
import Derived.Test.YtnjcnnjdogdbdaaXf
import Derived.WalkLawsBesides
namespace Go.Proofs.Ytnjcnnjdogdbdaa
open Go.RowKit
theorem same_zero (a1 a2 : Option Addr) (c1 c2 : Nat) (w : World) : Calls Try.prog 22 #[.slice a1 0 c1, .slice a2 0 c2] w fun e w' => e = .returned (.bool true) ∧ Below w.heap.size w w' := by
  go_enter Try.func22, Try.ntmps22
  go_wp2
  refine wp_loop_rounds 1 ?_
  rw [rounds_succ]
  go_wp2
  go_returns
  exact ⟨rfl, Below.refl _ _⟩
set_option maxHeartbeats 400000 in
theorem same_any (b o b' o' n c1 c2 : Nat) (f : Nat → Nat) (w : World) (hn : n ≤ 200000) (h1 : ∀ k, k < n → w.cell? ⟨b, o + k, none⟩ = some (.int .u8 (f k))) (h2 : ∀ k, k < n → w.cell? ⟨b', o' + k, none⟩ = some (.int .u8 (f k))) :
    Calls Try.prog 22 #[.slice (some ⟨b, o, none⟩) n c1, .slice (some ⟨b', o', none⟩) n c2] w fun e w' => e = .returned (.bool true) ∧ Below w.heap.size w w' := by
  have H1 := Lib.hid h1
  have H2 := Lib.hid h2
  clear h1 h2
  go_enter Try.func22, Try.ntmps22
  go_wp2
  go_loopw [5] (fun i wr => ∃ k q : Nat, k ≤ n ∧ i = .int .i64 k ∧ wr = w.drewN q) (fun i _ => n - (intOf i).toNat)
  case atStart => exact ⟨0, 0, Nat.zero_le _, rfl, rfl⟩
  case round =>
    obtain ⟨k, q, hk, rfl, rfl⟩ := hrel
    by_cases hlt : k < n
    · have c1 := H1.out k hlt
      have c2 := H2.out k hlt
      have i1 : (0 : Int) ≤ (k : Int) := by omega
      have i2 : (k : Int) < (n : Int) := by omega
      go_wp2
      go_quiet (fail)
      go_wp2
      go_roundw
      case rel => exact ⟨k + 1, _, by omega, by go_num, rfl⟩
      case measure => simp [intOf]; omega
    · obtain rfl : k = n := by omega
      go_wp2
      go_returns
      exact ⟨rfl, bdn (Below.refl _ _) _⟩
theorem same_V {w : World} {v1 v2 : Value} {n : Nat} {f : Nat → Nat} (hn : n ≤ 200000) (h1 : Bts w v1 n f) (h2 : Bts w v2 n f) :
    Calls Try.prog 22 #[v1, v2] w fun e w' => e = .returned (.bool true) ∧ Below w.heap.size w w' := by
  obtain ⟨a, cap, rfl, h1⟩ := h1
  obtain ⟨a', cap', rfl, h2⟩ := h2
  rcases h1 with rfl | ⟨b, o, rfl, h1⟩
  · exact same_zero _ _ _ _ _
  · rcases h2 with rfl | ⟨b', o', rfl, h2⟩
    · exact same_zero _ _ _ _ _
    · exact same_any b o b' o' n _ _ f w hn h1 h2
/-- How many of the first m places agree, from the first on. -/
def ld (f g : Nat → Nat) : Nat → Nat
  | 0 => 0
  | m + 1 => if ld f g m = m ∧ f m = g m then m + 1 else ld f g m
theorem ld_full (f g : Nat → Nat) (m : Nat) (h : ∀ i, i < m → f i = g i) : ld f g m = m := by
  induction m with
  | zero => rfl
  | succ m ih =>
    simp only [ld]
    rw [if_pos ⟨ih (fun i hi => h i (by omega)), h m (by omega)⟩]
theorem ld_at (f g : Nat → Nat) (m k : Nat) (hk : k < m) (h : ∀ i, i < k → f i = g i) (hne : f k ≠ g k) : ld f g m = k := by
  induction m with
  | zero => omega
  | succ m ih =>
    simp only [ld]
    by_cases e : k = m
    · subst e
      rw [if_neg (fun hh => hne hh.2), ld_full f g k h]
    · rw [ih (by omega), if_neg (fun hh => e hh.1)]
theorem ld_comm (f g : Nat → Nat) (m : Nat) : ld f g m = ld g f m := by
  induction m with
  | zero => rfl
  | succ m ih =>
    simp only [ld, ih]
    by_cases h : f m = g m
    · rw [h]
    · rw [if_neg (fun hh => h hh.2), if_neg (fun hh => h hh.2.symm)]
def firstV (n n' : Nat) (f g : Nat → Nat) : Int :=
  if ld f g (min n n') < min n n' then (ld f g (min n n') : Int) else if n = n' then (-1 : Int) else ((min n n' : Nat) : Int)
theorem firstV_comm (n n' : Nat) (f g : Nat → Nat) : firstV n n' f g = firstV n' n g f := by
  unfold firstV
  rw [Nat.min_comm n' n, ld_comm g f]
  by_cases h : n = n'
  · subst h; rfl
  · rw [if_neg (show ¬ n = n' from h), if_neg (show ¬ n' = n from fun e => h e.symm)]
theorem firstV_at {n n' k : Nat} {f g : Nat → Nat} (h1 : k < n) (h2 : k < n') (h : ∀ i, i < k → f i = g i) (hne : f k ≠ g k) : firstV n n' f g = k := by
  unfold firstV
  rw [ld_at f g _ k (by omega) h hne, if_pos (by omega)]
theorem firstV_none {n n' : Nat} {f g : Nat → Nat} (h : ∀ i, i < min n n' → f i = g i) : firstV n n' f g = if n = n' then (-1 : Int) else ((min n n' : Nat) : Int) := by
  unfold firstV
  rw [ld_full f g _ h, if_neg (by omega)]
def FirstP (n n' : Nat) (f g : Nat → Nat) (w : World) (e : Ending) (w' : World) : Prop :=
  e = .returned (.int .i64 (firstV n n' f g)) ∧ Below w.heap.size w w'
set_option maxHeartbeats 800000 in
theorem first_any {w : World} {v1 v2 : Value} {n n' : Nat} {f g : Nat → Nat} (hn : n ≤ 200000) (hn' : n' ≤ 200000) (h1 : Bts w v1 n f) (h2 : Bts w v2 n' g) :
    Calls Try.prog 28 #[v1, v2] w (FirstP n n' f g w) := by
  obtain ⟨a, cap, rfl, h1⟩ := h1
  obtain ⟨a', cap', rfl, h2⟩ := h2
  have H1 := Lib.hid h1
  have H2 := Lib.hid h2
  clear h1 h2
  have key : ∀ m : Nat, ((n' < n ∧ m = n') ∨ (n = n' ∧ m = n) ∨ (n < n' ∧ m = n)) → Calls Try.prog 28 #[.slice a n cap, .slice a' n' cap'] w (FirstP n n' f g w) := by
    intro m hm
    have hmin : min n n' = m := by omega
    have hm1 : m ≤ n := by omega
    have hm2 : m ≤ n' := by omega
    have HM := Lib.hid hmin
    clear hmin
    rcases hm with ⟨hlt, rfl⟩ | ⟨rfl, rfl⟩ | ⟨hlt, rfl⟩
    · have hne : ((n : Int) == (m : Int)) = false := by simp; omega
      have HN : Hid (¬ n = m) := fun e => by omega
      go_enter Try.func28, Try.ntmps28
      go_wp2
      go_loopw [11] (fun i wr => ∃ k q : Nat, k ≤ m ∧ i = .int .i64 k ∧ wr = w.drewN q ∧ ∀ i, i < k → f i = g i) (fun i _ => m - (intOf i).toNat)
      case atStart => exact ⟨0, 0, Nat.zero_le _, rfl, rfl, fun _ h => by omega⟩
      case round =>
        obtain ⟨k, q, hk, rfl, rfl, heq⟩ := hrel
        have HE := Lib.hid heq
        clear heq
        by_cases hltk : k < m
        · rcases H1.out with h0 | ⟨b, o, rfl, hc1⟩
          · omega
          rcases H2.out with h0 | ⟨b', o', rfl, hc2⟩
          · omega
          have d1 := hc1 k (by omega)
          have d2 := hc2 k (by omega)
          clear hc1 hc2
          have i1 : (0 : Int) ≤ (k : Int) := by omega
          have i2 : (k : Int) < (n : Int) := by omega
          have i3 : (k : Int) < (m : Int) := by omega
          by_cases hfg : f k = g k
          · have hb : ((f k : Int) != (g k : Int)) = false := by simp [hfg]
            have HF := Lib.hid hfg
            clear hfg
            go_wp2
            go_quiet (fail)
            go_wp2
            go_roundw
            case rel =>
              refine ⟨k + 1, _, by omega, by go_num, rfl, fun i hi => ?_⟩
              by_cases e : i = k
              · subst e; exact HF.out
              · exact HE.out i (by omega)
            case measure => simp [intOf]; omega
          · have hb : ((f k : Int) != (g k : Int)) = true := by simp; omega
            have HF := Lib.hid hfg
            clear hfg
            go_wp2
            go_quiet (fail)
            go_wp2
            go_returns
            exact ⟨ret_int (firstV_at (by omega) (by omega) HE.out HF.out).symm, bdn (bdn (Below.refl _ _) _) _⟩
        · obtain rfl : k = m := by omega
          go_wp2
          go_returns
          refine ⟨ret_int ?_, bdn (Below.refl _ _) _⟩
          rw [firstV_none (by rw [HM.out]; exact HE.out)]
          rw [if_neg HN.out, HM.out]
    · have hne : ((m : Int) == (m : Int)) = true := by simp
      go_enter Try.func28, Try.ntmps28
      go_wp2
      go_loopw [11] (fun i wr => ∃ k q : Nat, k ≤ m ∧ i = .int .i64 k ∧ wr = w.drewN q ∧ ∀ i, i < k → f i = g i) (fun i _ => m - (intOf i).toNat)
      case atStart => exact ⟨0, 0, Nat.zero_le _, rfl, rfl, fun _ h => by omega⟩
      case round =>
        obtain ⟨k, q, hk, rfl, rfl, heq⟩ := hrel
        have HE := Lib.hid heq
        clear heq
        by_cases hltk : k < m
        · rcases H1.out with h0 | ⟨b, o, rfl, hc1⟩
          · omega
          rcases H2.out with h0 | ⟨b', o', rfl, hc2⟩
          · omega
          have d1 := hc1 k (by omega)
          have d2 := hc2 k (by omega)
          clear hc1 hc2
          have i1 : (0 : Int) ≤ (k : Int) := by omega
          have i2 : (k : Int) < (m : Int) := by omega
          have i3 : (k : Int) < (m : Int) := by omega
          by_cases hfg : f k = g k
          · have hb : ((f k : Int) != (g k : Int)) = false := by simp [hfg]
            have HF := Lib.hid hfg
            clear hfg
            go_wp2
            go_quiet (fail)
            go_wp2
            go_roundw
            case rel =>
              refine ⟨k + 1, _, by omega, by go_num, rfl, fun i hi => ?_⟩
              by_cases e : i = k
              · subst e; exact HF.out
              · exact HE.out i (by omega)
            case measure => simp [intOf]; omega
          · have hb : ((f k : Int) != (g k : Int)) = true := by simp; omega
            have HF := Lib.hid hfg
            clear hfg
            go_wp2
            go_quiet (fail)
            go_wp2
            go_returns
            exact ⟨ret_int (firstV_at (by omega) (by omega) HE.out HF.out).symm, bdn (bdn (Below.refl _ _) _) _⟩
        · obtain rfl : k = m := by omega
          go_wp2
          go_returns
          refine ⟨ret_int ?_, bdn (Below.refl _ _) _⟩
          rw [firstV_none (by rw [HM.out]; exact HE.out)]
          rw [if_pos rfl]
    · have hne : ((m : Int) == (n' : Int)) = false := by simp; omega
      have HN : Hid (¬ m = n') := fun e => by omega
      go_enter Try.func28, Try.ntmps28
      go_wp2
      go_loopw [11] (fun i wr => ∃ k q : Nat, k ≤ m ∧ i = .int .i64 k ∧ wr = w.drewN q ∧ ∀ i, i < k → f i = g i) (fun i _ => m - (intOf i).toNat)
      case atStart => exact ⟨0, 0, Nat.zero_le _, rfl, rfl, fun _ h => by omega⟩
      case round =>
        obtain ⟨k, q, hk, rfl, rfl, heq⟩ := hrel
        have HE := Lib.hid heq
        clear heq
        by_cases hltk : k < m
        · rcases H1.out with h0 | ⟨b, o, rfl, hc1⟩
          · omega
          rcases H2.out with h0 | ⟨b', o', rfl, hc2⟩
          · omega
          have d1 := hc1 k (by omega)
          have d2 := hc2 k (by omega)
          clear hc1 hc2
          have i1 : (0 : Int) ≤ (k : Int) := by omega
          have i2 : (k : Int) < (m : Int) := by omega
          have i3 : (k : Int) < (n' : Int) := by omega
          by_cases hfg : f k = g k
          · have hb : ((f k : Int) != (g k : Int)) = false := by simp [hfg]
            have HF := Lib.hid hfg
            clear hfg
            go_wp2
            go_quiet (fail)
            go_wp2
            go_roundw
            case rel =>
              refine ⟨k + 1, _, by omega, by go_num, rfl, fun i hi => ?_⟩
              by_cases e : i = k
              · subst e; exact HF.out
              · exact HE.out i (by omega)
            case measure => simp [intOf]; omega
          · have hb : ((f k : Int) != (g k : Int)) = true := by simp; omega
            have HF := Lib.hid hfg
            clear hfg
            go_wp2
            go_quiet (fail)
            go_wp2
            go_returns
            exact ⟨ret_int (firstV_at (by omega) (by omega) HE.out HF.out).symm, bdn (bdn (Below.refl _ _) _) _⟩
        · obtain rfl : k = m := by omega
          go_wp2
          go_returns
          refine ⟨ret_int ?_, bdn (Below.refl _ _) _⟩
          rw [firstV_none (by rw [HM.out]; exact HE.out)]
          rw [if_neg HN.out, HM.out]
  by_cases h1 : n' < n
  · exact key n' (.inl ⟨h1, rfl⟩)
  · by_cases h2 : n = n'
    · exact key n (.inr (.inl ⟨h2, rfl⟩))
    · exact key n (.inr (.inr ⟨by omega, rfl⟩))
end Go.Proofs.Ytnjcnnjdogdbdaa
