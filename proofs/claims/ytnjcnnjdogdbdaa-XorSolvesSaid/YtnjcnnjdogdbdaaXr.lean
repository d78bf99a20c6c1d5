/- The reference's Of and Even answer as the program's do. Conditions: as stated at each. -/
import Derived.Test.YtnjcnnjdogdbdaaXq
namespace Go.Proofs.Ytnjcnnjdogdbdaa
open Go.RowKit
theorem ret_bool {a b : Bool} (h : a = b) : Ending.returned (.bool a) = .returned (.bool b) := by rw [h]
def OneP (b : Bool) (w : World) (e : Ending) (w' : World) : Prop := e = .returned (.bool b) ∧ Below w.heap.size w w'
set_option maxHeartbeats 400000 in
theorem one_any (v : Value) (N : Nat) (rv : Nat → Value) (n : Nat → Nat) (h : Nat → Nat → Nat) (w : World) (hr : Rows2 w v N rv n h) (h0 : 0 < N) (hN : N ≤ 200000) (hL : ∀ i, i < N → n i ≤ 200000) (j : Nat) (hj : j ≤ N) (hjL : ∀ i, i < j → n i = n 0) (hend : j = N ∨ n j ≠ n 0) :
    Calls Try.prog 43 #[v] w (OneP (decide (j = N)) w) := by
  have HR := Lib.hid hr
  obtain ⟨a, cap, rfl, hl⟩ := hr.l
  rcases hl with hl | ⟨b, o, rfl, hc⟩
  · omega
  have hcell : w.cell? ⟨b, o, none⟩ = some (rv 0) := hc 0 h0
  obtain ⟨av, capv, hv, -⟩ := hr.b 0 h0
  rw [hv] at hcell
  have HC := Lib.hid hc
  have HJ := Lib.hid hjL
  have HE := Lib.hid hend
  have HL := Lib.hid hL
  have HV := Lib.hid hv
  have n0 := hL 0 h0
  clear hr hc hv hjL hend hL
  go_enter Try.func43, Try.ntmps43
  go_wp2
  go_loopw [3] (fun s3 wr => ∃ k q : Nat, k ≤ j ∧ s3 = .int .i64 k ∧ wr = w.drewN q) (fun s3 _ => N - (intOf s3).toNat)
  case atStart => exact ⟨0, 0, by omega, rfl, rfl⟩
  case round =>
    obtain ⟨k, q, hk, rfl, rfl⟩ := hrel
    by_cases hlt : k < N
    · have hce := HC.out k hlt
      obtain ⟨av2, capv2, hv2, -⟩ := HR.out.b k hlt
      rw [hv2] at hce
      have nk := HL.out k hlt
      have i1 : (0 : Int) ≤ (k : Int) := by omega
      have i2 : (k : Int) < (N : Int) := by omega
      have i3 : (0 : Int) < (N : Int) := by omega
      clear hv2
      by_cases hkj : k < j
      · have hne : ((n k : Int) != (n 0 : Int)) = false := by rw [HJ.out k hkj]; simp
        go_wp2
        go_quiet (fail)
        go_wp2
        go_roundw
        case rel => exact ⟨k + 1, _, by omega, by go_num, rfl⟩
        case measure => simp [intOf]; omega
      · obtain rfl : k = j := by omega
        have hne : ((n k : Int) != (n 0 : Int)) = true := by
          rcases HE.out with h1 | h1
          · omega
          · rw [bne_iff_ne]; omega
        go_wp2
        go_quiet (fail)
        go_wp2
        go_ret
        exact ⟨ret_bool (decide_eq_false (by omega)).symm, bdn (bdn (Below.refl _ _) _) _⟩
    · obtain rfl : k = N := by omega
      obtain rfl : j = k := by omega
      go_wp2
      go_ret
      exact ⟨ret_bool (by simp), bdn (Below.refl _ _) _⟩
theorem refof_nil (a : Option Addr) (cap : Nat) (w : World) : Calls Try.prog 18 #[.slice a 0 cap] w (BadP w 1) := by
  go_enter Try.func18, Try.ntmps18
  go_wp2
  go_ret2
  exact ⟨rfl, Below.refl _ _⟩
theorem refof_bad (v : Value) (N : Nat) (rv : Nat → Value) (n : Nat → Nat) (h : Nat → Nat → Nat) (w : World) (hr : Rows2 w v N rv n h) (hL : ∀ i, i < N → n i ≤ 200000) (hN : N ≤ 200000) (j : Nat) (hj : j < N) (hjL : ∀ i, i < j → n i = n 0) (hne : n j ≠ n 0) :
    Calls Try.prog 18 #[v] w (BadP w 4) := by
  have H1 := Lib.hid (one_any v N rv n h w hr (by omega) hN hL j (by omega) hjL (.inr hne))
  obtain ⟨a, cap, rfl, hl⟩ := hr.l
  have hN0 : ((N : Int) == 0) = false := by simp; omega
  have hd : decide (j = N) = false := decide_eq_false (by omega)
  rw [hd] at H1
  clear hr hl hjL hne hL hd
  go_enter Try.func18, Try.ntmps18
  go_wp2_with fail
  refine H1.out.mono ?_
  rintro e w' ⟨rfl, hb⟩
  have HB := Lib.hid hb
  clear hb
  go_wp2
  go_ret2
  exact ⟨rfl, HB.out⟩
theorem refof_ok (v : Value) (N : Nat) (rv : Nat → Value) (n : Nat → Nat) (h : Nat → Nat → Nat) (L : Nat) (w : World) (hr : Rows2 w v N rv n h) (hL : L ≤ 200000) (hN : N ≤ 200000) (h0 : 0 < N) (hall : ∀ i, i < N → n i = L) :
    Calls Try.prog 18 #[v] w (OwnP L (acc (fun _ => 0) h N) w) := by
  have H1 := Lib.hid (one_any v N rv n h w hr h0 hN (fun i hi => by rw [hall i hi]; exact hL) N (Nat.le_refl _) (fun i hi => by rw [hall i hi, hall 0 h0]) (.inl rfl))
  have HR := Lib.hid hr
  have HJ := Lib.hid hall
  obtain ⟨a, cap, rfl, hl⟩ := hr.l
  have hN0 : ((N : Int) == 0) = false := by simp; omega
  have hd : decide (N = N) = true := by simp
  rw [hd] at H1
  clear hr hl hall hd
  go_enter Try.func18, Try.ntmps18
  go_wp2_with fail
  refine H1.out.mono ?_
  rintro e w1 ⟨rfl, hb⟩
  have HB := Lib.hid hb
  clear hb
  go_wp2_with fail
  refine (or_any _ N rv n h L _ (HR.out.keep HB.out) hL hN h0 HJ.out).mono ?_
  rintro e w2 ⟨v2, rfl, hown, hb⟩
  have HO := Lib.hid hown
  have HB2 := Lib.hid (via HB.out hb)
  have HS := Lib.hid HB.out.size
  clear hown hb
  go_wp2
  go_ret2
  exact ⟨v2, rfl, own_base HO.out HS.out, HB2.out⟩
theorem refof_any (v : Value) (N : Nat) (rv : Nat → Value) (n : Nat → Nat) (h : Nat → Nat → Nat) (w : World) (hr : Rows2 w v N rv n h) (hL : ∀ i, i < N → n i ≤ 200000) (hN : N ≤ 200000) :
    Calls Try.prog 18 #[v] w (OfP N n h w) := by
  by_cases h0 : N = 0
  · subst h0
    obtain ⟨a, cap, rfl, -⟩ := hr.l
    exact (refof_nil a cap w).mono fun e w' H => .inl ⟨rfl, H⟩
  by_cases hb : ∃ j, j < N ∧ n j ≠ n 0
  · obtain ⟨j, hj, hne, hlt⟩ := first_of N hb
    exact (refof_bad v N rv n h w hr hL hN j hj (fun i hi => Classical.byContradiction fun hh => hlt i hi hh) hne).mono fun e w' H => .inr (.inr ⟨by omega, hb, H⟩)
  · have hall : ∀ i, i < N → n i = n 0 := fun i hi => Classical.byContradiction fun hh => hb ⟨i, hi, hh⟩
    exact (refof_ok v N rv n h (n 0) w hr (hL 0 (by omega)) hN (by omega) hall).mono fun e w' H => .inr (.inl ⟨by omega, hall, H⟩)
set_option maxHeartbeats 400000 in
theorem refnought_any (v : Value) (L : Nat) (f : Nat → Nat) (w : World) (hv : Bts w v L f) (hL : L ≤ 200000) :
    Calls Try.prog 40 #[v] w fun e w' => e = .returned (.bool (allZ L f)) ∧ Below w.heap.size w w' := by
  obtain ⟨a, cap, rfl, hc⟩ := hv
  have HC := Lib.hid hc
  clear hc
  go_enter Try.func40, Try.ntmps40
  go_wp2
  go_loop [3] (fun s3 => ∃ k : Nat, k ≤ L ∧ s3 = .int .i64 k ∧ ∀ i, i < k → f i = 0) (fun s3 => L - (intOf s3).toNat)
  case atStart => exact ⟨0, by omega, rfl, fun _ h => by omega⟩
  case round =>
    obtain ⟨k, hk, rfl, hz⟩ := hrel
    have HZ := Lib.hid hz
    clear hz
    by_cases hlt : k < L
    · rcases HC.out with h0 | ⟨b, o, rfl, hc⟩
      · omega
      have d1 := hc k hlt
      clear hc
      by_cases hf : f k = 0
      · have hb : ((f k : Int) != 0) = false := by simp [hf]
        have HF := Lib.hid hf
        clear hf
        go_wp2
        go_round
        case rel =>
          refine ⟨k + 1, by omega, by go_num, fun i hi => ?_⟩
          by_cases e : i = k
          · subst e; exact HF.out
          · exact HZ.out i (by omega)
        case measure => simp [intOf]; omega
      · have hb : ((f k : Int) != 0) = true := by simp; omega
        have HF := Lib.hid hf
        clear hf
        go_wp2
        go_ret
        exact ⟨ret_bool (allZ_false k hlt HF.out).symm, Below.refl _ _⟩
    · obtain rfl : k = L := by omega
      go_wp2
      go_ret
      exact ⟨ret_bool (allZ_true HZ.out).symm, Below.refl _ _⟩
theorem refeven_any (v : Value) (N : Nat) (rv : Nat → Value) (n : Nat → Nat) (h : Nat → Nat → Nat) (w : World) (hr : Rows2 w v N rv n h) (hL : ∀ i, i < N → n i ≤ 200000) (hN : N ≤ 200000) :
    Calls Try.prog 19 #[v] w (EvenP N n h w) := by
  have H1 := Lib.hid (refof_any v N rv n h w hr hL hN)
  obtain ⟨a, cap, rfl, hl⟩ := hr.l
  have HL := Lib.hid hL
  clear hr hl hL
  go_enter Try.func19, Try.ntmps19
  go_wp2_with fail
  refine H1.out.mono ?_
  rintro e w1 (⟨z, rfl, hb⟩ | ⟨z, ha, v1, rfl, hown, hb⟩ | ⟨z, hj, rfl, hb⟩)
  · have HB := Lib.hid hb
    have HZ := Lib.hid z
    clear hb z
    go_wp2
    go_ret2
    exact .inl ⟨HZ.out, rfl, HB.out⟩
  · have HB := Lib.hid hb
    have HO := Lib.hid (ownBts hown)
    have HA := Lib.hid ha
    clear hb ha hown
    go_wp2_with fail
    refine (refnought_any _ _ _ _ HO.out (HL.out 0 z)).mono ?_
    rintro e w2 ⟨rfl, hb⟩
    have HB2 := Lib.hid (via HB.out hb)
    clear hb
    go_wp2
    go_ret2
    exact .inr (.inl ⟨z, HA.out, rfl, HB2.out⟩)
  · have HB := Lib.hid hb
    have HJ := Lib.hid hj
    clear hb hj
    go_wp2
    go_ret2
    exact .inr (.inr ⟨z, HJ.out, rfl, HB.out⟩)
end Go.Proofs.Ytnjcnnjdogdbdaa
