/- SameBytes, much. Conditions: as stated at each. -/
import Derived.Test.YtgkkmdebpekckaaMp
namespace Go.Proofs.Ytgkkmdebpekckaa
open Go.RowKit
theorem eqB_true {n : Nat} {f g : Nat → Nat} (h : ∀ k, k < n → f k = g k) : eqB n n f g = true := by simp [eqB]; exact h
theorem eqB_len {n m : Nat} {f g : Nat → Nat} (h : n ≠ m) : eqB n m f g = false := by simp [eqB, h]
theorem eqB_at {n m : Nat} {f g : Nat → Nat} (k : Nat) (hk : k < n) (h : f k ≠ g k) : eqB n m f g = false := by
  simp only [eqB, decide_eq_false_iff_not]
  rintro ⟨_, h2⟩
  exact h (h2 k hk)
set_option maxRecDepth 100000 in
set_option maxHeartbeats 400000 in
theorem same_Q (v1 v2 : Value) (n m : Nat) (f g : Nat → Nat) (w : World) (h1 : Bts w v1 n f) (h2 : Bts w v2 m g) (hn : n ≤ 140737488351232) :
    Calls Try.prog 14 #[v1, v2] w fun e w' => e = .returned (.bool (eqB n m f g)) ∧ ∃ q, w' = w.drewN q := by
  obtain ⟨a, cap, rfl, h1⟩ := h1
  obtain ⟨a', cap', rfl, h2⟩ := h2
  by_cases hnm : n = m
  · subst hnm
    have H1 := Lib.hid h1
    have H2 := Lib.hid h2
    clear h1 h2
    go_enter Try.func14, Try.ntmps14
    go_wp2
    go_loopw [5] (fun i wr => ∃ k q : Nat, k ≤ n ∧ i = .int .i64 k ∧ wr = w.drewN q ∧ Hid (∀ j, j < k → f j = g j)) (fun i _ => n - (intOf i).toNat)
    case atStart => exact ⟨0, 0, Nat.zero_le _, rfl, rfl, fun _ h => absurd h (Nat.not_lt_zero _)⟩
    case round =>
      obtain ⟨k, q, hk, rfl, rfl, HE⟩ := hrel
      by_cases hlt : k < n
      · rcases H1.out with h0 | ⟨b, o, rfl, hc1⟩
        · omega
        rcases H2.out with h0 | ⟨b', o', rfl, hc2⟩
        · omega
        have c1 := hc1 k hlt
        have c2 := hc2 k hlt
        have i1 : (0 : Int) ≤ (k : Int) := by omega
        have i2 : (k : Int) < (n : Int) := by omega
        clear hc1 hc2
        by_cases hfg : f k = g k
        · have hb : ((f k : Int) != (g k : Int)) = false := by simp [hfg]
          have HF := Lib.hid hfg
          clear hfg
          go_wp2
          go_quiet (fail)
          go_wp2
          go_roundw
          case rel =>
            refine ⟨k + 1, _, by omega, by go_num, rfl, fun j hj => ?_⟩
            by_cases e : j = k
            · subst e; exact HF.out
            · exact HE.out j (by omega)
          case measure => simp [intOf]; omega
        · have hb : ((f k : Int) != (g k : Int)) = true := by simp; omega
          have HF := Lib.hid hfg
          clear hfg
          go_wp2
          go_quiet (fail)
          go_wp2
          go_returns
          exact ⟨by rw [eqB_at k hlt HF.out]; rfl, _, World.drewN_drewN _ _ _⟩
      · obtain rfl : k = n := by omega
        go_wp2
        go_returns
        exact ⟨by rw [eqB_true HE.out]; rfl, _, rfl⟩
  · have hb : ((n : Int) != (m : Int)) = true := by simp; omega
    have e0 : eqB n m f g = false := eqB_len hnm
    rw [e0]
    clear h1 h2 e0
    go_enter Try.func14, Try.ntmps14
    go_wp2
    go_returns
    exact ⟨rfl, 0, rfl⟩
theorem same_V (v1 v2 : Value) (n m : Nat) (f g : Nat → Nat) (w : World) (h1 : Bts w v1 n f) (h2 : Bts w v2 m g) (hn : n ≤ 140737488351232) :
    Calls Try.prog 14 #[v1, v2] w fun e w' => e = .returned (.bool (eqB n m f g)) ∧ Below w.heap.size w w' := by
  refine (same_Q v1 v2 n m f g w h1 h2 hn).mono ?_
  rintro e w' ⟨rfl, q, rfl⟩
  exact ⟨rfl, bdn (Below.refl _ _) _⟩
/-- What much has seen when it says no: few things. -/
def Few (nb : Int) (N : Nat) (ops : Nat → Opc) : Prop :=
  N ≤ 2000 ∧ (0 < nb → nb ≤ 61440 → nb * N ≤ 262144) ∧ ∀ i, i < N → (ops i).allN ≤ 64000063 ∧ (ops i).puts.N ≤ 1000000 ∧ ∀ k, k < (ops i).puts.N → (ops i).puts.len k ≤ 64000063
def MuchP (nb : Int) (N : Nat) (ops : Nat → Opc) (w : World) (e : Ending) (w' : World) : Prop :=
  ∃ b, e = .returned (.bool b) ∧ (b = false → Few nb N ops) ∧ Below w.heap.size w w'
/-- What has been counted so far. -/
def Seen (t : Nat) (k : Nat) (ops : Nat → Opc) : Prop := ∀ i, i < k → (ops i).allN / 64 + (ops i).puts.N ≤ t ∧ ∀ j, j < (ops i).puts.N → (ops i).puts.len j / 64 ≤ t
theorem Seen.few {t N : Nat} {ops : Nat → Opc} (h : Seen t N ops) (ht : t ≤ 1000000) : ∀ i, i < N → (ops i).allN ≤ 64000063 ∧ (ops i).puts.N ≤ 1000000 ∧ ∀ k, k < (ops i).puts.N → (ops i).puts.len k ≤ 64000063 := fun i hi => by
  obtain ⟨h1, h2⟩ := h i hi
  exact ⟨by omega, by omega, fun k hk => by have := h2 k hk; omega⟩
set_option maxRecDepth 100000 in
set_option maxHeartbeats 1000000 in
theorem much_any (nb : Int) (X : Nat → Prop) (a : Option Addr) (N cap : Nat) (ops : Nat → Opc) (pv av : Nat → Value) (w : World) (h : OpsX X w a N ops pv av) (hN : N ≤ 1954687338211) (hf : ∀ i, i < N → (ops i).fit) :
    Calls Try.prog 7 #[.int .i64 nb, .slice a N cap] w (MuchP nb N ops w) := by
  have HO := Lib.hid h
  have HF := Lib.hid hf
  clear h hf
  by_cases h2000 : 2000 < N
  · clear hN
    go_enter Try.func7, Try.ntmps7
    go_wp2
    all_goals (go_returns; exact ⟨true, rfl, (fun e => by cases e), Below.refl _ _⟩)
  have hN2 : (N : Int) ≤ 2000 := by omega
  clear hN h2000
  by_cases hb1 : 0 < nb
  · by_cases hb2 : nb ≤ 61440
    · have hp0 : 0 ≤ nb * (N : Int) := Int.mul_nonneg (by omega) (by omega)
      have hp1 : nb * (N : Int) ≤ 61440 * 2000 := Int.mul_le_mul hb2 hN2 (by omega) (by omega)
      have HProd : Hid (∀ p, nb * (N : Int) = p → p ≤ 262144 → 0 < nb → nb ≤ 61440 → nb * (N : Int) ≤ 262144) := fun p e h _ _ => by rw [e]; exact h
      obtain ⟨p, hp⟩ : ∃ p, nb * (N : Int) = p := ⟨_, rfl⟩
      rw [hp] at hp0 hp1
      have hpw : wrap64 (nb * (N : Int)) = p := by rw [hp]; go_arith
      have HP := Lib.hid hp
      clear hp
      by_cases hp3 : 262144 < p
      · go_enter Try.func7, Try.ntmps7
        go_wp2
        all_goals (go_returns; exact ⟨true, rfl, (fun e => by cases e), Below.refl _ _⟩)
      · have hfew : Hid (0 < nb → nb ≤ 61440 → nb * (N : Int) ≤ 262144) := HProd.out p HP.out (by omega)
        clear HProd HP
        go_enter Try.func7, Try.ntmps7
        go_wp2
        go_loopw [5, 6] (fun s5 s6 wr => ∃ k t q : Nat, k ≤ N ∧ s6 = .int .i64 k ∧ s5 = .int .i64 t ∧ (t : Int) ≤ 35184372088832 ∧ wr = w.drewN q ∧ Hid (t ≤ 1000000 → Seen t k ops)) (fun _ s6 _ => N - (intOf s6).toNat)
        case atStart => exact ⟨0, 0, 0, Nat.zero_le _, rfl, rfl, by omega, rfl, fun _ _ h => absurd h (Nat.not_lt_zero _)⟩
        case round =>
          obtain ⟨k, t, q, hk, rfl, rfl, htb, rfl, HS⟩ := hrel
          have j0 : (0 : Int) ≤ (t : Int) := by omega
          by_cases hlt : k < N
          · by_cases ht6 : (t : Int) ≤ 1000000
            · rcases HO.out.l with h0 | ⟨b, o, rfl, -, hc⟩
              · omega
              obtain ⟨-, -, -, c3, c4⟩ := hc k hlt
              obtain ⟨dv, ⟨pa, pc, e3, hpl⟩, hpd⟩ := HO.out.puts k hlt
              obtain ⟨ba, bc, e4, -⟩ := HO.out.all k hlt
              rw [e3] at c3
              rw [e4] at c4
              obtain ⟨⟨p1, p2, -⟩, -, p3⟩ := HF.out k hlt
              have HPL := Lib.hid hpl
              have HPD := Lib.hid (show ∀ i, i < (ops k).puts.N → ∃ x c, dv i = .slice x ((ops k).puts.len i) c from fun i hi => by obtain ⟨x, c, e, _⟩ := hpd i hi; exact ⟨x, c, e⟩)
              have HP2 := Lib.hid p2
              obtain ⟨A, hA⟩ : ∃ A, (ops k).allN = A := ⟨_, rfl⟩
              obtain ⟨M, hM⟩ : ∃ M, (ops k).puts.N = M := ⟨_, rfl⟩
              obtain ⟨ln, hln⟩ : ∃ ln, (ops k).puts.len = ln := ⟨_, rfl⟩
              rw [hA] at c4 p3
              rw [hM] at c3 p1 HPL HPD HP2
              rw [hln] at HP2 HPD
              have HE := Lib.hid (And.intro hA (And.intro hM hln))
              clear hc e3 e4 hpl hpd p2 hA hM hln
              have i1 : (0 : Int) ≤ (k : Int) := by omega
              have i2 : (k : Int) < (N : Int) := by omega
              have hq : (A : Int).tdiv 64 = ((A / 64 : Nat) : Int) := by rw [Int.tdiv_eq_ediv_of_nonneg (by omega)]; rfl
              obtain ⟨A6, hA6⟩ : ∃ A6, A / 64 = A6 := ⟨_, rfl⟩
              rw [hA6] at hq
              have j1 : (A6 : Int) ≤ 2199023255552 := by omega
              have j2 : (0 : Int) ≤ (A6 : Int) := by omega
              have j3 : (M : Int) ≤ 4398046510976 := by omega
              have j4 : (0 : Int) ≤ (M : Int) := by omega
              have w1 : IntKind.i64.wrap ((A6 : Int) + M) = (A6 : Int) + M := by go_arith
              have w2 : IntKind.i64.wrap ((t : Int) + ((A6 : Int) + M)) = (t : Int) + ((A6 : Int) + M) := by go_arith
              have HA6 := Lib.hid hA6
              clear hA6 p1 p3
              go_wp2
              go_quiet (fail)
              go_wp2
              obtain ⟨t0, ht0⟩ : ∃ t0 : Nat, t + (A6 + M) = t0 := ⟨_, rfl⟩
              have ht0i : (t : Int) + ((A6 : Int) + M) = (t0 : Int) := by omega
              have ht0b : (t0 : Int) ≤ 6597070766528 := by omega
              have HT0 := Lib.hid ht0
              rw [ht0i]
              clear ht0 ht0i w1 w2
              go_loopw [5, 7] (fun s5 s7 wr => ∃ j u q' : Nat, j ≤ M ∧ s7 = .int .i64 j ∧ s5 = .int .i64 u ∧ (u : Int) ≤ 35184372088832 ∧ wr = w.drewN q' ∧ Hid (t0 ≤ u ∧ ∀ i, i < j → ln i / 64 ≤ u)) (fun _ s7 _ => M - (intOf s7).toNat)
              case atStart => exact ⟨0, t0, _, Nat.zero_le _, rfl, rfl, by omega, World.drewN_drewN _ _ _, Nat.le_refl _, fun _ h => absurd h (Nat.not_lt_zero _)⟩
              case round =>
                obtain ⟨j, u, q', hj, rfl, rfl, hub, rfl, HR⟩ := hrel
                have r0 : (0 : Int) ≤ (u : Int) := by omega
                by_cases hjl : j < M
                · by_cases hu6 : (u : Int) ≤ 1000000
                  · rcases HPL.out with h0 | ⟨pb, po, rfl, -, hpc⟩
                    · omega
                    obtain ⟨-, d2⟩ := hpc j hjl
                    obtain ⟨x, c, e⟩ := HPD.out j hjl
                    rw [e] at d2
                    have r1 := HP2.out j hjl
                    obtain ⟨D, hD⟩ : ∃ D, ln j = D := ⟨_, rfl⟩
                    rw [hD] at d2 r1
                    have HDD := Lib.hid hD
                    have i3 : (0 : Int) ≤ (j : Int) := by omega
                    have i4 : (j : Int) < (M : Int) := by omega
                    have hq2 : (D : Int).tdiv 64 = ((D / 64 : Nat) : Int) := by rw [Int.tdiv_eq_ediv_of_nonneg (by omega)]; rfl
                    obtain ⟨D6, hD6⟩ : ∃ D6, D / 64 = D6 := ⟨_, rfl⟩
                    rw [hD6] at hq2
                    have j5 : (D6 : Int) ≤ 2199023255552 := by omega
                    have j6 : (0 : Int) ≤ (D6 : Int) := by omega
                    have HD6 := Lib.hid hD6
                    clear hD hD6 r1 e hpc
                    go_wp2
                    go_roundw
                    case rel =>
                      refine ⟨j + 1, u + D6, _, by omega, by go_num, by go_num, by omega, rfl, by have := HR.out.1; omega, fun i hi => ?_⟩
                      by_cases e : i = j
                      · subst e; rw [HDD.out, HD6.out]; omega
                      · have := HR.out.2 i (by omega); omega
                    case measure => simp [intOf]; omega
                  · have hu7 : 1000000 < (u : Int) := by omega
                    clear hu6
                    rcases HPL.out with h0 | ⟨pb, po, rfl, -, -⟩
                    · omega
                    go_wp2
                    go_roundw
                    case rel => exact ⟨k + 1, u, _, by omega, by go_num, rfl, hub, rfl, fun h => absurd h (by omega)⟩
                    case measure => simp [intOf]; omega
                · obtain rfl : j = M := by omega
                  go_wp2
                  go_roundw
                  case rel =>
                    refine ⟨k + 1, u, _, by omega, by go_num, rfl, hub, rfl, fun h i hi => ?_⟩
                    obtain ⟨e1, e2, e3⟩ := HE.out
                    obtain ⟨r1, r2⟩ := HR.out
                    have hT0 := HT0.out
                    have hA6 := HA6.out
                    by_cases e : i = k
                    · subst e; rw [e1, e2, e3]; exact ⟨by omega, r2⟩
                    · obtain ⟨s1, s2⟩ := HS.out (by omega) i (by omega)
                      exact ⟨by omega, fun q hq => by have := s2 q hq; omega⟩
                  case measure => simp [intOf]; omega
            · have ht7 : 1000000 < (t : Int) := by omega
              clear ht6
              rcases HO.out.l with h0 | ⟨b, o, rfl, -, -⟩
              · omega
              go_wp2
              go_returns
              exact ⟨_, rfl, (fun e => by first | (simp at e; done) | (simp at e; omega)), bdn (Below.refl _ _) _⟩
          · obtain rfl : k = N := by omega
            go_wp2
            go_returns
            exact ⟨_, rfl, fun e => ⟨by omega, hfew.out, (HS.out (by simp at e; omega)).few (by simp at e; omega)⟩, bdn (Below.refl _ _) _⟩
    · have hfew : Hid (0 < nb → nb ≤ 61440 → nb * (N : Int) ≤ 262144) := fun _ h => absurd h hb2
      have hb2' : 61440 < nb := by omega
      clear hb2
      go_enter Try.func7, Try.ntmps7
      go_wp2
      go_loopw [5, 6] (fun s5 s6 wr => ∃ k t q : Nat, k ≤ N ∧ s6 = .int .i64 k ∧ s5 = .int .i64 t ∧ (t : Int) ≤ 35184372088832 ∧ wr = w.drewN q ∧ Hid (t ≤ 1000000 → Seen t k ops)) (fun _ s6 _ => N - (intOf s6).toNat)
      case atStart => exact ⟨0, 0, 0, Nat.zero_le _, rfl, rfl, by omega, rfl, fun _ _ h => absurd h (Nat.not_lt_zero _)⟩
      case round =>
        obtain ⟨k, t, q, hk, rfl, rfl, htb, rfl, HS⟩ := hrel
        have j0 : (0 : Int) ≤ (t : Int) := by omega
        by_cases hlt : k < N
        · by_cases ht6 : (t : Int) ≤ 1000000
          · rcases HO.out.l with h0 | ⟨b, o, rfl, -, hc⟩
            · omega
            obtain ⟨-, -, -, c3, c4⟩ := hc k hlt
            obtain ⟨dv, ⟨pa, pc, e3, hpl⟩, hpd⟩ := HO.out.puts k hlt
            obtain ⟨ba, bc, e4, -⟩ := HO.out.all k hlt
            rw [e3] at c3
            rw [e4] at c4
            obtain ⟨⟨p1, p2, -⟩, -, p3⟩ := HF.out k hlt
            have HPL := Lib.hid hpl
            have HPD := Lib.hid (show ∀ i, i < (ops k).puts.N → ∃ x c, dv i = .slice x ((ops k).puts.len i) c from fun i hi => by obtain ⟨x, c, e, _⟩ := hpd i hi; exact ⟨x, c, e⟩)
            have HP2 := Lib.hid p2
            obtain ⟨A, hA⟩ : ∃ A, (ops k).allN = A := ⟨_, rfl⟩
            obtain ⟨M, hM⟩ : ∃ M, (ops k).puts.N = M := ⟨_, rfl⟩
            obtain ⟨ln, hln⟩ : ∃ ln, (ops k).puts.len = ln := ⟨_, rfl⟩
            rw [hA] at c4 p3
            rw [hM] at c3 p1 HPL HPD HP2
            rw [hln] at HP2 HPD
            have HE := Lib.hid (And.intro hA (And.intro hM hln))
            clear hc e3 e4 hpl hpd p2 hA hM hln
            have i1 : (0 : Int) ≤ (k : Int) := by omega
            have i2 : (k : Int) < (N : Int) := by omega
            have hq : (A : Int).tdiv 64 = ((A / 64 : Nat) : Int) := by rw [Int.tdiv_eq_ediv_of_nonneg (by omega)]; rfl
            obtain ⟨A6, hA6⟩ : ∃ A6, A / 64 = A6 := ⟨_, rfl⟩
            rw [hA6] at hq
            have j1 : (A6 : Int) ≤ 2199023255552 := by omega
            have j2 : (0 : Int) ≤ (A6 : Int) := by omega
            have j3 : (M : Int) ≤ 4398046510976 := by omega
            have j4 : (0 : Int) ≤ (M : Int) := by omega
            have w1 : IntKind.i64.wrap ((A6 : Int) + M) = (A6 : Int) + M := by go_arith
            have w2 : IntKind.i64.wrap ((t : Int) + ((A6 : Int) + M)) = (t : Int) + ((A6 : Int) + M) := by go_arith
            have HA6 := Lib.hid hA6
            clear hA6 p1 p3
            go_wp2
            go_quiet (fail)
            go_wp2
            obtain ⟨t0, ht0⟩ : ∃ t0 : Nat, t + (A6 + M) = t0 := ⟨_, rfl⟩
            have ht0i : (t : Int) + ((A6 : Int) + M) = (t0 : Int) := by omega
            have ht0b : (t0 : Int) ≤ 6597070766528 := by omega
            have HT0 := Lib.hid ht0
            rw [ht0i]
            clear ht0 ht0i w1 w2
            go_loopw [5, 7] (fun s5 s7 wr => ∃ j u q' : Nat, j ≤ M ∧ s7 = .int .i64 j ∧ s5 = .int .i64 u ∧ (u : Int) ≤ 35184372088832 ∧ wr = w.drewN q' ∧ Hid (t0 ≤ u ∧ ∀ i, i < j → ln i / 64 ≤ u)) (fun _ s7 _ => M - (intOf s7).toNat)
            case atStart => exact ⟨0, t0, _, Nat.zero_le _, rfl, rfl, by omega, World.drewN_drewN _ _ _, Nat.le_refl _, fun _ h => absurd h (Nat.not_lt_zero _)⟩
            case round =>
              obtain ⟨j, u, q', hj, rfl, rfl, hub, rfl, HR⟩ := hrel
              have r0 : (0 : Int) ≤ (u : Int) := by omega
              by_cases hjl : j < M
              · by_cases hu6 : (u : Int) ≤ 1000000
                · rcases HPL.out with h0 | ⟨pb, po, rfl, -, hpc⟩
                  · omega
                  obtain ⟨-, d2⟩ := hpc j hjl
                  obtain ⟨x, c, e⟩ := HPD.out j hjl
                  rw [e] at d2
                  have r1 := HP2.out j hjl
                  obtain ⟨D, hD⟩ : ∃ D, ln j = D := ⟨_, rfl⟩
                  rw [hD] at d2 r1
                  have HDD := Lib.hid hD
                  have i3 : (0 : Int) ≤ (j : Int) := by omega
                  have i4 : (j : Int) < (M : Int) := by omega
                  have hq2 : (D : Int).tdiv 64 = ((D / 64 : Nat) : Int) := by rw [Int.tdiv_eq_ediv_of_nonneg (by omega)]; rfl
                  obtain ⟨D6, hD6⟩ : ∃ D6, D / 64 = D6 := ⟨_, rfl⟩
                  rw [hD6] at hq2
                  have j5 : (D6 : Int) ≤ 2199023255552 := by omega
                  have j6 : (0 : Int) ≤ (D6 : Int) := by omega
                  have HD6 := Lib.hid hD6
                  clear hD hD6 r1 e hpc
                  go_wp2
                  go_roundw
                  case rel =>
                    refine ⟨j + 1, u + D6, _, by omega, by go_num, by go_num, by omega, rfl, by have := HR.out.1; omega, fun i hi => ?_⟩
                    by_cases e : i = j
                    · subst e; rw [HDD.out, HD6.out]; omega
                    · have := HR.out.2 i (by omega); omega
                  case measure => simp [intOf]; omega
                · have hu7 : 1000000 < (u : Int) := by omega
                  clear hu6
                  rcases HPL.out with h0 | ⟨pb, po, rfl, -, -⟩
                  · omega
                  go_wp2
                  go_roundw
                  case rel => exact ⟨k + 1, u, _, by omega, by go_num, rfl, hub, rfl, fun h => absurd h (by omega)⟩
                  case measure => simp [intOf]; omega
              · obtain rfl : j = M := by omega
                go_wp2
                go_roundw
                case rel =>
                  refine ⟨k + 1, u, _, by omega, by go_num, rfl, hub, rfl, fun h i hi => ?_⟩
                  obtain ⟨e1, e2, e3⟩ := HE.out
                  obtain ⟨r1, r2⟩ := HR.out
                  have hT0 := HT0.out
                  have hA6 := HA6.out
                  by_cases e : i = k
                  · subst e; rw [e1, e2, e3]; exact ⟨by omega, r2⟩
                  · obtain ⟨s1, s2⟩ := HS.out (by omega) i (by omega)
                    exact ⟨by omega, fun q hq => by have := s2 q hq; omega⟩
                case measure => simp [intOf]; omega
          · have ht7 : 1000000 < (t : Int) := by omega
            clear ht6
            rcases HO.out.l with h0 | ⟨b, o, rfl, -, -⟩
            · omega
            go_wp2
            go_returns
            exact ⟨_, rfl, (fun e => by first | (simp at e; done) | (simp at e; omega)), bdn (Below.refl _ _) _⟩
        · obtain rfl : k = N := by omega
          go_wp2
          go_returns
          exact ⟨_, rfl, fun e => ⟨by omega, hfew.out, (HS.out (by simp at e; omega)).few (by simp at e; omega)⟩, bdn (Below.refl _ _) _⟩
  · have hfew : Hid (0 < nb → nb ≤ 61440 → nb * (N : Int) ≤ 262144) := fun h => absurd h hb1
    go_enter Try.func7, Try.ntmps7
    go_wp2
    go_loopw [5, 6] (fun s5 s6 wr => ∃ k t q : Nat, k ≤ N ∧ s6 = .int .i64 k ∧ s5 = .int .i64 t ∧ (t : Int) ≤ 35184372088832 ∧ wr = w.drewN q ∧ Hid (t ≤ 1000000 → Seen t k ops)) (fun _ s6 _ => N - (intOf s6).toNat)
    case atStart => exact ⟨0, 0, 0, Nat.zero_le _, rfl, rfl, by omega, rfl, fun _ _ h => absurd h (Nat.not_lt_zero _)⟩
    case round =>
      obtain ⟨k, t, q, hk, rfl, rfl, htb, rfl, HS⟩ := hrel
      have j0 : (0 : Int) ≤ (t : Int) := by omega
      by_cases hlt : k < N
      · by_cases ht6 : (t : Int) ≤ 1000000
        · rcases HO.out.l with h0 | ⟨b, o, rfl, -, hc⟩
          · omega
          obtain ⟨-, -, -, c3, c4⟩ := hc k hlt
          obtain ⟨dv, ⟨pa, pc, e3, hpl⟩, hpd⟩ := HO.out.puts k hlt
          obtain ⟨ba, bc, e4, -⟩ := HO.out.all k hlt
          rw [e3] at c3
          rw [e4] at c4
          obtain ⟨⟨p1, p2, -⟩, -, p3⟩ := HF.out k hlt
          have HPL := Lib.hid hpl
          have HPD := Lib.hid (show ∀ i, i < (ops k).puts.N → ∃ x c, dv i = .slice x ((ops k).puts.len i) c from fun i hi => by obtain ⟨x, c, e, _⟩ := hpd i hi; exact ⟨x, c, e⟩)
          have HP2 := Lib.hid p2
          obtain ⟨A, hA⟩ : ∃ A, (ops k).allN = A := ⟨_, rfl⟩
          obtain ⟨M, hM⟩ : ∃ M, (ops k).puts.N = M := ⟨_, rfl⟩
          obtain ⟨ln, hln⟩ : ∃ ln, (ops k).puts.len = ln := ⟨_, rfl⟩
          rw [hA] at c4 p3
          rw [hM] at c3 p1 HPL HPD HP2
          rw [hln] at HP2 HPD
          have HE := Lib.hid (And.intro hA (And.intro hM hln))
          clear hc e3 e4 hpl hpd p2 hA hM hln
          have i1 : (0 : Int) ≤ (k : Int) := by omega
          have i2 : (k : Int) < (N : Int) := by omega
          have hq : (A : Int).tdiv 64 = ((A / 64 : Nat) : Int) := by rw [Int.tdiv_eq_ediv_of_nonneg (by omega)]; rfl
          obtain ⟨A6, hA6⟩ : ∃ A6, A / 64 = A6 := ⟨_, rfl⟩
          rw [hA6] at hq
          have j1 : (A6 : Int) ≤ 2199023255552 := by omega
          have j2 : (0 : Int) ≤ (A6 : Int) := by omega
          have j3 : (M : Int) ≤ 4398046510976 := by omega
          have j4 : (0 : Int) ≤ (M : Int) := by omega
          have w1 : IntKind.i64.wrap ((A6 : Int) + M) = (A6 : Int) + M := by go_arith
          have w2 : IntKind.i64.wrap ((t : Int) + ((A6 : Int) + M)) = (t : Int) + ((A6 : Int) + M) := by go_arith
          have HA6 := Lib.hid hA6
          clear hA6 p1 p3
          go_wp2
          go_quiet (fail)
          go_wp2
          obtain ⟨t0, ht0⟩ : ∃ t0 : Nat, t + (A6 + M) = t0 := ⟨_, rfl⟩
          have ht0i : (t : Int) + ((A6 : Int) + M) = (t0 : Int) := by omega
          have ht0b : (t0 : Int) ≤ 6597070766528 := by omega
          have HT0 := Lib.hid ht0
          rw [ht0i]
          clear ht0 ht0i w1 w2
          go_loopw [5, 7] (fun s5 s7 wr => ∃ j u q' : Nat, j ≤ M ∧ s7 = .int .i64 j ∧ s5 = .int .i64 u ∧ (u : Int) ≤ 35184372088832 ∧ wr = w.drewN q' ∧ Hid (t0 ≤ u ∧ ∀ i, i < j → ln i / 64 ≤ u)) (fun _ s7 _ => M - (intOf s7).toNat)
          case atStart => exact ⟨0, t0, _, Nat.zero_le _, rfl, rfl, by omega, World.drewN_drewN _ _ _, Nat.le_refl _, fun _ h => absurd h (Nat.not_lt_zero _)⟩
          case round =>
            obtain ⟨j, u, q', hj, rfl, rfl, hub, rfl, HR⟩ := hrel
            have r0 : (0 : Int) ≤ (u : Int) := by omega
            by_cases hjl : j < M
            · by_cases hu6 : (u : Int) ≤ 1000000
              · rcases HPL.out with h0 | ⟨pb, po, rfl, -, hpc⟩
                · omega
                obtain ⟨-, d2⟩ := hpc j hjl
                obtain ⟨x, c, e⟩ := HPD.out j hjl
                rw [e] at d2
                have r1 := HP2.out j hjl
                obtain ⟨D, hD⟩ : ∃ D, ln j = D := ⟨_, rfl⟩
                rw [hD] at d2 r1
                have HDD := Lib.hid hD
                have i3 : (0 : Int) ≤ (j : Int) := by omega
                have i4 : (j : Int) < (M : Int) := by omega
                have hq2 : (D : Int).tdiv 64 = ((D / 64 : Nat) : Int) := by rw [Int.tdiv_eq_ediv_of_nonneg (by omega)]; rfl
                obtain ⟨D6, hD6⟩ : ∃ D6, D / 64 = D6 := ⟨_, rfl⟩
                rw [hD6] at hq2
                have j5 : (D6 : Int) ≤ 2199023255552 := by omega
                have j6 : (0 : Int) ≤ (D6 : Int) := by omega
                have HD6 := Lib.hid hD6
                clear hD hD6 r1 e hpc
                go_wp2
                go_roundw
                case rel =>
                  refine ⟨j + 1, u + D6, _, by omega, by go_num, by go_num, by omega, rfl, by have := HR.out.1; omega, fun i hi => ?_⟩
                  by_cases e : i = j
                  · subst e; rw [HDD.out, HD6.out]; omega
                  · have := HR.out.2 i (by omega); omega
                case measure => simp [intOf]; omega
              · have hu7 : 1000000 < (u : Int) := by omega
                clear hu6
                rcases HPL.out with h0 | ⟨pb, po, rfl, -, -⟩
                · omega
                go_wp2
                go_roundw
                case rel => exact ⟨k + 1, u, _, by omega, by go_num, rfl, hub, rfl, fun h => absurd h (by omega)⟩
                case measure => simp [intOf]; omega
            · obtain rfl : j = M := by omega
              go_wp2
              go_roundw
              case rel =>
                refine ⟨k + 1, u, _, by omega, by go_num, rfl, hub, rfl, fun h i hi => ?_⟩
                obtain ⟨e1, e2, e3⟩ := HE.out
                obtain ⟨r1, r2⟩ := HR.out
                have hT0 := HT0.out
                have hA6 := HA6.out
                by_cases e : i = k
                · subst e; rw [e1, e2, e3]; exact ⟨by omega, r2⟩
                · obtain ⟨s1, s2⟩ := HS.out (by omega) i (by omega)
                  exact ⟨by omega, fun q hq => by have := s2 q hq; omega⟩
              case measure => simp [intOf]; omega
        · have ht7 : 1000000 < (t : Int) := by omega
          clear ht6
          rcases HO.out.l with h0 | ⟨b, o, rfl, -, -⟩
          · omega
          go_wp2
          go_returns
          exact ⟨_, rfl, (fun e => by first | (simp at e; done) | (simp at e; omega)), bdn (Below.refl _ _) _⟩
      · obtain rfl : k = N := by omega
        go_wp2
        go_returns
        exact ⟨_, rfl, fun e => ⟨by omega, hfew.out, (HS.out (by simp at e; omega)).few (by simp at e; omega)⟩, bdn (Below.refl _ _) _⟩
end Go.Proofs.Ytgkkmdebpekckaa
