/- The reference's taken. Conditions: as stated. -/
import Derived.Test.YtgkkmdebpekckaaNc
namespace Go.Proofs.Ytgkkmdebpekckaa
open Go.RowKit
set_option maxRecDepth 100000 in
set_option maxHeartbeats 800000 in
theorem taken_any (r n cF : Nat) (aF : Option Addr) (Bv Mv Wv : Value) (a : Ar) (v : Value) (w : World)
    (hm : w.heap[r]? = some (.cells #[.slice aF (128 * n) cF, Bv, Mv, Wv] 76 (0, 0))) (hn : n ≤ 61440) (h : ArX (fun _ => False) w v a) :
    Calls Try.prog 62 #[.pointer (some ⟨r, 0, none⟩), v] w fun e w' => e = .returned (.int .i64 (a.chk n)) ∧ Below w.heap.size w w' := by
  obtain ⟨dv, ⟨a0, cap, rfl, h0⟩, hd⟩ := h
  have HL : Hid (∀ i, i < a.N → ∃ x c, dv i = .slice x (a.len i) c) := fun i hi => by
    obtain ⟨x, c, e, _⟩ := hd i hi
    exact ⟨x, c, e⟩
  have HM : Hid (∀ w1, Below w.heap.size w w1 → w1.heap[r]? = some (.cells #[.slice aF (128 * n) cF, Bv, Mv, Wv] 76 (0, 0))) := fun w1 hb =>
    (hb.block r (Array.getElem?_eq_some_iff.1 hm).1).trans hm
  have HC : Hid (∀ w1, Below w.heap.size w w1 → ∀ i, i < a.N → ∃ b o, a0 = some ⟨b, o, none⟩ ∧ w1.cell? ⟨b, o + i * 2, none⟩ = some (.int .i64 (a.bl i)) ∧ w1.cell? ⟨b, o + i * 2 + 1, none⟩ = some (dv i)) := fun w1 hb i hi => by
    rcases h0 with h0 | ⟨b, o, e, _, hc⟩
    · omega
    · refine ⟨b, o, e, ?_, ?_⟩
      · rw [hb.cell (p := ⟨b, o + i * 2, none⟩) (World.block_lt_of_cell? w _ (hc i hi).1)]; exact (hc i hi).1
      · rw [hb.cell (p := ⟨b, o + i * 2 + 1, none⟩) (World.block_lt_of_cell? w _ (hc i hi).2)]; exact (hc i hi).2
  clear hm hd h0
  obtain ⟨N, hN⟩ : ∃ N, a.N = N := ⟨_, rfl⟩
  have HR0 : Hid (∀ z : Int, z = a.chk n → (if 256 < N then (1 : Int) else if anyB N (a.away n) then 3 else if anyB N a.odd then 4 else 0) = z) := fun z e => by rw [e, ← hN]; rfl
  obtain ⟨z, hz⟩ : ∃ z, a.chk n = z := ⟨_, rfl⟩
  have HZ := Lib.hid (HR0.out z hz.symm)
  rw [hz]
  clear hz HR0
  rw [hN] at HL HC ⊢
  clear hN
  by_cases h256 : 256 < N
  · have e1 : 1 = z := by have := HZ.out; rwa [if_pos h256] at this
    subst e1
    clear HC HL HM HZ
    go_enter Try.func62, Try.ntmps62
    go_wp2
    go_ret
    exact ⟨rfl, Below.refl _ _⟩
  have HZ2 : Hid ((if anyB N (a.away n) then (3 : Int) else if anyB N a.odd then 4 else 0) = z) := by have := HZ.out; rwa [if_neg h256] at this
  clear HZ
  have h256' : ¬ (256 : Int) < (N : Int) := by omega
  have hN : N ≤ 256 := by omega
  clear h256
  obtain ⟨L, hL⟩ : ∃ L, 128 * n = L := ⟨_, rfl⟩
  rw [hL] at HM
  have hq : (L : Int).tdiv 128 = (n : Int) := by
    rw [Int.tdiv_eq_ediv_of_nonneg (by omega)]; omega
  clear hL
  go_enter Try.func62, Try.ntmps62
  go_wp2
  go_loopw [5] (fun s5 wr => ∃ k : Nat, k ≤ N ∧ s5 = .int .i64 k ∧ Hid ((∀ i, i < k → a.away n i = false) ∧ Below w.heap.size w wr)) (fun s5 _ => N - (intOf s5).toNat)
  case atStart => exact ⟨0, by omega, rfl, (fun _ h => by omega), Below.refl _ _⟩
  case round =>
    obtain ⟨k, hk, rfl, HR⟩ := hrel
    by_cases hlt : k < N
    · obtain ⟨b, o, rfl, c1, c2⟩ := HC.out wr HR.out.2 k hlt
      obtain ⟨k2, f2, z2⟩ := cr (HM.out wr HR.out.2)
      clear c2
      have i1 : (0 : Int) ≤ (k : Int) := by omega
      have i2 : (k : Int) < (N : Int) := by omega
      by_cases hb : a.bl k < 0
      · have HA : Hid (anyB N (a.away n) = true) := anyB_true k hlt (by simp [Ar.away, hb])
        obtain ⟨bl, hbl⟩ : ∃ bl, a.bl k = bl := ⟨_, rfl⟩
        rw [hbl] at hb c1
        clear hbl
        have hd : decide (bl < 0) = true := by simpa using hb
        go_wp2
        go_quiet (fail)
        go_wp2
        go_ret
        have := HZ2.out
        rw [if_pos HA.out] at this
        subst this
        exact ⟨rfl, bdn HR.out.2 _⟩
      · by_cases hb2 : (n : Int) ≤ a.bl k
        · have HA : Hid (anyB N (a.away n) = true) := anyB_true k hlt (by simp [Ar.away, hb2])
          obtain ⟨bl, hbl⟩ : ∃ bl, a.bl k = bl := ⟨_, rfl⟩
          rw [hbl] at hb hb2 c1
          clear hbl
          have hd : decide (bl < 0) = false := by simpa using hb
          go_wp2
          go_quiet (fail)
          go_wp2
          go_ret
          have := HZ2.out
          rw [if_pos HA.out] at this
          subst this
          exact ⟨rfl, bdn HR.out.2 _⟩
        · have HA : Hid (a.away n k = false) := by simp [Ar.away, hb, hb2, Hid]
          obtain ⟨bl, hbl⟩ : ∃ bl, a.bl k = bl := ⟨_, rfl⟩
          rw [hbl] at hb hb2 c1
          clear hbl
          have hd : decide (bl < 0) = false := by simpa using hb
          have hd2 : ¬ (n : Int) ≤ bl := hb2
          go_wp2
          go_quiet (fail)
          go_wp2
          go_roundw
          case rel =>
            refine ⟨k + 1, by omega, by go_num, fun i hi => ?_, bdn HR.out.2 _⟩
            by_cases e : i = k
            · subst e; exact HA.out
            · exact HR.out.1 i (by omega)
          case measure => simp [intOf]; omega
    · obtain rfl : k = N := by omega
      have HZ3 : Hid ((if anyB k a.odd then (4 : Int) else 0) = z) := by
        have := HZ2.out
        rwa [anyB_false HR.out.1] at this
      clear HZ2
      have HB := Lib.hid HR.out.2
      clear HR hk hlt
      go_wp2
      go_loopw [6] (fun s6 wq => ∃ j : Nat, j ≤ k ∧ s6 = .int .i64 j ∧ Hid ((∀ i, i < j → a.odd i = false) ∧ Below w.heap.size w wq)) (fun s6 _ => k - (intOf s6).toNat)
      case atStart => exact ⟨0, by omega, rfl, (fun _ h => by omega), HB.out⟩
      case round =>
        obtain ⟨j, hj, rfl, HR⟩ := hrel
        by_cases hlt : j < k
        · obtain ⟨b, o, rfl, c1, c2⟩ := HC.out wr HR.out.2 j hlt
          obtain ⟨ad, cd, e1⟩ := HL.out j hlt
          rw [e1] at c2
          clear e1 c1
          have i1 : (0 : Int) ≤ (j : Int) := by omega
          have i2 : (j : Int) < (k : Int) := by omega
          by_cases hb : a.len j = 128
          · have HA : Hid (a.odd j = false) := by simp [Ar.odd, hb, Hid]
            rw [hb] at c2
            go_wp2
            go_roundw
            case rel =>
              refine ⟨j + 1, by omega, by go_num, fun i hi => ?_, HR.out.2⟩
              by_cases e : i = j
              · subst e; exact HA.out
              · exact HR.out.1 i (by omega)
            case measure => simp [intOf]; omega
          · have HA : Hid (anyB k a.odd = true) := anyB_true j hlt (by simp [Ar.odd, hb])
            obtain ⟨l0, hl0⟩ : ∃ l0, a.len j = l0 := ⟨_, rfl⟩
            rw [hl0] at c2 hb
            clear hl0
            have e2 : ((l0 : Int) != 128) = true := by simp; omega
            go_wp2
            go_ret
            have := HZ3.out
            rw [if_pos HA.out] at this
            subst this
            exact ⟨rfl, HR.out.2⟩
        · obtain rfl : j = k := by omega
          go_wp2
          go_ret
          have := HZ3.out
          rw [anyB_false HR.out.1] at this
          simp at this
          subst this
          exact ⟨rfl, HR.out.2⟩
end Go.Proofs.Ytgkkmdebpekckaa
