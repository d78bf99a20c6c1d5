/- WholeRows, SpoilBytes, SpoilRows. Conditions: as stated at each. -/
import Derived.Test.YtnjcnnjdogdbdaaXs
namespace Go.Proofs.Ytnjcnnjdogdbdaa
open Go.RowKit
def QuietT (w : World) (e : Ending) (w' : World) : Prop := e = .returned (.bool true) ∧ ∃ m, w' = w.drewN m
theorem sameQ_zero (a1 a2 : Option Addr) (c1 c2 : Nat) (w : World) : Calls Try.prog 22 #[.slice a1 0 c1, .slice a2 0 c2] w (QuietT w) := by
  go_enter Try.func22, Try.ntmps22
  go_wp2
  refine wp_loop_rounds 1 ?_
  rw [rounds_succ]
  go_wp2
  go_returns
  exact ⟨rfl, 0, rfl⟩
set_option maxHeartbeats 400000 in
theorem sameQ_any (b o b' o' n c1 c2 : Nat) (f : Nat → Nat) (w : World) (hn : n ≤ 140737488355328) (h1 : ∀ k, k < n → w.cell? ⟨b, o + k, none⟩ = some (.int .u8 (f k))) (h2 : ∀ k, k < n → w.cell? ⟨b', o' + k, none⟩ = some (.int .u8 (f k))) :
    Calls Try.prog 22 #[.slice (some ⟨b, o, none⟩) n c1, .slice (some ⟨b', o', none⟩) n c2] w (QuietT w) := by
  have H1 := Lib.hid h1
  have H2 := Lib.hid h2
  clear h1 h2
  go_enter Try.func22, Try.ntmps22
  go_wp2
  go_loopw [5] (fun i wr => ∃ k q : Nat, k ≤ n ∧ i = .int .i64 k ∧ wr = w.drewN q) (fun i _ => n - (intOf i).toNat)
  case atStart => exact ⟨0, 0, Nat.zero_le _, rfl, rfl⟩
  case round =>
    obtain ⟨k, q, hk, rfl, rfl⟩ := hrel
    by_cases hlt : k < n
    · have c1 := H1.out k hlt
      have c2 := H2.out k hlt
      have i1 : (0 : Int) ≤ (k : Int) := by omega
      have i2 : (k : Int) < (n : Int) := by omega
      go_wp2
      go_quiet (fail)
      go_wp2
      go_roundw
      case rel => exact ⟨k + 1, _, by omega, by go_num, rfl⟩
      case measure => simp [intOf]; omega
    · obtain rfl : k = n := by omega
      go_wp2
      go_returns
      exact ⟨rfl, _, rfl⟩
theorem sameQ {w : World} {v1 v2 : Value} {n : Nat} {f : Nat → Nat} (hn : n ≤ 140737488355328) (h1 : Bts w v1 n f) (h2 : Bts w v2 n f) : Calls Try.prog 22 #[v1, v2] w (QuietT w) := by
  obtain ⟨a, cap, rfl, h1⟩ := h1
  obtain ⟨a', cap', rfl, h2⟩ := h2
  rcases h1 with rfl | ⟨b, o, rfl, h1⟩
  · exact sameQ_zero _ _ _ _ _
  · rcases h2 with rfl | ⟨b', o', rfl, h2⟩
    · exact sameQ_zero _ _ _ _ _
    · exact sameQ_any b o b' o' n _ _ f w hn h1 h2
set_option maxRecDepth 100000 in
set_option maxHeartbeats 400000 in
theorem wholeQ (g n cap : Nat) (f : Nat → Nat) (va : Value) (w : World) (hn : n ≤ 140737488351232) (hl : Lent w g n cap f) (ha : Bts w va n f) :
    Calls Try.prog 29 #[.slice (some ⟨g, 0, none⟩) n cap, va] w (QuietT w) := by
  obtain ⟨aa, ca, rfl⟩ := ha.form
  have HA := Lib.hid ha
  have HB := Lib.hid hl.bts
  have c0 := hl.m0
  have c1 := hl.m1
  have c2 := hl.cap
  clear hl ha
  have hw2 : IntKind.i64.wrap ((n : Int) + 2) = ((n + 2 : Nat) : Int) := by go_arith
  have hw1 : IntKind.i64.wrap ((n : Int) + 1) = ((n + 1 : Nat) : Int) := by go_arith
  have h3 : ¬ cap < n + 2 := by omega
  go_enter Try.func29, Try.ntmps29
  go_wp2_with (first | (go_at_call 22; refine (sameQ (by omega) HB.out HA.out).mono ?_; rintro e w1 ⟨rfl, mq, rfl⟩))
  go_ret
  exact ⟨rfl, mq, rfl⟩
theorem QuietT.below {w : World} {e : Ending} {w' : World} (h : QuietT w e w') : e = .returned (.bool true) ∧ Below w.heap.size w w' := by
  obtain ⟨rfl, m, rfl⟩ := h
  exact ⟨rfl, bdn (Below.refl _ _) _⟩
theorem mark77.bts {w : World} {p : Nat} (h : mark77 w p) : Bts w (.slice (some ⟨p, 0, none⟩) 2 2) 2 (sel2 77 78) :=
  ⟨_, _, rfl, .inr ⟨p, 0, rfl, fun k hk => by
    rw [Nat.zero_add, cell_of_row _ _ _ _ 5 (0, 0) h]
    revert k hk
    exact two rfl rfl⟩⟩
theorem LRow.whole {w : World} {B : Nat} {v va : Value} {n : Nat} {f : Nat → Nat} (h : LRow w B v n f) (hn : n ≤ 140737488351232) (ha : Bts w va n f) : Calls Try.prog 29 #[v, va] w (QuietT w) := by
  obtain ⟨g, cap, rfl, ho⟩ := h
  exact wholeQ g n cap f va w hn (Lent.of ho) ha
set_option maxRecDepth 100000 in
set_option maxHeartbeats 1000000 in
theorem whole_rows (xv v : Value) (N : Nat) (rv rv0 : Nat → Value) (n : Nat → Nat) (h : Nat → Nat → Nat) (B E : Nat) (w : World) (hx : LentR w B E xv N rv n h) (hr : Rows2 w v N rv0 n h) (hN : N ≤ 100000) (hn : ∀ i, i < N → n i ≤ 200000) :
    Calls Try.prog 16 #[xv, v] w fun e w' => e = .returned (.bool true) ∧ Below w.heap.size w w' := by
  have HX := Lib.hid hx
  have HR := Lib.hid hr
  have HN := Lib.hid hn
  obtain ⟨a, cap, rfl, hl⟩ := hr.l
  obtain ⟨gx, cx, p1, p2, rfl, ho, hm1, hm2, -⟩ := hx.l
  have hcx : N + 2 ≤ cx := by
    rcases ho.2 with ⟨h, _⟩ | ⟨_, _, _, h, _, _, h2, _⟩
    · cases h
    · cases h; exact h2
  have HO := Lib.hid ho
  have HL := Lib.hid hl
  have HM1 := Lib.hid hm1
  have HM2 := Lib.hid hm2
  have hw2 : IntKind.i64.wrap ((N : Int) + 2) = ((N + 2 : Nat) : Int) := by go_arith
  have h3 : ¬ cx < N + 2 := by omega
  have h4 : ((N : Int) != (N : Int)) = false := by simp
  clear hx hr hn hl ho hm1 hm2
  go_enter Try.func16, Try.ntmps16
  go_wp2
  go_loopw [6] (fun s6 wr => ∃ k : Nat, k ≤ 2 ∧ s6 = .int .i64 ((N + k : Nat) : Int) ∧ Below w.heap.size w wr) (fun s6 _ => N + 2 - (intOf s6).toNat)
  case atStart => exact ⟨0, by omega, by go_num, Below.refl _ _⟩
  case round =>
    obtain ⟨k, hk, rfl, hb⟩ := hrel
    have HB := Lib.hid hb
    clear hb
    by_cases hlt : k < 2
    · have hkey : ∃ p, wr.cell? ⟨gx, N + k, none⟩ = some (.slice (some ⟨p, 0, none⟩) 2 2) ∧ mark77 wr p := by
        have hh := own_keep HB.out HO.out
        obtain rfl | rfl : k = 0 ∨ k = 1 := by omega
        · refine ⟨p1, (own_cell hh ?_).1, (HB.out.block _ (lt_of_block HM1.out)).trans HM1.out⟩
          rw [List.getElem?_append_right (by simp)]; simp
        · refine ⟨p2, (own_cell hh ?_).1, (HB.out.block _ (lt_of_block HM2.out)).trans HM2.out⟩
          rw [List.getElem?_append_right (by simp)]; simp
      obtain ⟨p, hcell, hmk⟩ := hkey
      have HMK := Lib.hid hmk
      clear hmk
      have i1 : (N : Int) + (k : Int) < (N : Int) + 2 := by omega
      have hk : Below wr.heap.size wr (wr.alloc (.cells #[.int .u8 77, .int .u8 78] 5)) := by go_grown
      have HK := Lib.hid hk
      clear hk
      go_wp2_with (first | (go_at_call 22; refine (same_V (by omega) (HMK.out.bts.keep HK.out) (bts2 wr 77 78)).mono ?_; rintro e w1 ⟨rfl, hb⟩; have HB1 := Lib.hid (via HB.out (via HK.out hb)); clear hb))
      go_roundw
      case rel => exact ⟨k + 1, by omega, by go_num, HB1.out⟩
      case measure => simp [intOf]; omega
    · obtain rfl : k = 2 := by omega
      go_wp2
      go_loopw [7] (fun s7 wr => ∃ i : Nat, i ≤ N ∧ s7 = .int .i64 i ∧ Below w.heap.size w wr) (fun s7 _ => N - (intOf s7).toNat)
      case atStart => exact ⟨0, by omega, rfl, HB.out⟩
      case round =>
        obtain ⟨i, hi, rfl, hb⟩ := hrel
        have HB2 := Lib.hid hb
        clear hb
        by_cases hlt : i < N
        · have hc1 : wr.cell? ⟨gx, i, none⟩ = some (rv i) := (own_cell (own_keep HB2.out HO.out) (by rw [List.getElem?_append_left (by simpa using hlt)]; simp [hlt])).1
          rcases HL.out with h0 | ⟨b, o, rfl, hc⟩
          · omega
          have hc2 : wr.cell? ⟨b, o + i, none⟩ = some (rv0 i) := by
            rw [HB2.out.cell (p := ⟨b, o + i, none⟩) (World.block_lt_of_cell? w _ (hc i hlt))]; exact hc i hlt
          have hrow := (HX.out.row i hlt).keep HB2.out
          have hbt := (HR.out.b i hlt).keep HB2.out
          have HWh := Lib.hid (show ∀ q, Calls Try.prog 29 #[rv i, rv0 i] (wr.drewN q) (fun e w'' => e = .returned (.bool true) ∧ ∃ m, w'' = (wr.drewN q).drewN m) from fun q => (hrow.keep (bdn (Below.refl _ _) q)).whole (by have := HN.out i hlt; omega) (hbt.keep (bdn (Below.refl _ _) q)))
          obtain ⟨av, capv, hv⟩ := hbt.form
          obtain ⟨g, c, hv2, -⟩ := hrow
          rw [hv] at hc2 HWh
          rw [hv2] at hc1 HWh
          have i1 : (0 : Int) ≤ (i : Int) := by omega
          have i2 : (i : Int) < (N : Int) := by omega
          clear hc hbt hv hv2
          go_wp2
          go_quiet ((go_at_call 29; exact Calls.quiet_of (HWh.out _)))
          go_wp2
          go_roundw
          case rel => exact ⟨i + 1, by omega, by go_num, bdn HB2.out _⟩
          case measure => simp [intOf]; omega
        · obtain rfl : i = N := by omega
          go_wp2
          go_ret
          exact ⟨rfl, HB2.out⟩
end Go.Proofs.Ytnjcnnjdogdbdaa
