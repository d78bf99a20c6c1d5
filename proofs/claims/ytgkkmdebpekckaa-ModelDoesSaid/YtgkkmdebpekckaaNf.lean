/- The reference's laid: a row, with a batch laid in. Conditions: as stated at each. -/
import Derived.Test.YtgkkmdebpekckaaNe
namespace Go.Proofs.Ytgkkmdebpekckaa
open Go.RowKit
/-- k puts, and j bytes of the next one. -/
def midN (x : Nat → Nat) (bl : Nat → Nat) (f : Nat → Nat → Nat) (k j : Nat) (p : Nat) : Nat :=
  if 128 * bl k ≤ p ∧ p < 128 * bl k + j then f k (p - 128 * bl k) else layN x bl f k p
theorem mid_0 (x : Nat → Nat) (bl : Nat → Nat) (f : Nat → Nat → Nat) (k : Nat) : midN x bl f k 0 = layN x bl f k := by
  funext p
  unfold midN
  rw [if_neg (by omega)]
theorem mid_all (x : Nat → Nat) (bl : Nat → Nat) (f : Nat → Nat → Nat) (k : Nat) : midN x bl f k 128 = layN x bl f (k + 1) := rfl
theorem mid_set (x : Nat → Nat) (bl : Nat → Nat) (f : Nat → Nat → Nat) (k j L : Nat) : (bytesL L (midN x bl f k j)).set (128 * bl k + j) (.int .u8 (f k j)) = bytesL L (midN x bl f k (j + 1)) := by
  apply List.ext_getElem?
  intro p
  rw [List.getElem?_set]
  by_cases hp : p < L
  · rw [bytesL_get _ _ _ hp, bytesL_get _ _ _ hp, bytesL_len]
    by_cases e : 128 * bl k + j = p
    · subst e
      rw [if_pos rfl, if_pos hp]
      unfold midN
      rw [if_pos (by omega), Nat.add_sub_cancel_left]
    · rw [if_neg e]
      unfold midN
      by_cases h1 : 128 * bl k ≤ p ∧ p < 128 * bl k + j
      · rw [if_pos h1, if_pos (by omega)]
      · rw [if_neg h1, if_neg (by omega)]
  · have h0 : ∀ g : Nat → Nat, (bytesL L g)[p]? = none := fun g => List.getElem?_eq_none (by rw [bytesL_len]; omega)
    rw [h0, h0, bytesL_len]
    by_cases e : 128 * bl k + j = p
    · rw [if_pos e, if_neg (by omega)]
    · rw [if_neg e]
def LaidP (n : Nat) (x : Nat → Nat) (b : Bt) (W : World) (e : Ending) (w' : World) : Prop :=
  ∃ g c, e = .returned (.slice (some ⟨g, 0, none⟩) (128 * n) c) ∧ w'.ownsRow W.heap.size 5 1 (.slice (some ⟨g, 0, none⟩) (128 * n) c) (128 * n) (bytesL (128 * n) (layN x b.bl b.f b.N)) ∧ Below W.heap.size W w'
set_option maxRecDepth 100000 in
set_option maxHeartbeats 1000000 in
theorem laid_any (X : Nat → Prop) (vx v : Value) (n : Nat) (x : Nat → Nat) (b : Bt) (W : World) (hn0 : 0 < n) (hn : n ≤ 61440) (hx : Bts W vx (128 * n) x) (hv : BatX X W v b) (hb : ∀ i, i < b.N → b.bl i < n) (hN : b.N ≤ 65536) :
    Calls Try.prog 64 #[vx, v] W (LaidP n x b W) := by
  obtain ⟨dv, ⟨aa, ac, rfl, hc⟩, hd⟩ := hv
  obtain ⟨xa, xc, rfl, hxc⟩ := hx
  rcases hxc with h0 | ⟨xb, xo, rfl, hxc⟩
  · omega
  have HX := Lib.hid hxc
  have HC := Lib.hid hc
  have HD : Hid (∀ i, i < b.N → Bts W (dv i) 128 (b.f i)) := fun i hi => (hd i hi).bts
  have HB := Lib.hid hb
  obtain ⟨bN, bbl, bf⟩ := b
  dsimp only at HC HD HB hN ⊢
  unfold LaidP
  dsimp only
  obtain ⟨N, rfl⟩ : ∃ N, N = bN := ⟨_, rfl⟩
  obtain ⟨L, hL⟩ : ∃ L, 128 * n = L := ⟨_, rfl⟩
  have HLn := Lib.hid hL
  have hL0 : 0 < L := by omega
  have hL7 : L ≤ 7864320 := by omega
  rw [hL] at HX ⊢
  clear hxc hc hd hb hL
  obtain ⟨i2, hi2, hz0, hz1, hz2⟩ := info_parts Try.info5
  go_enter Try.func64, Try.ntmps64
  go_wp2_with (first | (at_builtin; refine wpList_append_two _ rfl _ _ 25 rfl W.heap.size 5 i2 (.int .u8 0) 1 1 Try.underlying25 hi2 hz0 hz1 hz2 rfl (by decide) (.slice none 0 0) 0 [] rfl (World.ownsRow_nil _ _ _ _) ⟨xb, xo, none⟩ L xc (bytesL L x) rfl (by rw [bytesL_len, Nat.mul_one]) ?c1 (bytesL_one _ _) (by omega) (by unfold maxLen; omega) (by omega) (Nat.le_refl _) ?_))
  case c1 =>
    intro q u hq
    by_cases hlt : q < L
    · rw [bytesL_get _ _ _ hlt] at hq
      rw [addk, HX.out q hlt]
      exact hq
    · rw [List.getElem?_eq_none (by rw [bytesL_len]; omega)] at hq
      cases hq
  intro v' w' hown0 htwo
  have hown : w'.ownsRow W.heap.size 5 1 v' L (bytesL L x) := by simpa using hown0
  have HBel : Hid (Below W.heap.size W w') := htwo.below (B := W.heap.size) (Below.refl _ _) (Nat.le_refl _) fun k hk => (by cases hk)
  obtain ⟨ga, gc, rfl, hgl, hgf⟩ := own_form hown
  obtain ⟨g, rfl⟩ := hgf.resolve_left (by omega)
  have HG : Hid (W.heap.size ≤ g) := (hown.lt g rfl).1
  have HOwn := Lib.hid hown
  have hgc : L ≤ 0 + gc := by omega
  clear hown hown0 htwo
  go_wp2
  go_loopw [6] (fun s6 wr => ∃ k : Nat, k ≤ N ∧ s6 = .int .i64 k ∧ Hid (wr.ownsRow W.heap.size 5 1 (.slice (some ⟨g, 0, none⟩) L gc) L (bytesL L (layN x bbl bf k)) ∧ Below W.heap.size W wr)) (fun s6 _ => N - (intOf s6).toNat)
  case atStart => exact ⟨0, Nat.zero_le _, rfl, HOwn.out, HBel.out⟩
  case round =>
    obtain ⟨k, hk, rfl, HR⟩ := hrel
    by_cases hlt : k < N
    · rcases HC.out with h0 | ⟨ob, oo, rfl, -, hc⟩
      · omega
      have HPut := Lib.hid (hc k hlt)
      clear hc
      have hbk := HB.out k hlt
      obtain ⟨da, dc, hdv, hdd⟩ := HD.out k hlt
      rcases hdd with h0 | ⟨bd, od, rfl, hcd⟩
      · omega
      have HDv := Lib.hid hdv
      have HCD := Lib.hid hcd
      clear hdv hcd
      obtain ⟨m, hm⟩ : ∃ m, 128 * bbl k = m := ⟨_, rfl⟩
      have wm : IntKind.i64.wrap (128 * (bbl k : Int)) = (m : Int) := by subst hm; go_arith
      have hmL : m + 128 ≤ L := by have := HLn.out; omega
      have HM := Lib.hid hm
      have HSet : Hid (∀ j, (bytesL L (midN x bbl bf k j)).set (m + j) (.int .u8 (bf k j)) = bytesL L (midN x bbl bf k (j + 1))) := fun j => by rw [← hm]; exact mid_set x bbl bf k j L
      have i1 : (0 : Int) ≤ (k : Int) := by omega
      have i2' : (k : Int) < (N : Int) := by omega
      have HRR := Lib.hid HR.out
      clear hm hbk
      go_wp2
      go_loopw [7] (fun s7 wq => ∃ j : Nat, j ≤ 128 ∧ s7 = .int .i64 j ∧ Hid (wq.ownsRow W.heap.size 5 1 (.slice (some ⟨g, 0, none⟩) L gc) L (bytesL L (midN x bbl bf k j)) ∧ Below W.heap.size W wq)) (fun s7 _ => 128 - (intOf s7).toNat)
      case atStart => exact ⟨0, Nat.zero_le _, rfl, by rw [mid_0]; exact HRR.out.1, HRR.out.2⟩
      case round =>
        obtain ⟨j, hj, rfl, HQ⟩ := hrel
        by_cases hjl : j < 128
        · have c1 : wr.cell? ⟨ob, oo + k * 2, none⟩ = some (.int .i64 (bbl k)) := by rw [HQ.out.2.cell (p := ⟨ob, oo + k * 2, none⟩) (World.block_lt_of_cell? W _ HPut.out.1)]; exact HPut.out.1
          have c2 : wr.cell? ⟨ob, oo + k * 2 + 1, none⟩ = some (.slice (some ⟨bd, od, none⟩) 128 dc) := by rw [HQ.out.2.cell (p := ⟨ob, oo + k * 2 + 1, none⟩) (World.block_lt_of_cell? W _ HPut.out.2), HPut.out.2, HDv.out]
          have c3 : wr.cell? ⟨bd, od + j, none⟩ = some (.int .u8 (bf k j)) := by rw [HQ.out.2.cell (p := ⟨bd, od + j, none⟩) (World.block_lt_of_cell? W _ (HCD.out j hjl))]; exact HCD.out j hjl
          obtain ⟨q, hq⟩ : ∃ q, m + j = q := ⟨_, rfl⟩
          have hqL : q < L := by omega
          have hS := HSet.out j
          rw [hq] at hS
          have HS := Lib.hid hS
          have wq : IntKind.i64.wrap ((m : Int) + (j : Int)) = (q : Int) := by subst hq; go_arith
          obtain ⟨c4, c5⟩ := own_cellN HQ.out.1 (k := q) (u := .int .u8 (midN x bbl bf k j q)) (by rw [bytesL_get _ _ _ hqL])
          have j1 : (0 : Int) ≤ (j : Int) := by omega
          have j2 : (j : Int) < 128 := by omega
          have j3 : (0 : Int) ≤ (q : Int) := by omega
          have j4 : (q : Int) < (L : Int) := by omega
          clear hS hq
          go_wp2
          go_region
          go_wp2
          go_roundw
          case rel => exact ⟨j + 1, by omega, by go_num, by rw [← HS.out]; exact own_set (own_keep (by go_grown) HQ.out.1) _ _, Below.setCell (bdn HQ.out.2 _) HG.out _⟩
          case measure => simp [intOf]; omega
        · obtain rfl : j = 128 := by omega
          go_wp2
          go_roundw
          case rel => exact ⟨k + 1, by omega, by go_num, by rw [← mid_all]; exact HQ.out.1, HQ.out.2⟩
          case measure => simp [intOf]; omega
    · obtain rfl : k = N := by omega
      go_wp2
      go_ret
      exact ⟨g, gc, rfl, HR.out.1, HR.out.2⟩
end Go.Proofs.Ytgkkmdebpekckaa
