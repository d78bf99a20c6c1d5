/- lay: a batch is laid in. Conditions: as stated at each. -/
import Derived.Test.YtgkkmdebpekckaaMe
namespace Go.Proofs.Ytgkkmdebpekckaa
open Go.RowKit
/-- The bytes x, with the first N puts laid in: put i is at block bl i and has the bytes f i. -/
def layN (x : Nat → Nat) (bl : Nat → Nat) (f : Nat → Nat → Nat) : Nat → Nat → Nat
  | 0, p => x p
  | k + 1, p => if 128 * bl k ≤ p ∧ p < 128 * bl k + 128 then f k (p - 128 * bl k) else layN x bl f k p
theorem lay_splice (n k : Nat) (x : Nat → Nat) (bl : Nat → Nat) (f : Nat → Nat → Nat) (h : bl k < n) : splice (bytesL (128 * n) (layN x bl f k)) (128 * bl k) (bytesL 128 (f k)) = bytesL (128 * n) (layN x bl f (k + 1)) := by
  apply List.ext_getElem?
  intro p
  rw [splice_get _ _ _ _ (by rw [bytesL_len, bytesL_len]; omega), bytesL_len]
  by_cases hp : p < 128 * n
  · rw [bytesL_get _ _ _ hp]
    by_cases h1 : 128 * bl k ≤ p ∧ p < 128 * bl k + 128
    · rw [if_pos h1, bytesL_get _ _ _ (by omega), bytesL_get _ _ _ hp]
      simp only [layN]
      rw [if_pos h1]
    · rw [if_neg h1, bytesL_get _ _ _ hp]
      simp only [layN]
      rw [if_neg h1]
  · rw [if_neg (by omega), List.getElem?_eq_none (by rw [bytesL_len]; omega), List.getElem?_eq_none (by rw [bytesL_len]; omega)]
/-- What lay does: the row holds the puts laid in; nothing else that was is touched. -/
def LayP (B g n cap : Nat) (x : Nat → Nat) (bl : Nat → Nat) (f : Nat → Nat → Nat) (N : Nat) (w : World) (e : Ending) (w' : World) : Prop :=
  e = .returned (.tuple #[]) ∧ w'.ownsRow B 5 1 (.slice (some ⟨g, 0, none⟩) (128 * n) cap) (128 * n) (bytesL (128 * n) (layN x bl f N)) ∧ Out (fun b => b = g) w w'
theorem size5 : (Try.prog.info? 5).map (·.size) = some 1 := by kernel_rfl
set_option maxRecDepth 100000 in
set_option maxHeartbeats 800000 in
theorem lay_any (B g n cap : Nat) (x : Nat → Nat) (v : Value) (N : Nat) (bl : Nat → Nat) (dv : Nat → Value) (f : Nat → Nat → Nat) (w : World)
    (hrow : w.ownsRow B 5 1 (.slice (some ⟨g, 0, none⟩) (128 * n) cap) (128 * n) (bytesL (128 * n) x)) (h : PtsX (fun b => b = g) w v N (fun i => (bl i : Int)) dv) (hd : ∀ i, i < N → BtsX (fun b => b = g) w (dv i) 128 (f i)) (hbl : ∀ i, i < N → bl i < n)
    (hN : N ≤ 65536) (hn : n ≤ 61440) : Calls Try.prog 24 #[.slice (some ⟨g, 0, none⟩) (128 * n) cap, v] w (LayP B g n cap x bl f N w) := by
  have HP := Lib.hid h
  have HD := Lib.hid hd
  have HB := Lib.hid hbl
  have HRow := Lib.hid hrow
  obtain ⟨a, cp, rfl, -⟩ := h
  have hcap : 128 * n ≤ cap := by
    rcases hrow.2 with ⟨h, _⟩ | ⟨_, _, _, h, _, _, h2, _⟩
    · cases h
    · cases h; exact h2
  clear hd hbl hrow
  obtain ⟨L, hL⟩ : ∃ L, 128 * n = L := ⟨_, rfl⟩
  rw [hL] at HRow hcap ⊢
  go_enter Try.func24, Try.ntmps24
  go_wp2
  go_loopw [8] (fun i wr => ∃ k : Nat, k ≤ N ∧ i = .int .i64 k ∧ Hid (wr.ownsRow B 5 1 (.slice (some ⟨g, 0, none⟩) L cap) L (bytesL L (layN x bl f k)) ∧ Out (fun b => b = g) w wr)) (fun i _ => N - (intOf i).toNat)
  case atStart => exact ⟨0, Nat.zero_le _, rfl, HRow.out, Out.refl _ _⟩
  case round =>
    obtain ⟨k, hk, rfl, HR⟩ := hrel
    by_cases hlt : k < N
    · obtain ⟨_, _, hv0, h1⟩ := HP.out.out HR.out.2 (fun _ _ h => h)
      cases hv0
      rcases h1 with h0 | ⟨b, o, rfl, hbg, hc⟩
      · omega
      obtain ⟨c1, c2⟩ := hc k hlt
      obtain ⟨_, cd, hv, hd⟩ := (HD.out k hlt).out HR.out.2 (fun _ _ h => h)
      rcases hd with h0 | ⟨bd, od, rfl, hbd, hcd⟩
      · omega
      rw [hv] at c2
      have HCD := Lib.hid hcd
      have HBG := Lib.hid hbg
      have hbk := HB.out k hlt
      have i1 : (0 : Int) ≤ (k : Int) := by omega
      have i2 : (k : Int) < (N : Int) := by omega
      have HLS := Lib.hid (lay_splice n k x bl f hbk)
      rw [hL] at HLS
      obtain ⟨m, hm⟩ : ∃ m, 128 * bl k = m := ⟨_, rfl⟩
      have w1 : IntKind.i64.wrap (128 * (bl k : Int)) = (m : Int) := by subst hm; go_arith
      have j1 : m + 128 ≤ L := by omega
      have j2 : m ≤ L := by omega
      have j3 : ¬ cap = m := by omega
      rw [hm] at HLS
      have HM := Lib.hid hm
      have HLL := Lib.hid hL
      clear hm hL hbk
      clear hc hcd hv hbg hbd
      have HSrc : Hid (∀ w', Below wr.heap.size wr w' → ∀ j u, (bytesL 128 (f k))[j]? = some u → w'.cell? ((⟨bd, od, none⟩ : Addr).add j) = some u) := fun w' hb j u hj => by
        by_cases hj' : j < 128
        · rw [bytesL_get _ _ _ hj'] at hj
          rw [addk, hb.cell (p := ⟨bd, od + j, none⟩) (World.block_lt_of_cell? wr _ (HCD.out j hj')), HCD.out j hj']
          exact hj
        · rw [List.getElem?_eq_none (by rw [bytesL_len]; omega)] at hj
          cases hj
      go_wp2
      go_region_law (refine step_copy_lies _ rfl (.tmp 16) (.tmp 18) 66 25 rfl 5 B g L cap m (L - m) (cap - m) (bytesL L (layN x bl f k)) (own_keep (w := wr) (by go_grown) HR.out.1) ⟨bd, od, none⟩ 128 cd (bytesL 128 (f k)) Try.underlying66 size5 (by simp [Act.eval, Act.put]) (by simp [Act.eval, Act.put]) (by rw [bytesL_len]; exact (Nat.min_eq_left (by omega)).symm) (by rw [bytesL_len]; omega) (HSrc.out _ (by go_grown)) (bytesL_one _ _) ?_; intro w3 ho hout; have HO := Lib.hid ho; have HOut := Lib.hid hout; clear ho hout)
      all_goals go_wp2
      all_goals go_roundw
      all_goals first
        | (refine ⟨k + 1, by omega, by go_num, ?_, ?_⟩
           · rw [← HLS.out]; exact HO.out
           · exact ((HR.out.2.alloc _).drew).tr HOut.out)
        | (simp [intOf]; omega)
    · obtain rfl : k = N := by omega
      go_wp2
      go_end0
      have h1 := HR.out.1
      rw [← hL] at h1
      exact ⟨rfl, h1, HR.out.2⟩
end Go.Proofs.Ytgkkmdebpekckaa
