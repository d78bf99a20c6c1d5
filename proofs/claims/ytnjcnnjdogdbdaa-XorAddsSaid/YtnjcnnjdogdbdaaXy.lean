/- New and Add, the program's and the reference's; Count. Conditions: as stated at each. -/
import Derived.Test.YtnjcnnjdogdbdaaXx
namespace Go.Proofs.Ytnjcnnjdogdbdaa
open Go.RowKit
def NewBad (w : World) (e : Ending) (w' : World) : Prop := e = .returned (.tuple #[.pointer none, .int .u16 1]) ∧ Below w.heap.size w w'
theorem new_bad (a : Int) (w : World) (h : a < 0 ∨ 4096 < a) : Calls Try.prog 32 #[.int .i64 a] w (NewBad w) := by
  rcases h with h | h
  · go_enter Try.func32, Try.ntmps32
    go_wp2
    go_ret2
    exact ⟨rfl, Below.refl _ _⟩
  · have h2 : ¬ a < 0 := by omega
    go_enter Try.func32, Try.ntmps32
    go_wp2
    go_ret2
    exact ⟨rfl, Below.refl _ _⟩
def NewOk (L : Nat) (w : World) (e : Ending) (w' : World) : Prop := ∃ sb g, e = .returned (.tuple #[.pointer (some ⟨sb, 0, none⟩), .int .u16 0]) ∧ SumS w' sb g L (fun _ => 0) 0 ∧ w.heap.size ≤ sb ∧ w.heap.size ≤ g ∧ Below w.heap.size w w'
theorem new_ok (L : Nat) (w : World) (h : L ≤ 4096) : Calls Try.prog 32 #[.int .i64 L] w (NewOk L w) := by
  have hmk := fun w => make_bytes w L (by omega)
  have h2 : ¬ (L : Int) < 0 := by omega
  go_enter Try.func32, Try.ntmps32
  go_wp2
  go_ret2
  exact ⟨w.heap.size + 1, w.heap.size, rfl, ⟨by omega, hn2 _ _ _, hn1 _ _ _, fun _ _ => by omega⟩, Nat.le_succ _, Nat.le_refl _, bal (bal (Below.refl _ _) _) _⟩
/-- The reference's sum at block rb: its bytes F, in the block that q names, so many added. -/
def RefS (w : World) (rb L : Nat) (F : Nat → Nat) (m : Nat) (q : Option Nat) : Prop :=
  ∃ bv, w.heap[rb]? = some (.cells #[bv, .int .i64 m] 70 (0, 0)) ∧ w.ownsRow 0 5 1 bv L (bytesL L F) ∧ bv.ownBlock = q ∧ q ≠ some rb
theorem RefS.out {S : Nat → Prop} {w w1 : World} {rb L : Nat} {F : Nat → Nat} {m : Nat} {q : Option Nat} (h : RefS w rb L F m q) (ho : Out S w w1) (h1 : ¬ S rb) (h2 : ∀ k, q = some k → ¬ S k) : RefS w1 rb L F m q := by
  obtain ⟨bv, a, b, c, d⟩ := h
  exact ⟨bv, ho.heap a h1, ho.own b fun k hk => h2 k (c ▸ hk), c, d⟩
theorem RefS.keep {w w1 : World} {rb L : Nat} {F : Nat → Nat} {m : Nat} {q : Option Nat} (h : RefS w rb L F m q) (hb : Below w.heap.size w w1) : RefS w1 rb L F m q := h.out (S := fun _ => False) (Out.of_below hb) id fun _ _ => id
theorem RefS.lt {w : World} {rb L : Nat} {F : Nat → Nat} {m : Nat} {q : Option Nat} (h : RefS w rb L F m q) : rb < w.heap.size ∧ ∀ k, q = some k → k < w.heap.size := by
  obtain ⟨bv, a, b, c, d⟩ := h
  exact ⟨lt_of_block a, fun k hk => (b.lt k (c.trans hk)).2⟩
theorem refnew_bad (a : Int) (w : World) (h : a < 0 ∨ 4096 < a) : Calls Try.prog 33 #[.int .i64 a] w fun e w' => e = .returned (.pointer none) ∧ Below w.heap.size w w' := by
  rcases h with h | h
  · go_enter Try.func33, Try.ntmps33
    go_wp2
    go_ret
    exact ⟨rfl, Below.refl _ _⟩
  · have h2 : ¬ a < 0 := by omega
    go_enter Try.func33, Try.ntmps33
    go_wp2
    go_ret
    exact ⟨rfl, Below.refl _ _⟩
def RefOk (L : Nat) (w : World) (e : Ending) (w' : World) : Prop := ∃ rb q, e = .returned (.pointer (some ⟨rb, 0, none⟩)) ∧ RefS w' rb L (fun _ => 0) 0 q ∧ w.heap.size ≤ rb ∧ (∀ k, q = some k → w.heap.size ≤ k) ∧ Below w.heap.size w w'
theorem refnew_ok (L : Nat) (w : World) (h : L ≤ 4096) : Calls Try.prog 33 #[.int .i64 L] w (RefOk L w) := by
  have hmk := fun w => make_bytes w L (by omega)
  have h2 : ¬ (L : Int) < 0 := by omega
  go_enter Try.func33, Try.ntmps33
  go_wp2
  go_ret
  refine ⟨w.heap.size + 1, some w.heap.size, rfl, ⟨_, hn2 _ _ _, ⟨by rw [bytesL_len, Nat.mul_one], .inr ⟨w.heap.size, L, _, rfl, Nat.zero_le _, hn1 _ _ _, Nat.le_refl _, by unfold maxLen; omega, by rw [arrB_size, Nat.mul_one], ?_⟩⟩, rfl, by simp⟩, Nat.le_succ _, fun k hk => by cases hk; exact Nat.le_refl _, bal (bal (Below.refl _ _) _) _⟩
  rw [Nat.mul_one, List.take_of_length_le (by simp [arrB])]
  simp [arrB, bytesL]
theorem count_any (sb g L : Nat) (f : Nat → Nat) (many : Nat) (w : World) (hS : SumS w sb g L f many) : Calls Try.prog 38 #[.pointer (some ⟨sb, 0, none⟩)] w fun e w' => e = .returned (.int .i64 many) ∧ w' = w := by
  obtain ⟨c0, f0, z0⟩ := cr hS.hs
  clear hS
  go_enter Try.func38, Try.ntmps38
  go_wp2
  go_ret
  exact ⟨rfl, rfl⟩
theorem noughtQ (sb g L : Nat) (f : Nat → Nat) (many : Nat) (w : World) (hS : SumS w sb g L f many) (hL : L ≤ 200000) : Calls Try.prog 39 #[.pointer (some ⟨sb, 0, none⟩)] w fun e w' => e = .returned (.bool (allZ L f)) ∧ w' = w :=
  (nought_any sb g L f many w hS hL).mono fun _ _ h => ⟨h.1, h.2.symm⟩
set_option maxHeartbeats 400000 in
theorem refnoughtQ (v : Value) (L : Nat) (f : Nat → Nat) (w : World) (hv : Bts w v L f) (hL : L ≤ 200000) :
    Calls Try.prog 40 #[v] w fun e w' => e = .returned (.bool (allZ L f)) ∧ w' = w := by
  obtain ⟨a, cap, rfl, hc⟩ := hv
  have HC := Lib.hid hc
  clear hc
  go_enter Try.func40, Try.ntmps40
  go_wp2
  go_loop [3] (fun s3 => ∃ k : Nat, k ≤ L ∧ s3 = .int .i64 k ∧ ∀ i, i < k → f i = 0) (fun s3 => L - (intOf s3).toNat)
  case atStart => exact ⟨0, by omega, rfl, fun _ h => by omega⟩
  case round =>
    obtain ⟨k, hk, rfl, hz⟩ := hrel
    have HZ := Lib.hid hz
    clear hz
    by_cases hlt : k < L
    · rcases HC.out with h0 | ⟨b, o, rfl, hc⟩
      · omega
      have d1 := hc k hlt
      clear hc
      by_cases hf : f k = 0
      · have hb : ((f k : Int) != 0) = false := by simp [hf]
        have HF := Lib.hid hf
        clear hf
        go_wp2
        go_round
        case rel =>
          refine ⟨k + 1, by omega, by go_num, fun i hi => ?_⟩
          by_cases e : i = k
          · subst e; exact HF.out
          · exact HZ.out i (by omega)
        case measure => simp [intOf]; omega
      · have hb : ((f k : Int) != 0) = true := by simp; omega
        have HF := Lib.hid hf
        clear hf
        go_wp2
        go_ret
        exact ⟨ret_bool (allZ_false k hlt HF.out).symm, rfl⟩
    · obtain rfl : k = L := by omega
      go_wp2
      go_ret
      exact ⟨ret_bool (allZ_true HZ.out).symm, rfl⟩
theorem refadd_bad (v : Value) (n : Nat) (f : Nat → Nat) (rb L : Nat) (F : Nat → Nat) (m : Nat) (q : Option Nat) (w : World) (hR : RefS w rb L F m q) (hv : Bts w v n f) (hne : n ≠ L) :
    Calls Try.prog 36 #[.pointer (some ⟨rb, 0, none⟩), v] w fun e w' => e = .returned (.int .u16 4) ∧ Below w.heap.size w w' := by
  obtain ⟨a, cap, rfl, -⟩ := hv
  obtain ⟨bv, hb, ho, -, -⟩ := hR
  obtain ⟨ba, bc, rfl, -, -⟩ := own_form ho
  obtain ⟨c0, f0, z0⟩ := cr hb
  have hbn : ((n : Int) != (L : Int)) = true := by rw [bne_iff_ne]; omega
  clear hb ho
  go_enter Try.func36, Try.ntmps36
  go_wp2
  go_ret
  exact ⟨rfl, Below.refl _ _⟩
def RefAdd (w : World) (rb L : Nat) (F : Nat → Nat) (m : Nat) (e : Ending) (w' : World) : Prop := e = .returned (.int .u16 0) ∧ ∃ q, RefS w' rb L F m q ∧ (∀ k, q = some k → w.heap.size ≤ k) ∧ Out (fun k => k = rb) w w'
set_option maxHeartbeats 400000 in
theorem refadd_ok (v : Value) (f : Nat → Nat) (rb L : Nat) (F : Nat → Nat) (m : Nat) (q : Option Nat) (w : World) (hR : RefS w rb L F m q) (hv : Bts w v L f) (hf : Lt L f) (hF : Lt L F) (hL : L ≤ 200000) (hm : m ≤ 200000) :
    Calls Try.prog 36 #[.pointer (some ⟨rb, 0, none⟩), v] w (RefAdd w rb L (xo F f) (m + 1)) := by
  obtain ⟨bv, hb, ho, hq, hqr⟩ := hR
  have HOr := Lib.hid ((or_any _ 2 _ _ _ L _ (rows2 w bv v L L F f (ownBts ho) hv hF hf) hL (by omega) (by omega) (two rfl rfl)))
  rw [acc2] at HOr
  obtain ⟨a, cap, rfl, -⟩ := hv
  obtain ⟨ba, bc, rfl, -, -⟩ := own_form ho
  obtain ⟨c0, f0, z0⟩ := cr hb
  have hbn : ((L : Int) != (L : Int)) = false := by simp
  have HB := Lib.hid hb
  clear hb ho hq hf hF
  go_enter Try.func36, Try.ntmps36
  go_wp2_with fail
  refine HOr.out.mono ?_
  rintro e w1 ⟨v1, rfl, hown, hb⟩
  have hbw : Below w.heap.size w w1 := via (bal (Below.refl w.heap.size w) _) hb
  have hheap := (hbw.block _ (lt_of_block HB.out)).trans HB.out
  obtain ⟨c1, f1, z1⟩ := cr hheap
  have hlt : ∀ k, v1.ownBlock = some k → w.heap.size ≤ k := fun k hk => by have := (hown.lt k hk).1; simp at this; omega
  have HO := Lib.hid hown
  have HBW := Lib.hid hbw
  have HH := Lib.hid hheap
  have HLT := Lib.hid hlt
  obtain ⟨xa, xc, rfl, -, -⟩ := own_form hown
  clear hown hb hbw hheap c0 f0 hlt
  go_wp2
  go_ret
  have hne : (Value.slice xa L xc).ownBlock ≠ some rb := fun e => by have := HLT.out rb e; omega
  refine ⟨rfl, _, ⟨.slice xa L xc, ?_, ?_, rfl, hne⟩, HLT.out, ?_⟩
  · rw [heap_setCell_same _ rb 1 _ 70 _ (heap_setCell_same _ rb 0 _ 70 _ HH.out)]
    rfl
  · exact ownsRow_setCell_other (ownsRow_setCell_other (own_base0 HO.out) hne _) hne _
  · exact Out.setCell (S := fun k => k = rb) (Out.setCell (S := fun k => k = rb) (Out.of_below HBW.out) (fun _ => rfl) _) (fun _ => rfl) _
end Go.Proofs.Ytnjcnnjdogdbdaa
