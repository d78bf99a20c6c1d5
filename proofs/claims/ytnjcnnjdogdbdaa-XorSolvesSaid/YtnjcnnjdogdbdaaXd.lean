/- The contracts of sum, Clone, Value, Nought, Of, Even. Conditions: as stated at each. -/
import Derived.Test.YtnjcnnjdogdbdaaXc
import Derived.WalkSpells
namespace Go.Proofs.Ytnjcnnjdogdbdaa
open Go.RowKit
theorem Try.info5 : (Try.prog.info? 5).map (fun i => (i.zero, i.size, i.bytes)) = some (some (.int .u8 0), 1, 1) := by kernel_rfl
theorem made_zero (N : Nat) : madeCells (Value.int .u8 0).cells N = arrB N (fun _ => 0) := by
  simp [madeCells, arrB, Value.cells]
  apply Array.ext <;> simp [Nat.mod_one]
theorem make_bytes (w : World) (N : Nat) (h : N ≤ 281474976710656) : (Instr.makeSlice 25 (.int .i64 (N : Int)) (.int .i64 (N : Int))).run Try.prog w = .ok (.slice (some ⟨w.heap.size, 0, none⟩) N N) (w.alloc (.cells (arrB N (fun _ => 0)) 5)) := by
  obtain ⟨i0, hi, hz0, hz1, hz2⟩ := info_parts Try.info5
  have := run_make (P := Try.prog) w 25 5 i0 (.int .u8 0) Try.underlying25 hi hz0 .i64 .i64 N N (by omega) (by omega) (by rw [hz2]; omega) (by omega)
  rw [this, hz1, Nat.mul_one, ← made_zero N]
  simp
theorem sum_nil (a : Option Addr) (cap : Nat) (w : World) : Calls Try.prog 61 #[.slice a 0 cap] w fun e w' => e = .returned (.tuple #[.pointer none, .int .u16 1]) ∧ w = w' := by
  go_enter Try.func61, Try.ntmps61
  go_wp2
  go_ret2
  exact ⟨rfl, rfl⟩
def SumP (N j : Nat) (L : Nat) (a : Nat → Nat) (w : World) (e : Ending) (w' : World) : Prop :=
  ((j = N ∧ ∃ sb g, e = .returned (.tuple #[.pointer (some ⟨sb, 0, none⟩), .int .u16 0]) ∧ SumS w' sb g L a N ∧ w.heap.size ≤ sb ∧ w.heap.size ≤ g) ∨ (j ≠ N ∧ e = .returned (.tuple #[.pointer none, .int .u16 4]))) ∧ Below w.heap.size w w'
set_option maxHeartbeats 400000 in
theorem sum_any (v : Value) (N : Nat) (rv : Nat → Value) (n : Nat → Nat) (h : Nat → Nat → Nat) (w : World) (hr : Rows2 w v N rv n h) (hL : n 0 ≤ 200000) (hN : N ≤ 200000) (h0 : 0 < N) (j : Nat) (hj : j ≤ N) (hjL : ∀ i, i < j → n i = n 0) (hend : j = N ∨ n j ≠ n 0) :
    Calls Try.prog 61 #[v] w (SumP N j (n 0) (acc (fun _ => 0) h N) w) := by
  have HR := Lib.hid hr
  obtain ⟨a, cap, rfl, hl⟩ := hr.l
  rcases hl with hl | ⟨b, o, rfl, hc⟩
  · omega
  have hcell : w.cell? ⟨b, o, none⟩ = some (rv 0) := hc 0 h0
  obtain ⟨av, capv, hv, -⟩ := hr.b 0 h0
  rw [hv] at hcell
  have HJ := Lib.hid hjL
  have HE := Lib.hid hend
  clear hr hc hv hjL hend
  have hN0 : ((N : Int) == 0) = false := by simp; omega
  have hmk := fun w => make_bytes w (n 0) (by omega)
  go_enter Try.func61, Try.ntmps61
  go_wp2_with fail
  refine (each_any _ N rv n h (w.heap.size + 1) w.heap.size (n 0) (fun _ => 0) w _ HR.out (bal (bal (Below.refl _ _) _) _) ?hs ?hg ?hS hL hN j hj HJ.out HE.out).mono ?_
  case hs => exact Nat.le_succ _
  case hg => exact Nat.le_refl _
  case hS => exact ⟨by omega, hn2 _ _ _, hn1 _ _ _, fun _ _ => by omega⟩
  rintro e w1 ⟨rfl, hS1, hB1⟩
  have hbel : Below w.heap.size w w1 := (bal (bal (Below.refl _ _) _) _).trans (hB1.below (Nat.le_succ _) (Nat.le_refl _) (by simp; omega))
  by_cases hjN : j = N
  · rw [if_pos hjN]
    have HS1 := Lib.hid (hS1 hjN)
    have HJN := Lib.hid hjN
    clear hS1 hB1 hjN
    go_wp2
    go_ret2
    exact ⟨.inl ⟨HJN.out, _, _, rfl, HS1.out, Nat.le_succ _, Nat.le_refl _⟩, hbel⟩
  · rw [if_neg hjN]
    clear hS1 hB1
    go_wp2
    go_ret2
    exact ⟨.inr ⟨hjN, rfl⟩, hbel⟩
def bytesL (L : Nat) (f : Nat → Nat) : List Value := (List.range L).map fun k => Value.int .u8 (f k)
theorem bytesL_len (L : Nat) (f : Nat → Nat) : (bytesL L f).length = L := by simp [bytesL]
theorem bytesL_get (L : Nat) (f : Nat → Nat) (k : Nat) (h : k < L) : (bytesL L f)[k]? = some (.int .u8 (f k)) := by simp [bytesL, h]
def CloneP (L : Nat) (f : Nat → Nat) (w : World) (e : Ending) (w' : World) : Prop :=
  ∃ v, e = .returned v ∧ w'.ownsRow w.heap.size 5 1 v L (bytesL L f) ∧ Below w.heap.size w w'
set_option maxRecDepth 100000 in
set_option maxHeartbeats 400000 in
theorem clone_any (b o L cap : Nat) (f : Nat → Nat) (w : World) (hc : ∀ k, k < L → w.cell? ⟨b, o + k, none⟩ = some (.int .u8 (f k))) (hL : L ≤ 200000) :
    Calls Try.prog 58 #[.slice (some ⟨b, o, none⟩) L cap] w (CloneP L f w) := by
  have HC := Lib.hid hc
  clear hc
  obtain ⟨i0, hi, hz0, hz1, hz2⟩ := info_parts Try.info5
  have hnil := fun w => Lib.run_eql_slice_nil (P := Try.prog) w 25 5 (some ⟨b, o, none⟩) L cap 0 0 Try.underlying25
  go_enter Try.func58, Try.ntmps58
  go_wp2_with (first | (at_builtin; refine wpList_append_own _ rfl _ _ 25 rfl w.heap.size 5 i0 (.int .u8 0) 1 1 Try.underlying25 hi hz0 hz1 hz2 rfl (by decide) _ 0 [] rfl (World.ownsRow_made w #[] 0 (Nat.le_refl _) (by decide) rfl) ⟨b, o, none⟩ L cap (bytesL L f) rfl (by rw [bytesL_len, Nat.mul_one]) ?c1 ?c2 ?c3 ?c4 ?c5 ?_))
  case c1 =>
    intro q u hq
    by_cases hlt : q < L
    · rw [bytesL_get _ _ _ hlt] at hq
      have e : (⟨b, o, none⟩ : Addr).add q = ⟨b, o + q, none⟩ := by unfold Addr.add; split <;> simp_all
      rw [e, World.cell?_alloc_lt _ _ _ (World.block_lt_of_cell? w _ (HC.out q hlt)), HC.out q hlt]
      exact hq
    · rw [List.getElem?_eq_none (by rw [bytesL_len]; omega)] at hq
      cases hq
  case c2 =>
    intro u hu
    simp only [bytesL, List.mem_map] at hu
    obtain ⟨q, _, rfl⟩ := hu
    rfl
  case c3 => unfold maxLen; omega
  case c4 => omega
  case c5 => simp
  intro v' w' hown hgr _
  have hbel : Below w.heap.size w w' := (bal (Below.refl _ _) _).grown hgr (by simp) (fun k hk => by simp [Value.ownBlock] at hk; omega)
  clear hgr
  go_wp2
  go_ret
  exact ⟨_, rfl, hown, hbel⟩
end Go.Proofs.Ytnjcnnjdogdbdaa
