/- Views of byte lists and of lists of puts; the clones of byte lists. Conditions: as stated at each. -/
import Derived.Test.YtgkkmdebpekckaaMa
import Derived.Test.YtgkkmdebpekckaaOw
import Derived.WalkSpells
import Derived.WalkLawsBesides
namespace Go.Proofs.Ytgkkmdebpekckaa
open Go.RowKit
theorem Try.info5 : (Try.prog.info? 5).map (fun i => (i.zero, i.size, i.bytes)) = some (some (.int .u8 0), 1, 1) := by kernel_rfl
theorem Try.info47 : (Try.prog.info? 47).map (fun i => (i.zero, i.size, i.bytes)) = some (some (.agg #[.int .i64 0, .slice none 0 0]), 2, 32) := by kernel_rfl
theorem Try.info24 : (Try.prog.info? 24).map (fun i => (i.zero, i.size, i.bytes)) = some (some (.slice none 0 0), 1, 24) := by kernel_rfl
theorem Try.info25 : (Try.prog.info? 25).map (fun i => (i.zero, i.size, i.bytes)) = some (some (.slice none 0 0), 1, 24) := by kernel_rfl
theorem made_zero (N : Nat) : madeCells (Value.int .u8 0).cells N = arrB N (fun _ => 0) := by
  simp [madeCells, arrB, Value.cells]
  apply Array.ext <;> simp [Nat.mod_one]
def bytesL (L : Nat) (f : Nat → Nat) : List Value := (List.range L).map fun k => Value.int .u8 (f k)
theorem bytesL_len (L : Nat) (f : Nat → Nat) : (bytesL L f).length = L := by simp [bytesL]
theorem bytesL_get (L : Nat) (f : Nat → Nat) (k : Nat) (h : k < L) : (bytesL L f)[k]? = some (.int .u8 (f k)) := by simp [bytesL, h]
theorem bytesL_one (L : Nat) (f : Nat → Nat) : ∀ u ∈ bytesL L f, u.oneCell' = true := by
  intro u hu
  simp only [bytesL, List.mem_map] at hu
  obtain ⟨q, _, rfl⟩ := hu
  rfl
theorem bytesL_congr {L : Nat} {f g : Nat → Nat} (h : ∀ k, k < L → f k = g k) : bytesL L f = bytesL L g := by
  unfold bytesL
  apply List.map_congr_left
  intro x hx
  rw [h x (by simpa using hx)]
theorem addk (b o q : Nat) : (⟨b, o, none⟩ : Addr).add q = ⟨b, o + q, none⟩ := by unfold Addr.add; split <;> simp_all
def CloneP (L : Nat) (f : Nat → Nat) (w : World) (e : Ending) (w' : World) : Prop :=
  ∃ v, e = .returned v ∧ w'.ownsRow w.heap.size 5 1 v L (bytesL L f) ∧ Below w.heap.size w w'
set_option maxRecDepth 100000 in
set_option maxHeartbeats 400000 in
theorem clone21_any (b o L cap : Nat) (f : Nat → Nat) (w : World) (hc : ∀ k, k < L → w.cell? ⟨b, o + k, none⟩ = some (.int .u8 (f k))) (hL : L ≤ 140737488355328) :
    Calls Try.prog 21 #[.slice (some ⟨b, o, none⟩) L cap] w (CloneP L f w) := by
  have HC := Lib.hid hc
  clear hc
  obtain ⟨i0, hi, hz0, hz1, hz2⟩ := info_parts Try.info5
  have hnil := fun w => Lib.run_eql_slice_nil (P := Try.prog) w 25 5 (some ⟨b, o, none⟩) L cap 0 0 Try.underlying25
  go_enter Try.func21, Try.ntmps21
  go_wp2_with (first | (at_builtin; refine wpList_append_own _ rfl _ _ 25 rfl w.heap.size 5 i0 (.int .u8 0) 1 1 Try.underlying25 hi hz0 hz1 hz2 rfl (by decide) _ 0 [] rfl (World.ownsRow_made w #[] 0 (Nat.le_refl _) (by decide) rfl) ⟨b, o, none⟩ L cap (bytesL L f) rfl (by rw [bytesL_len, Nat.mul_one]) ?c1 (bytesL_one _ _) ?c3 ?c4 ?c5 ?_))
  case c1 =>
    intro q u hq
    by_cases hlt : q < L
    · rw [bytesL_get _ _ _ hlt] at hq
      rw [addk, World.cell?_alloc_lt _ _ _ (World.block_lt_of_cell? w _ (HC.out q hlt)), HC.out q hlt]
      exact hq
    · rw [List.getElem?_eq_none (by rw [bytesL_len]; omega)] at hq
      cases hq
  case c3 => unfold maxLen; omega
  case c4 => omega
  case c5 => simp
  intro v' w' hown hgr _
  have hbel : Below w.heap.size w w' := (bal (Below.refl _ _) _).grown hgr (by simp) (fun k hk => by simp [Value.ownBlock] at hk; omega)
  clear hgr
  go_wp2
  go_ret
  exact ⟨_, rfl, hown, hbel⟩
set_option maxRecDepth 100000 in
set_option maxHeartbeats 400000 in
theorem clone60_any (b o L cap : Nat) (f : Nat → Nat) (w : World) (hc : ∀ k, k < L → w.cell? ⟨b, o + k, none⟩ = some (.int .u8 (f k))) (hL : L ≤ 140737488355328) :
    Calls Try.prog 60 #[.slice (some ⟨b, o, none⟩) L cap] w (CloneP L f w) := by
  have HC := Lib.hid hc
  clear hc
  obtain ⟨i0, hi, hz0, hz1, hz2⟩ := info_parts Try.info5
  have hnil := fun w => Lib.run_eql_slice_nil (P := Try.prog) w 66 5 (some ⟨b, o, none⟩) L cap 0 0 Try.underlying66
  go_enter Try.func60, Try.ntmps60
  go_wp2_with (first | (at_builtin; refine wpList_append_own _ rfl _ _ 66 rfl w.heap.size 5 i0 (.int .u8 0) 1 1 Try.underlying66 hi hz0 hz1 hz2 rfl (by decide) _ 0 [] rfl (World.ownsRow_made w #[] 0 (Nat.le_refl _) (by decide) rfl) ⟨b, o, none⟩ L cap (bytesL L f) rfl (by rw [bytesL_len, Nat.mul_one]) ?c1 (bytesL_one _ _) ?c3 ?c4 ?c5 ?_))
  case c1 =>
    intro q u hq
    by_cases hlt : q < L
    · rw [bytesL_get _ _ _ hlt] at hq
      rw [addk, World.cell?_alloc_lt _ _ _ (World.block_lt_of_cell? w _ (HC.out q hlt)), HC.out q hlt]
      exact hq
    · rw [List.getElem?_eq_none (by rw [bytesL_len]; omega)] at hq
      cases hq
  case c3 => unfold maxLen; omega
  case c4 => omega
  case c5 => simp
  intro v' w' hown hgr _
  have hbel : Below w.heap.size w w' := (bal (Below.refl _ _) _).grown hgr (by simp) (fun k hk => by simp [Value.ownBlock] at hk; omega)
  clear hgr
  go_wp2
  go_ret
  exact ⟨_, rfl, hown, hbel⟩
set_option maxRecDepth 100000 in
set_option maxHeartbeats 400000 in
theorem clone27_any (b o L cap : Nat) (f : Nat → Nat) (w : World) (hc : ∀ k, k < L → w.cell? ⟨b, o + k, none⟩ = some (.int .u8 (f k))) (hL : L ≤ 140737488355328) :
    Calls Try.prog 27 #[.slice (some ⟨b, o, none⟩) L cap] w (CloneP L f w) := by
  have HC := Lib.hid hc
  clear hc
  obtain ⟨i0, hi, hz0, hz1, hz2⟩ := info_parts Try.info5
  have hnil := fun w => Lib.run_eql_slice_nil (P := Try.prog) w 25 5 (some ⟨b, o, none⟩) L cap 0 0 Try.underlying25
  go_enter Try.func27, Try.ntmps27
  go_wp2_with (first | (at_builtin; refine wpList_append_own _ rfl _ _ 25 rfl w.heap.size 5 i0 (.int .u8 0) 1 1 Try.underlying25 hi hz0 hz1 hz2 rfl (by decide) _ 0 [] rfl (World.ownsRow_made w #[] 0 (Nat.le_refl _) (by decide) rfl) ⟨b, o, none⟩ L cap (bytesL L f) rfl (by rw [bytesL_len, Nat.mul_one]) ?c1 (bytesL_one _ _) ?c3 ?c4 ?c5 ?_))
  case c1 =>
    intro q u hq
    by_cases hlt : q < L
    · rw [bytesL_get _ _ _ hlt] at hq
      rw [addk, World.cell?_alloc_lt _ _ _ (World.block_lt_of_cell? w _ (HC.out q hlt)), HC.out q hlt]
      exact hq
    · rw [List.getElem?_eq_none (by rw [bytesL_len]; omega)] at hq
      cases hq
  case c3 => unfold maxLen; omega
  case c4 => omega
  case c5 => simp
  intro v' w' hown hgr _
  have hbel : Below w.heap.size w w' := (bal (Below.refl _ _) _).grown hgr (by simp) (fun k hk => by simp [Value.ownBlock] at hk; omega)
  clear hgr
  go_wp2
  go_ret
  exact ⟨_, rfl, hown, hbel⟩
end Go.Proofs.Ytgkkmdebpekckaa
