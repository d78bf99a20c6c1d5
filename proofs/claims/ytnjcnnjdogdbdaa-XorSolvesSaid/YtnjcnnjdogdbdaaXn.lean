/- SameBytes and First of lists up to 2^47 bytes; LentBytes, WholeBytes. Conditions: as stated at each. -/
import Derived.Test.YtnjcnnjdogdbdaaXm
import Derived.WalkLawsBesides
import Derived.Deep.AppendLies
namespace Go.Proofs.Ytnjcnnjdogdbdaa
open Go.RowKit
set_option maxHeartbeats 400000 in
theorem same_anyB (b o b' o' n c1 c2 : Nat) (f : Nat → Nat) (w : World) (hn : n ≤ 140737488355328) (h1 : ∀ k, k < n → w.cell? ⟨b, o + k, none⟩ = some (.int .u8 (f k))) (h2 : ∀ k, k < n → w.cell? ⟨b', o' + k, none⟩ = some (.int .u8 (f k))) :
    Calls Try.prog 22 #[.slice (some ⟨b, o, none⟩) n c1, .slice (some ⟨b', o', none⟩) n c2] w fun e w' => e = .returned (.bool true) ∧ Below w.heap.size w w' := by
  have H1 := Lib.hid h1
  have H2 := Lib.hid h2
  clear h1 h2
  go_enter Try.func22, Try.ntmps22
  go_wp2
  go_loopw [5] (fun i wr => ∃ k q : Nat, k ≤ n ∧ i = .int .i64 k ∧ wr = w.drewN q) (fun i _ => n - (intOf i).toNat)
  case atStart => exact ⟨0, 0, Nat.zero_le _, rfl, rfl⟩
  case round =>
    obtain ⟨k, q, hk, rfl, rfl⟩ := hrel
    by_cases hlt : k < n
    · have c1 := H1.out k hlt
      have c2 := H2.out k hlt
      have i1 : (0 : Int) ≤ (k : Int) := by omega
      have i2 : (k : Int) < (n : Int) := by omega
      go_wp2
      go_quiet (fail)
      go_wp2
      go_roundw
      case rel => exact ⟨k + 1, _, by omega, by go_num, rfl⟩
      case measure => simp [intOf]; omega
    · obtain rfl : k = n := by omega
      go_wp2
      go_returns
      exact ⟨rfl, bdn (Below.refl _ _) _⟩
theorem same_VB {w : World} {v1 v2 : Value} {n : Nat} {f : Nat → Nat} (hn : n ≤ 140737488355328) (h1 : Bts w v1 n f) (h2 : Bts w v2 n f) :
    Calls Try.prog 22 #[v1, v2] w fun e w' => e = .returned (.bool true) ∧ Below w.heap.size w w' := by
  obtain ⟨a, cap, rfl, h1⟩ := h1
  obtain ⟨a', cap', rfl, h2⟩ := h2
  rcases h1 with rfl | ⟨b, o, rfl, h1⟩
  · exact same_zero _ _ _ _ _
  · rcases h2 with rfl | ⟨b', o', rfl, h2⟩
    · exact same_zero _ _ _ _ _
    · exact same_anyB b o b' o' n _ _ f w hn h1 h2
set_option maxHeartbeats 800000 in
theorem first_anyB {w : World} {v1 v2 : Value} {n n' : Nat} {f g : Nat → Nat} (hn : n ≤ 140737488355328) (hn' : n' ≤ 140737488355328) (h1 : Bts w v1 n f) (h2 : Bts w v2 n' g) :
    Calls Try.prog 28 #[v1, v2] w (FirstP n n' f g w) := by
  obtain ⟨a, cap, rfl, h1⟩ := h1
  obtain ⟨a', cap', rfl, h2⟩ := h2
  have H1 := Lib.hid h1
  have H2 := Lib.hid h2
  clear h1 h2
  have key : ∀ m : Nat, ((n' < n ∧ m = n') ∨ (n = n' ∧ m = n) ∨ (n < n' ∧ m = n)) → Calls Try.prog 28 #[.slice a n cap, .slice a' n' cap'] w (FirstP n n' f g w) := by
    intro m hm
    have hmin : min n n' = m := by omega
    have hm1 : m ≤ n := by omega
    have hm2 : m ≤ n' := by omega
    have HM := Lib.hid hmin
    clear hmin
    rcases hm with ⟨hlt, rfl⟩ | ⟨rfl, rfl⟩ | ⟨hlt, rfl⟩
    · have hne : ((n : Int) == (m : Int)) = false := by simp; omega
      have HN : Hid (¬ n = m) := fun e => by omega
      go_enter Try.func28, Try.ntmps28
      go_wp2
      go_loopw [11] (fun i wr => ∃ k q : Nat, k ≤ m ∧ i = .int .i64 k ∧ wr = w.drewN q ∧ ∀ i, i < k → f i = g i) (fun i _ => m - (intOf i).toNat)
      case atStart => exact ⟨0, 0, Nat.zero_le _, rfl, rfl, fun _ h => by omega⟩
      case round =>
        obtain ⟨k, q, hk, rfl, rfl, heq⟩ := hrel
        have HE := Lib.hid heq
        clear heq
        by_cases hltk : k < m
        · rcases H1.out with h0 | ⟨b, o, rfl, hc1⟩
          · omega
          rcases H2.out with h0 | ⟨b', o', rfl, hc2⟩
          · omega
          have d1 := hc1 k (by omega)
          have d2 := hc2 k (by omega)
          clear hc1 hc2
          have i1 : (0 : Int) ≤ (k : Int) := by omega
          have i2 : (k : Int) < (n : Int) := by omega
          have i3 : (k : Int) < (m : Int) := by omega
          by_cases hfg : f k = g k
          · have hb : ((f k : Int) != (g k : Int)) = false := by simp [hfg]
            have HF := Lib.hid hfg
            clear hfg
            go_wp2
            go_quiet (fail)
            go_wp2
            go_roundw
            case rel =>
              refine ⟨k + 1, _, by omega, by go_num, rfl, fun i hi => ?_⟩
              by_cases e : i = k
              · subst e; exact HF.out
              · exact HE.out i (by omega)
            case measure => simp [intOf]; omega
          · have hb : ((f k : Int) != (g k : Int)) = true := by simp; omega
            have HF := Lib.hid hfg
            clear hfg
            go_wp2
            go_quiet (fail)
            go_wp2
            go_returns
            exact ⟨ret_int (firstV_at (by omega) (by omega) HE.out HF.out).symm, bdn (bdn (Below.refl _ _) _) _⟩
        · obtain rfl : k = m := by omega
          go_wp2
          go_returns
          refine ⟨ret_int ?_, bdn (Below.refl _ _) _⟩
          rw [firstV_none (by rw [HM.out]; exact HE.out)]
          rw [if_neg HN.out, HM.out]
    · have hne : ((m : Int) == (m : Int)) = true := by simp
      go_enter Try.func28, Try.ntmps28
      go_wp2
      go_loopw [11] (fun i wr => ∃ k q : Nat, k ≤ m ∧ i = .int .i64 k ∧ wr = w.drewN q ∧ ∀ i, i < k → f i = g i) (fun i _ => m - (intOf i).toNat)
      case atStart => exact ⟨0, 0, Nat.zero_le _, rfl, rfl, fun _ h => by omega⟩
      case round =>
        obtain ⟨k, q, hk, rfl, rfl, heq⟩ := hrel
        have HE := Lib.hid heq
        clear heq
        by_cases hltk : k < m
        · rcases H1.out with h0 | ⟨b, o, rfl, hc1⟩
          · omega
          rcases H2.out with h0 | ⟨b', o', rfl, hc2⟩
          · omega
          have d1 := hc1 k (by omega)
          have d2 := hc2 k (by omega)
          clear hc1 hc2
          have i1 : (0 : Int) ≤ (k : Int) := by omega
          have i2 : (k : Int) < (m : Int) := by omega
          have i3 : (k : Int) < (m : Int) := by omega
          by_cases hfg : f k = g k
          · have hb : ((f k : Int) != (g k : Int)) = false := by simp [hfg]
            have HF := Lib.hid hfg
            clear hfg
            go_wp2
            go_quiet (fail)
            go_wp2
            go_roundw
            case rel =>
              refine ⟨k + 1, _, by omega, by go_num, rfl, fun i hi => ?_⟩
              by_cases e : i = k
              · subst e; exact HF.out
              · exact HE.out i (by omega)
            case measure => simp [intOf]; omega
          · have hb : ((f k : Int) != (g k : Int)) = true := by simp; omega
            have HF := Lib.hid hfg
            clear hfg
            go_wp2
            go_quiet (fail)
            go_wp2
            go_returns
            exact ⟨ret_int (firstV_at (by omega) (by omega) HE.out HF.out).symm, bdn (bdn (Below.refl _ _) _) _⟩
        · obtain rfl : k = m := by omega
          go_wp2
          go_returns
          refine ⟨ret_int ?_, bdn (Below.refl _ _) _⟩
          rw [firstV_none (by rw [HM.out]; exact HE.out)]
          rw [if_pos rfl]
    · have hne : ((m : Int) == (n' : Int)) = false := by simp; omega
      have HN : Hid (¬ m = n') := fun e => by omega
      go_enter Try.func28, Try.ntmps28
      go_wp2
      go_loopw [11] (fun i wr => ∃ k q : Nat, k ≤ m ∧ i = .int .i64 k ∧ wr = w.drewN q ∧ ∀ i, i < k → f i = g i) (fun i _ => m - (intOf i).toNat)
      case atStart => exact ⟨0, 0, Nat.zero_le _, rfl, rfl, fun _ h => by omega⟩
      case round =>
        obtain ⟨k, q, hk, rfl, rfl, heq⟩ := hrel
        have HE := Lib.hid heq
        clear heq
        by_cases hltk : k < m
        · rcases H1.out with h0 | ⟨b, o, rfl, hc1⟩
          · omega
          rcases H2.out with h0 | ⟨b', o', rfl, hc2⟩
          · omega
          have d1 := hc1 k (by omega)
          have d2 := hc2 k (by omega)
          clear hc1 hc2
          have i1 : (0 : Int) ≤ (k : Int) := by omega
          have i2 : (k : Int) < (m : Int) := by omega
          have i3 : (k : Int) < (n' : Int) := by omega
          by_cases hfg : f k = g k
          · have hb : ((f k : Int) != (g k : Int)) = false := by simp [hfg]
            have HF := Lib.hid hfg
            clear hfg
            go_wp2
            go_quiet (fail)
            go_wp2
            go_roundw
            case rel =>
              refine ⟨k + 1, _, by omega, by go_num, rfl, fun i hi => ?_⟩
              by_cases e : i = k
              · subst e; exact HF.out
              · exact HE.out i (by omega)
            case measure => simp [intOf]; omega
          · have hb : ((f k : Int) != (g k : Int)) = true := by simp; omega
            have HF := Lib.hid hfg
            clear hfg
            go_wp2
            go_quiet (fail)
            go_wp2
            go_returns
            exact ⟨ret_int (firstV_at (by omega) (by omega) HE.out HF.out).symm, bdn (bdn (Below.refl _ _) _) _⟩
        · obtain rfl : k = m := by omega
          go_wp2
          go_returns
          refine ⟨ret_int ?_, bdn (Below.refl _ _) _⟩
          rw [firstV_none (by rw [HM.out]; exact HE.out)]
          rw [if_neg HN.out, HM.out]
  by_cases h1 : n' < n
  · exact key n' (.inl ⟨h1, rfl⟩)
  · by_cases h2 : n = n'
    · exact key n (.inr (.inl ⟨h2, rfl⟩))
    · exact key n (.inr (.inr ⟨by omega, rfl⟩))
theorem make_cap (w : World) (N : Nat) (h : N ≤ 281474976710656) : (Instr.makeSlice 25 (.int .i64 0) (.int .i64 (N : Int))).run Try.prog w = .ok (.slice (some ⟨w.heap.size, 0, none⟩) 0 N) (w.alloc (.cells (arrB N (fun _ => 0)) 5)) := by
  obtain ⟨i0, hi, hz0, hz1, hz2⟩ := info_parts Try.info5
  have := run_make (P := Try.prog) w 25 5 i0 (.int .u8 0) Try.underlying25 hi hz0 .i64 .i64 0 N (by omega) (by omega) (by rw [hz2]; omega) (by omega)
  rw [hz1, Nat.mul_one, Int.toNat_natCast] at this
  rw [this, made_zero N]
  rfl
def LentP (n : Nat) (f : Nat → Nat) (w : World) (e : Ending) (w' : World) : Prop :=
  ∃ g cap, e = .returned (.slice (some ⟨g, 0, none⟩) n cap) ∧ w'.ownsRow w.heap.size 5 1 (.slice (some ⟨g, 0, none⟩) (n + 2) cap) (n + 2) (bytesL n f ++ [.int .u8 91, .int .u8 92]) ∧ Below w.heap.size w w'
set_option maxRecDepth 100000 in
theorem run_append_empty (w : World) (b : Addr) (n cap : Nat) (h : n ≤ cap) (a : Option Addr) (c : Nat) : (Builtin.append_ #[25, 25] 25 #[.slice (some b) n cap, .slice a 0 c]).run Try.prog w = .ok (.slice (some b) n cap) w := by
  obtain ⟨i0, hi, hz0, hz1, hz2⟩ := info_parts Try.info5
  cases a with
  | none => simp [Builtin.append_, run_underlying Try.underlying25, sizeOf, typeInfo, hi, Builtin.lenOf, Builtin.firstCells, h, storeCells]
  | some a => simp [Builtin.append_, run_underlying Try.underlying25, sizeOf, typeInfo, hi, Builtin.lenOf, Builtin.firstCells, loadCells, loadCellsFrom, h, storeCells]
set_option maxRecDepth 100000 in
set_option maxHeartbeats 400000 in
theorem lent_nil (a : Option Addr) (cap : Nat) (f : Nat → Nat) (w : World) : Calls Try.prog 27 #[.slice a 0 cap] w (LentP 0 f w) := by
  obtain ⟨i0, hi, hz0, hz1, hz2⟩ := info_parts Try.info5
  have hmk : ∀ w, (Instr.makeSlice 25 (.int .i64 0) (.int .i64 2)).run Try.prog w = .ok (.slice (some ⟨w.heap.size, 0, none⟩) 0 2) (w.alloc (.cells (arrB 2 (fun _ => 0)) 5)) := fun w => make_cap w 2 (by omega)
  go_enter Try.func27, Try.ntmps27
  have HM := Lib.hid (World.ownsRow_made (base := w.heap.size) (e := 5) (size := 1) w (arrB 2 (fun _ => 0)) 2 (Nat.le_refl _) (by decide) (arrB_size _ _))
  go_wp2_with (first | (at_builtin; refine Lib.wpList_append_run _ rfl _ _ 25 25 rfl (.slice (some ⟨w.heap.size, 0, none⟩) 0 2) (.slice a 0 cap) rfl rfl _ _ (run_append_empty _ ⟨w.heap.size, 0, none⟩ 0 2 (by omega) a cap) ?_) | (at_builtin; refine wpList_append_own _ rfl _ _ 25 rfl w.heap.size 5 i0 (.int .u8 0) 1 1 Try.underlying25 hi hz0 hz1 hz2 rfl (by decide) _ 0 [] rfl (HM.out.alloc _) ⟨w.heap.size + 1, 0, none⟩ 2 2 [.int .u8 91, .int .u8 92] rfl rfl ?c1 ?c2 ?c3 ?c4 ?c5 ?_))
  case c1 =>
    intro q u hq
    have e : (⟨w.heap.size + 1, 0, none⟩ : Addr).add q = ⟨w.heap.size + 1, q, none⟩ := by unfold Addr.add; split <;> simp_all
    rw [e, ← World.size_alloc w (.cells (arrB 2 (fun _ => 0)) 5), cell_of_row _ _ _ _ 5 (0, 0) (heap_alloc_new _ _)]
    simpa using hq
  case c2 =>
    intro u hu
    simp only [List.mem_cons, List.not_mem_nil, or_false] at hu
    rcases hu with rfl | rfl <;> rfl
  case c3 => unfold maxLen; omega
  case c4 => omega
  case c5 => simp; omega
  intro v' w' hown hgr _
  obtain ⟨g, cp, rfl, hg, hlt⟩ := hown.form (by omega)
  have hbel : Below w.heap.size w w' := (bal (bal (Below.refl _ _) _) _).grown hgr (by simp; omega) (fun k hk => by simp [Value.ownBlock] at hk; omega)
  have HO := Lib.hid hown
  have HB := Lib.hid hbel
  clear hown hgr hbel
  go_wp2
  go_ret
  exact ⟨g, cp, rfl, HO.out, HB.out⟩
set_option maxRecDepth 100000 in
set_option maxHeartbeats 400000 in
theorem lent_some (b o n cap : Nat) (f : Nat → Nat) (w : World) (h0 : 0 < n) (hn : n ≤ 140737488351232) (hc : ∀ k, k < n → w.cell? ⟨b, o + k, none⟩ = some (.int .u8 (f k))) : Calls Try.prog 27 #[.slice (some ⟨b, o, none⟩) n cap] w (LentP n f w) := by
  obtain ⟨i0, hi, hz0, hz1, hz2⟩ := info_parts Try.info5
  have HC := Lib.hid hc
  clear hc
  have hwn : IntKind.i64.wrap ((n : Int) + 2) = ((n + 2 : Nat) : Int) := by go_arith
  have hmk : ∀ w, (Instr.makeSlice 25 (.int .i64 0) (.int .i64 ((n : Int) + 2))).run Try.prog w = .ok (.slice (some ⟨w.heap.size, 0, none⟩) 0 (n + 2)) (w.alloc (.cells (arrB (n + 2) (fun _ => 0)) 5)) := fun w => make_cap w (n + 2) (by omega)
  have HM := Lib.hid (World.ownsRow_made (base := w.heap.size) (e := 5) (size := 1) w (arrB (n + 2) (fun _ => 0)) (n + 2) (Nat.le_refl _) (by unfold maxLen; omega) (by rw [arrB_size, Nat.mul_one]))
  go_enter Try.func27, Try.ntmps27
  go_wp2_with (first | (at_builtin; refine wpList_append_own _ rfl _ _ 25 rfl w.heap.size 5 i0 (.int .u8 0) 1 1 Try.underlying25 hi hz0 hz1 hz2 rfl (by decide) _ 0 [] rfl HM.out ⟨b, o, none⟩ n cap (bytesL n f) rfl (by rw [bytesL_len, Nat.mul_one]) ?c1 ?c2 ?c3 ?c4 ?c5 ?_))
  case c1 =>
    intro q u hq
    by_cases hlt : q < n
    · rw [bytesL_get _ _ _ hlt] at hq
      have e : (⟨b, o, none⟩ : Addr).add q = ⟨b, o + q, none⟩ := by unfold Addr.add; split <;> simp_all
      rw [e, World.cell?_alloc_lt _ _ _ (World.block_lt_of_cell? w _ (HC.out q hlt)), HC.out q hlt]
      exact hq
    · rw [List.getElem?_eq_none (by rw [bytesL_len]; omega)] at hq
      cases hq
  case c2 =>
    intro u hu
    simp only [bytesL, List.mem_map] at hu
    obtain ⟨q, _, rfl⟩ := hu
    rfl
  case c3 => unfold maxLen; omega
  case c4 => omega
  case c5 => simp
  intro v1 w1 hown hgr _
  have hb1 : Below w.heap.size w w1 := (bal (Below.refl _ _) _).grown hgr (by simp) (fun k hk => by simp [Value.ownBlock] at hk; omega)
  have hown1 : w1.ownsRow w.heap.size 5 1 v1 n (bytesL n f) := by
    have e := hown
    first | exact e | (rw [Nat.zero_add] at e; exact e)
  obtain ⟨g1, cp1, rfl, hg1, hlt1⟩ := hown1.form h0
  have HO1 := Lib.hid hown1
  have HB1 := Lib.hid hb1
  clear hown hgr hb1 hown1 HM
  go_wp2_with (first | (at_builtin; refine wpList_append_own _ rfl _ _ 25 rfl w.heap.size 5 i0 (.int .u8 0) 1 1 Try.underlying25 hi hz0 hz1 hz2 rfl (by decide) _ n (bytesL n f) rfl (HO1.out.alloc _) ⟨w1.heap.size, 0, none⟩ 2 2 [.int .u8 91, .int .u8 92] rfl rfl ?c1 ?c2 ?c3 ?c4 ?c5 ?_))
  case c1 =>
    intro q u hq
    have e : (⟨w1.heap.size, 0, none⟩ : Addr).add q = ⟨w1.heap.size, q, none⟩ := by unfold Addr.add; split <;> simp_all
    rw [e, cell_of_row _ _ _ _ 5 (0, 0) (heap_alloc_new _ _)]
    simpa using hq
  case c2 =>
    intro u hu
    simp only [List.mem_cons, List.not_mem_nil, or_false] at hu
    rcases hu with rfl | rfl <;> rfl
  case c3 => unfold maxLen; omega
  case c4 => omega
  case c5 => have := HB1.out.size; simp; omega
  intro v' w' hown hgr _
  obtain ⟨g, cp, rfl, hg, hlt⟩ := hown.form (by omega)
  have hbel : Below w.heap.size w w' := (HB1.out.alloc HB1.out.size _).grown hgr (by have := HB1.out.size; simp; omega) (fun k hk => by simp [Value.ownBlock] at hk; omega)
  obtain ⟨hcap⟩ : Nonempty (n + 2 ≤ cp) := by
    rcases hown.2 with ⟨h, _⟩ | ⟨_, _, _, h, _, _, h2, _⟩
    · cases h
    · cases h; exact ⟨h2⟩
  have hcap2 : n ≤ cp := by omega
  have HO := Lib.hid hown
  have HB := Lib.hid hbel
  clear hown hgr hbel
  go_wp2
  go_ret
  exact ⟨g, cp, rfl, HO.out, HB.out⟩
end Go.Proofs.Ytnjcnnjdogdbdaa
