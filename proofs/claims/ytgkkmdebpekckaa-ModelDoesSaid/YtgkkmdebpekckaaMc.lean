/- Lists of puts: how they lie; slices.Clone of one. Conditions: as stated at each. -/
import Derived.Test.YtgkkmdebpekckaaMb
namespace Go.Proofs.Ytgkkmdebpekckaa
open Go.RowKit
/-- A byte list that lies outside the blocks X. -/
def BtsX (X : Nat → Prop) (w : World) (v : Value) (n : Nat) (f : Nat → Nat) : Prop :=
  ∃ a cap, v = .slice a n cap ∧ (n = 0 ∨ ∃ b o, a = some ⟨b, o, none⟩ ∧ ¬ X b ∧ ∀ k, k < n → w.cell? ⟨b, o + k, none⟩ = some (.int .u8 (f k)))
/-- A list of N puts that lies outside the blocks X: its own cells. -/
def PtsX (X : Nat → Prop) (w : World) (v : Value) (N : Nat) (bl : Nat → Int) (dv : Nat → Value) : Prop :=
  ∃ a cap, v = .slice a N cap ∧ (N = 0 ∨ ∃ b o, a = some ⟨b, o, none⟩ ∧ ¬ X b ∧ ∀ i, i < N → w.cell? ⟨b, o + i * 2, none⟩ = some (.int .i64 (bl i)) ∧ w.cell? ⟨b, o + i * 2 + 1, none⟩ = some (dv i))
theorem Out.cell {S : Nat → Prop} {w w1 : World} (h : Out S w w1) {p : Addr} {v : Value} (hv : w.cell? p = some v) (hS : ¬ S p.block) : w1.cell? p = some v := by
  rw [World.cell?_of_block (h.block p.block (World.block_lt_of_cell? w _ hv) hS)]; exact hv
theorem BtsX.out {X S : Nat → Prop} {w w1 : World} {v : Value} {n : Nat} {f : Nat → Nat} (h : BtsX X w v n f) (ho : Out S w w1) (hS : ∀ k, k < w.heap.size → S k → X k) : BtsX X w1 v n f := by
  obtain ⟨a, cap, hv, h⟩ := h
  refine ⟨a, cap, hv, ?_⟩
  rcases h with h | ⟨b, o, ha, hX, hc⟩
  · exact .inl h
  · exact .inr ⟨b, o, ha, hX, fun k hk => ho.cell (hc k hk) fun hs => hX (hS _ (World.block_lt_of_cell? w _ (hc k hk)) hs)⟩
theorem PtsX.out {X S : Nat → Prop} {w w1 : World} {v : Value} {n : Nat} {bl : Nat → Int} {dv : Nat → Value} (h : PtsX X w v n bl dv) (ho : Out S w w1) (hS : ∀ k, k < w.heap.size → S k → X k) : PtsX X w1 v n bl dv := by
  obtain ⟨a, cap, hv, h⟩ := h
  refine ⟨a, cap, hv, ?_⟩
  rcases h with h | ⟨b, o, ha, hX, hc⟩
  · exact .inl h
  · exact .inr ⟨b, o, ha, hX, fun k hk => ⟨ho.cell (hc k hk).1 fun hs => hX (hS _ (World.block_lt_of_cell? w _ (hc k hk).1) hs), ho.cell (hc k hk).2 fun hs => hX (hS _ (World.block_lt_of_cell? w _ (hc k hk).1) hs)⟩⟩
theorem BtsX.mono {X Y : Nat → Prop} {w : World} {v : Value} {n : Nat} {f : Nat → Nat} (h : BtsX X w v n f) (hS : ∀ k, k < w.heap.size → Y k → X k) : BtsX Y w v n f := by
  obtain ⟨a, cap, hv, h⟩ := h
  refine ⟨a, cap, hv, ?_⟩
  by_cases h0 : n = 0
  · exact .inl h0
  rcases h with h | ⟨b, o, ha, hX, hc⟩
  · exact .inl h
  · exact .inr ⟨b, o, ha, fun hy => hX (hS _ (World.block_lt_of_cell? w _ (hc 0 (by omega))) hy), hc⟩
theorem PtsX.mono {X Y : Nat → Prop} {w : World} {v : Value} {n : Nat} {bl : Nat → Int} {dv : Nat → Value} (h : PtsX X w v n bl dv) (hS : ∀ k, k < w.heap.size → Y k → X k) : PtsX Y w v n bl dv := by
  obtain ⟨a, cap, hv, h⟩ := h
  refine ⟨a, cap, hv, ?_⟩
  by_cases h0 : n = 0
  · exact .inl h0
  rcases h with h | ⟨b, o, ha, hX, hc⟩
  · exact .inl h
  · exact .inr ⟨b, o, ha, fun hy => hX (hS _ (World.block_lt_of_cell? w _ (hc 0 (by omega)).1) hy), hc⟩
theorem BtsX.bts {X : Nat → Prop} {w : World} {v : Value} {n : Nat} {f : Nat → Nat} (h : BtsX X w v n f) : Bts w v n f := by
  obtain ⟨a, cap, hv, h⟩ := h
  refine ⟨a, cap, hv, ?_⟩
  rcases h with h | ⟨b, o, ha, hX, hc⟩
  · exact .inl h
  · exact .inr ⟨b, o, ha, hc⟩
/-- The cells of a list of puts. -/
def putC (bl : Nat → Int) (dv : Nat → Value) (k : Nat) : Value := if k % 2 = 0 then .int .i64 (bl (k / 2)) else dv (k / 2)
def putL (N : Nat) (bl : Nat → Int) (dv : Nat → Value) : List Value := (List.range (N * 2)).map (putC bl dv)
theorem putL_len (N : Nat) (bl : Nat → Int) (dv : Nat → Value) : (putL N bl dv).length = N * 2 := by simp [putL]
theorem putL_get (N : Nat) (bl : Nat → Int) (dv : Nat → Value) (k : Nat) (h : k < N * 2) : (putL N bl dv)[k]? = some (putC bl dv k) := by simp [putL, h]
theorem putC_bl (bl : Nat → Int) (dv : Nat → Value) (i : Nat) : putC bl dv (i * 2) = .int .i64 (bl i) := by
  unfold putC
  rw [if_pos (by omega), show i * 2 / 2 = i by omega]
theorem putC_dv (bl : Nat → Int) (dv : Nat → Value) (i : Nat) : putC bl dv (i * 2 + 1) = dv i := by
  unfold putC
  rw [if_neg (by omega), show (i * 2 + 1) / 2 = i by omega]
theorem putL_set (N : Nat) (bl : Nat → Int) (dv : Nat → Value) (i : Nat) (u : Value) : (putL N bl dv).set (i * 2 + 1) u = putL N bl fun j => if j = i then u else dv j := by
  apply List.ext_getElem
  · simp [putL]
  · intro k h1 h2
    by_cases h : k = i * 2 + 1
    · subst h
      simp [putL, putC_dv]
    · rw [List.getElem_set_ne (fun e => h e.symm)]
      simp only [putL, List.getElem_map, List.getElem_range, putC]
      by_cases h3 : k % 2 = 0
      · rw [if_pos h3, if_pos h3]
      · rw [if_neg h3, if_neg h3, if_neg (by omega)]
theorem PtsX.of {X : Nat → Prop} {w : World} {B g N cap : Nat} {bl : Nat → Int} {dv : Nat → Value} (h : w.ownsRow B 47 2 (.slice (some ⟨g, 0, none⟩) N cap) N (putL N bl dv)) (hX : ¬ X g) : PtsX X w (.slice (some ⟨g, 0, none⟩) N cap) N bl dv := by
  refine ⟨_, _, rfl, .inr ⟨g, 0, rfl, hX, fun i hi => ⟨?_, ?_⟩⟩⟩
  · have := h.cells (g := g) rfl (i * 2) _ (putL_get N bl dv _ (by omega))
    rw [addk, putC_bl] at this
    exact this
  · have := h.cells (g := g) rfl (i * 2 + 1) _ (putL_get N bl dv _ (by omega))
    rw [addk, putC_dv] at this
    exact this
def ClonePtsP (N : Nat) (bl : Nat → Int) (dv : Nat → Value) (w : World) (e : Ending) (w' : World) : Prop :=
  ∃ v, e = .returned v ∧ w'.ownsRow w.heap.size 47 2 v N (putL N bl dv) ∧ Below w.heap.size w w'
set_option maxRecDepth 100000 in
set_option maxHeartbeats 400000 in
theorem clone58_any (b o N cap : Nat) (bl : Nat → Int) (dv : Nat → Value) (w : World) (hc : ∀ i, i < N → w.cell? ⟨b, o + i * 2, none⟩ = some (.int .i64 (bl i)) ∧ w.cell? ⟨b, o + i * 2 + 1, none⟩ = some (dv i)) (h1 : ∀ i, i < N → (dv i).oneCell' = true) (hN : N ≤ 65536) :
    Calls Try.prog 58 #[.slice (some ⟨b, o, none⟩) N cap] w (ClonePtsP N bl dv w) := by
  have HC := Lib.hid hc
  have H1 := Lib.hid h1
  clear hc h1
  obtain ⟨i0, hi, hz0, hz1, hz2⟩ := info_parts Try.info47
  have hnil := fun w => Lib.run_eql_slice_nil (P := Try.prog) w 24 47 (some ⟨b, o, none⟩) N cap 0 0 Try.underlying24
  go_enter Try.func58, Try.ntmps58
  go_wp2_with (first | (at_builtin; refine wpList_append_own _ rfl _ _ 24 rfl w.heap.size 47 i0 (.agg #[.int .i64 0, .slice none 0 0]) 2 32 Try.underlying24 hi hz0 hz1 hz2 rfl (by decide) _ 0 [] rfl (World.ownsRow_made w #[] 0 (Nat.le_refl _) (by decide) rfl) ⟨b, o, none⟩ N cap (putL N bl dv) rfl (putL_len _ _ _) ?c1 ?c2 ?c3 ?c4 ?c5 ?_))
  case c1 =>
    intro q u hq
    by_cases hlt : q < N * 2
    · rw [putL_get _ _ _ _ hlt] at hq
      have hcq : w.cell? ⟨b, o + q, none⟩ = some u := by
        rw [← hq]
        obtain ⟨h1, h2⟩ := HC.out (q / 2) (by omega)
        by_cases h3 : q % 2 = 0
        · have e : q = q / 2 * 2 := by omega
          rw [e, putC_bl]
          exact h1
        · have e : q = q / 2 * 2 + 1 := by omega
          rw [e, putC_dv]
          exact h2
      rw [addk, World.cell?_alloc_lt _ _ _ (World.block_lt_of_cell? w _ hcq)]
      exact hcq
    · rw [List.getElem?_eq_none (by rw [putL_len]; omega)] at hq
      cases hq
  case c2 =>
    intro u hu
    simp only [putL, List.mem_map, List.mem_range] at hu
    obtain ⟨q, hq, rfl⟩ := hu
    unfold putC
    by_cases h3 : q % 2 = 0
    · rw [if_pos h3]; rfl
    · rw [if_neg h3]; exact H1.out _ (by omega)
  case c3 => unfold maxLen; omega
  case c4 => omega
  case c5 => simp
  intro v' w' hown hgr _
  have hbel : Below w.heap.size w w' := (bal (Below.refl _ _) _).grown hgr (by simp) (fun k hk => by simp [Value.ownBlock] at hk; omega)
  clear hgr
  go_wp2
  go_ret
  exact ⟨_, rfl, hown, hbel⟩
set_option maxRecDepth 100000 in
set_option maxHeartbeats 400000 in
/-- Of none: it is none. -/
theorem clone58_none (a : Option Addr) (cap : Nat) (bl : Nat → Int) (dv : Nat → Value) (w : World) :
    Calls Try.prog 58 #[.slice a 0 cap] w (ClonePtsP 0 bl dv w) := by
  cases a with
  | some p =>
    obtain ⟨i0, hi, hz0, hz1, hz2⟩ := info_parts Try.info47
    have hnil := fun w => Lib.run_eql_slice_nil (P := Try.prog) w 24 47 (some p) 0 cap 0 0 Try.underlying24
    go_enter Try.func58, Try.ntmps58
    go_wp2_with (first | (at_builtin; refine wpList_append_own _ rfl _ _ 24 rfl w.heap.size 47 i0 (.agg #[.int .i64 0, .slice none 0 0]) 2 32 Try.underlying24 hi hz0 hz1 hz2 rfl (by decide) _ 0 [] rfl (World.ownsRow_made w #[] 0 (Nat.le_refl _) (by decide) rfl) p 0 cap (putL 0 bl dv) rfl (putL_len _ _ _) ?c1 ?c2 ?c3 ?c4 ?c5 ?_))
    case c1 => intro q u hq; simp [putL] at hq
    case c2 => intro u hu; simp [putL] at hu
    case c3 => unfold maxLen; omega
    case c4 => omega
    case c5 => simp
    intro v' w' hown hgr _
    have hbel : Below w.heap.size w w' := (bal (Below.refl _ _) _).grown hgr (by simp) (fun k hk => by simp [Value.ownBlock] at hk; omega)
    clear hgr
    go_wp2
    go_ret
    exact ⟨_, rfl, hown, hbel⟩
  | none =>
    have hnil := fun w => Lib.run_eql_slice_nil (P := Try.prog) w 24 47 none 0 cap 0 0 Try.underlying24
    go_enter Try.func58, Try.ntmps58
    go_wp2
    go_ret
    exact ⟨_, rfl, ⟨by simp [putL], .inl ⟨rfl, rfl⟩⟩, Below.refl _ _⟩
end Go.Proofs.Ytgkkmdebpekckaa
