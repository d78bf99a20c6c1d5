/- WholeBytes: what was lent is still whole. Conditions: as stated at each. -/
import Derived.Test.YtnjcnnjdogdbdaaXn
namespace Go.Proofs.Ytnjcnnjdogdbdaa
open Go.RowKit
/-- A list that was lent: its bytes, and the two marks behind. -/
structure Lent (w : World) (g n cap : Nat) (f : Nat → Nat) : Prop where
  c : ∀ k, k < n → w.cell? ⟨g, k, none⟩ = some (.int .u8 (f k))
  m0 : w.cell? ⟨g, n, none⟩ = some (.int .u8 91)
  m1 : w.cell? ⟨g, n + 1, none⟩ = some (.int .u8 92)
  cap : n + 2 ≤ cap
theorem Lent.of {w : World} {B g n cap : Nat} {f : Nat → Nat} (h : w.ownsRow B 5 1 (.slice (some ⟨g, 0, none⟩) (n + 2) cap) (n + 2) (bytesL n f ++ [.int .u8 91, .int .u8 92])) : Lent w g n cap f := by
  have hc : ∀ j u, (bytesL n f ++ [Value.int .u8 91, .int .u8 92])[j]? = some u → w.cell? ⟨g, j, none⟩ = some u := fun j u hj => by
    have := h.cells (g := g) rfl j u hj
    have e : (⟨g, 0, none⟩ : Addr).add j = ⟨g, j, none⟩ := by unfold Addr.add; split <;> simp_all
    rwa [e] at this
  refine ⟨fun k hk => hc k _ ?_, hc n _ ?_, hc (n + 1) _ ?_, ?_⟩
  · rw [List.getElem?_append_left (by rw [bytesL_len]; exact hk), bytesL_get _ _ _ hk]
  · rw [List.getElem?_append_right (by rw [bytesL_len]; exact Nat.le_refl _), bytesL_len]; simp
  · rw [List.getElem?_append_right (by rw [bytesL_len]; omega), bytesL_len]; simp
  · rcases h.2 with ⟨h, _⟩ | ⟨_, _, _, h, _, _, h2, _⟩
    · cases h
    · cases h; exact h2
theorem Lent.keep {w w1 : World} {g n cap : Nat} {f : Nat → Nat} (h : Lent w g n cap f) (hb : Below w.heap.size w w1) : Lent w1 g n cap f :=
  have k : ∀ j u, w.cell? ⟨g, j, none⟩ = some u → w1.cell? ⟨g, j, none⟩ = some u := fun j u hj => by
    rw [hb.cell (p := ⟨g, j, none⟩) (World.block_lt_of_cell? w _ hj)]; exact hj
  ⟨fun j hj => k _ _ (h.c j hj), k _ _ h.m0, k _ _ h.m1, h.cap⟩
theorem Lent.bts {w : World} {g n cap : Nat} {f : Nat → Nat} (h : Lent w g n cap f) : Bts w (.slice (some ⟨g, 0, none⟩) n cap) n f :=
  ⟨_, _, rfl, .inr ⟨g, 0, rfl, fun k hk => by rw [Nat.zero_add]; exact h.c k hk⟩⟩
set_option maxRecDepth 100000 in
set_option maxHeartbeats 400000 in
theorem whole_bytes (g n cap : Nat) (f : Nat → Nat) (va : Value) (w : World) (hn : n ≤ 140737488351232) (hl : Lent w g n cap f) (ha : Bts w va n f) :
    Calls Try.prog 29 #[.slice (some ⟨g, 0, none⟩) n cap, va] w fun e w' => e = .returned (.bool true) ∧ Below w.heap.size w w' := by
  obtain ⟨aa, ca, rfl⟩ := ha.form
  have HA := Lib.hid ha
  have HB := Lib.hid hl.bts
  have c0 := hl.m0
  have c1 := hl.m1
  have c2 := hl.cap
  clear hl ha
  have hw2 : IntKind.i64.wrap ((n : Int) + 2) = ((n + 2 : Nat) : Int) := by go_arith
  have hw1 : IntKind.i64.wrap ((n : Int) + 1) = ((n + 1 : Nat) : Int) := by go_arith
  have h3 : ¬ cap < n + 2 := by omega
  go_enter Try.func29, Try.ntmps29
  go_wp2_with (first | (go_at_call 22; refine (same_VB (by omega) HB.out HA.out).mono ?_; rintro e w1 ⟨rfl, hb⟩; have HW := Lib.hid hb; clear hb))
  go_ret
  exact ⟨rfl, HW.out⟩
end Go.Proofs.Ytnjcnnjdogdbdaa
