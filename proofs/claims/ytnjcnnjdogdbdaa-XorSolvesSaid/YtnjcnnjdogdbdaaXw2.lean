/- Small laws that several laws of this seat want: a list cut down, bounds of two or three, exclusive or. Conditions: as stated at each. -/
import Derived.Test.YtnjcnnjdogdbdaaXw
namespace Go.Proofs.Ytnjcnnjdogdbdaa
open Go.ChangeShapes Go.WideShapes Go.ChangeAt Go.RowKit
theorem Bts.cut {w : World} {a : Option Addr} {n cap m : Nat} {f : Nat → Nat} (h : Bts w (.slice a n cap) n f) (hm : m ≤ n) : Bts w (.slice a m cap) m f := by
  obtain ⟨a', cap', hv, h⟩ := h
  cases hv
  refine ⟨_, _, rfl, ?_⟩
  rcases h with h | ⟨b, o, ha, hc⟩
  · exact .inl (by omega)
  · exact .inr ⟨b, o, ha, fun k hk => hc k (by omega)⟩
theorem xz {a b : Nat} (h : a ^^^ b = 0) : a = b := by
  have : a = (a ^^^ b) ^^^ b := by rw [Nat.xor_assoc, Nat.xor_self, Nat.xor_zero]
  rw [this, h, Nat.zero_xor]
theorem le2 {x y : Nat} {B : Int} (hx : (x : Int) ≤ B) (hy : (y : Int) ≤ B) (i : Nat) (hi : i < 2) : ((sel2 x y i : Nat) : Int) ≤ B := by
  obtain rfl | rfl : i = 0 ∨ i = 1 := by omega
  · exact hx
  · exact hy
theorem le3 {x y z : Nat} {B : Int} (hx : (x : Int) ≤ B) (hy : (y : Int) ≤ B) (hz : (z : Int) ≤ B) (i : Nat) (hi : i < 3) : ((sel3 x y z i : Nat) : Int) ≤ B := by
  obtain rfl | rfl | rfl : i = 0 ∨ i = 1 ∨ i = 2 := by omega
  · exact hx
  · exact hy
  · exact hz
end Go.Proofs.Ytnjcnnjdogdbdaa
