/- Words and small laws for the walks of this seat: what a call leaves as it was, byte lists in memory, exclusive or. Conditions: as stated at each. -/
import Derived.Test.YtgkkmdebpekckaaRows
import Derived.WalkKit
import Derived.Handy
import Derived.Lib.Hide
import Derived.Deep.QuietTactic
import Derived.BigQuiet
import Derived.Deep.RegionHeld3
import Derived.Deep.DeepCutAuto
namespace Go.Proofs.Ytgkkmdebpekckaa
open Go.RowKit
theorem cr {w : World} {b : Nat} {cs : Array Value} {T : TypeId} (h : w.heap[b]? = some (.cells cs T (0, 0))) : (∀ o, w.cell? ⟨b, o, none⟩ = cs[o]?) ∧ (∀ o, w.frozen? ⟨b, o, none⟩ = false) ∧ b < w.heap.size :=
  ⟨fun o => cell_of_row w b o cs T (0, 0) h, fun o => frozen_of_row w b o cs T h, (Array.getElem?_eq_some_iff.1 h).1⟩
theorem via {w W w1 : World} (h : Below w.heap.size w W) (hb : Below W.heap.size W w1) : Below w.heap.size w w1 := h.trans (hb.mono h.size)
theorem bal {w W : World} (h : Below w.heap.size w W) (o : Obj) : Below w.heap.size w (W.alloc o) := h.alloc h.size o
theorem bdn {B : Nat} {w W : World} (h : Below B w W) (n : Nat) : Below B w (W.drewN n) := h.trans ⟨rfl, rfl, rfl, Nat.le_refl _, fun _ _ => rfl⟩
theorem ret_int {k : IntKind} {a b : Int} (h : a = b) : Ending.returned (.int k a) = .returned (.int k b) := by rw [h]
theorem kp {W w1 : World} (hb : Below W.heap.size W w1) (B : Nat) (h : B < W.heap.size) : (∀ o, w1.cell? ⟨B, o, none⟩ = W.cell? ⟨B, o, none⟩) ∧ (∀ o, w1.frozen? ⟨B, o, none⟩ = W.frozen? ⟨B, o, none⟩) ∧ B < w1.heap.size :=
  ⟨fun o => hb.cell (p := ⟨B, o, none⟩) h, fun o => hb.frozen (p := ⟨B, o, none⟩) h, Nat.lt_of_lt_of_le h hb.size⟩
theorem hn2 (w : World) (A B : Obj) : ((w.alloc A).alloc B).heap[w.heap.size + 1]? = some B :=
  (congrArg (fun i => ((w.alloc A).alloc B).heap[i]?) (World.size_alloc _ _).symm).trans (heap_alloc_new _ _)
theorem hn1 (w : World) (A B : Obj) : ((w.alloc A).alloc B).heap[w.heap.size]? = some A :=
  (Below.heap_alloc (w.alloc A) B _ (by simp)).trans (heap_alloc_new _ _)
/-- Exclusive or of two bytes. -/
theorem xor_u8 (a b : Nat) (ha : a < 256) (hb : b < 256) : bits .xor .u8 (a : Int) (b : Int) = ((a ^^^ b : Nat) : Int) := by
  have hx : a ^^^ b < 2 ^ 8 := Nat.xor_lt_two_pow (by omega) (by omega)
  have h1 : (BitVec.ofInt 8 (a : Int)).toNat = a := by
    rw [BitVec.ofInt_natCast, BitVec.toNat_ofNat]; exact Nat.mod_eq_of_lt (by omega)
  have h2 : (BitVec.ofInt 8 (b : Int)).toNat = b := by
    rw [BitVec.ofInt_natCast, BitVec.toNat_ofNat]; exact Nat.mod_eq_of_lt (by omega)
  show IntKind.u8.wrap ((BitVec.ofInt 8 (a : Int) ^^^ BitVec.ofInt 8 (b : Int)).toNat : Int) = _
  rw [BitVec.toNat_xor, h1, h2, IntKind.wrap_u8]
  omega
/-- L places that hold the bytes f 0 .. f (L - 1). -/
def arrB (L : Nat) (f : Nat → Nat) : Array Value := ((List.range L).map fun k => Value.int .u8 (f k)).toArray
theorem arrB_get (L : Nat) (f : Nat → Nat) (k : Nat) (h : k < L) : (arrB L f)[k]? = some (.int .u8 (f k)) := by simp [arrB, h]
theorem arrB_size (L : Nat) (f : Nat → Nat) : (arrB L f).size = L := by simp [arrB]
theorem arrB_congr (L : Nat) (g g' : Nat → Nat) (h : ∀ x, x < L → g x = g' x) : arrB L g = arrB L g' := by
  unfold arrB
  congr 1
  apply List.map_congr_left
  intro x hx
  rw [h x (by simpa using hx)]
theorem arrB_set (L : Nat) (g : Nat → Nat) (x v : Nat) : (arrB L g).setIfInBounds x (.int .u8 v) = arrB L (fun y => if y = x then v else g y) := by
  apply Array.ext
  · simp [arrB]
  · intro i h1 h2
    by_cases h : x = i
    · subst h; simp [arrB]
    · have h' : ¬ i = x := fun e => h e.symm
      simp [arrB, h, h']
/-- A value that reads as the byte list f 0 .. f (n - 1). -/
def Bts (w : World) (v : Value) (n : Nat) (f : Nat → Nat) : Prop :=
  ∃ a cap, v = .slice a n cap ∧ (n = 0 ∨ ∃ b o, a = some ⟨b, o, none⟩ ∧ ∀ k, k < n → w.cell? ⟨b, o + k, none⟩ = some (.int .u8 (f k)))
theorem Bts.keep {w w1 : World} {v : Value} {n : Nat} {f : Nat → Nat} (h : Bts w v n f) (hb : Below w.heap.size w w1) : Bts w1 v n f := by
  obtain ⟨a, cap, hv, h⟩ := h
  refine ⟨a, cap, hv, ?_⟩
  rcases h with h | ⟨b, o, ha, hc⟩
  · exact .inl h
  · refine .inr ⟨b, o, ha, fun k hk => ?_⟩
    rw [hb.cell (p := ⟨b, o + k, none⟩) (World.block_lt_of_cell? w _ (hc k hk))]
    exact hc k hk
theorem Bts.of {w : World} {b L cap : Nat} {f : Nat → Nat} {T : TypeId} (h : w.heap[b]? = some (.cells (arrB L f) T (0, 0))) : Bts w (.slice (some ⟨b, 0, none⟩) L cap) L f :=
  ⟨_, _, rfl, .inr ⟨b, 0, rfl, fun k hk => by rw [Nat.zero_add, (cr h).1 k, arrB_get _ _ _ hk]⟩⟩
/-- A value that reads as a list of N values. -/
def Rws (w : World) (v : Value) (N : Nat) (rv : Nat → Value) : Prop :=
  ∃ a cap, v = .slice a N cap ∧ (N = 0 ∨ ∃ b o, a = some ⟨b, o, none⟩ ∧ ∀ i, i < N → w.cell? ⟨b, o + i, none⟩ = some (rv i))
theorem Rws.keep {w w1 : World} {v : Value} {n : Nat} {f : Nat → Value} (h : Rws w v n f) (hb : Below w.heap.size w w1) : Rws w1 v n f := by
  obtain ⟨a, cap, hv, h⟩ := h
  refine ⟨a, cap, hv, ?_⟩
  rcases h with h | ⟨b, o, ha, hc⟩
  · exact .inl h
  · refine .inr ⟨b, o, ha, fun k hk => ?_⟩
    rw [hb.cell (p := ⟨b, o + k, none⟩) (World.block_lt_of_cell? w _ (hc k hk))]
    exact hc k hk
/-- But for two blocks, w1 is as w was. -/
structure But (s g : Nat) (w w1 : World) : Prop where
  os : w1.os = w.os
  tape : w1.tape = w.tape
  output : w1.output = w.output
  size : w.heap.size ≤ w1.heap.size
  block : ∀ k, k < w.heap.size → k ≠ s → k ≠ g → w1.heap[k]? = w.heap[k]?
theorem But.refl (s g : Nat) (w : World) : But s g w w := ⟨rfl, rfl, rfl, Nat.le_refl _, fun _ _ _ _ => rfl⟩
theorem But.trans {s g : Nat} {a b c : World} (h : But s g a b) (k : But s g b c) : But s g a c :=
  ⟨k.os.trans h.os, k.tape.trans h.tape, k.output.trans h.output, Nat.le_trans h.size k.size, fun i hi hs hg => (k.block i (Nat.lt_of_lt_of_le hi h.size) hs hg).trans (h.block i hi hs hg)⟩
theorem But.setCell {s g : Nat} {a w : World} (h : But s g a w) {p : Addr} (hp : p.block = s ∨ p.block = g) (u : Value) : But s g a (w.setCell p u) :=
  h.trans ⟨rfl, rfl, rfl, by simp [World.setCell], fun k _ hs hg => Below.heap_setCell _ _ _ _ (by rcases hp with h | h <;> omega)⟩
theorem But.alloc {s g : Nat} {a w : World} (h : But s g a w) (o : Obj) : But s g a (w.alloc o) :=
  h.trans ⟨rfl, rfl, rfl, by simp, fun k hk _ _ => Below.heap_alloc _ _ _ hk⟩
theorem But.drewN {s g : Nat} {a w : World} (h : But s g a w) (n : Nat) : But s g a (w.drewN n) := h.trans ⟨rfl, rfl, rfl, Nat.le_refl _, fun _ _ _ _ => rfl⟩
theorem But.below {s g B : Nat} {a w : World} (h : But s g a w) (hs : B ≤ s) (hg : B ≤ g) (hB : B ≤ a.heap.size) : Below B a w :=
  ⟨h.os, h.tape, h.output, h.size, fun k hk => h.block k (by omega) (by omega) (by omega)⟩
theorem But.cell {s g : Nat} {w w1 : World} (h : But s g w w1) {p : Addr} {v : Value} (hv : w.cell? p = some v) (hs : p.block ≠ s) (hg : p.block ≠ g) : w1.cell? p = some v := by
  rw [World.cell?_of_block (h.block p.block (World.block_lt_of_cell? w _ hv) hs hg)]; exact hv
end Go.Proofs.Ytgkkmdebpekckaa
