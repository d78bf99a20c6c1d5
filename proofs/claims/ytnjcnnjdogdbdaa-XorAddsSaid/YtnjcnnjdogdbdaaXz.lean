/- What one round of XorAdds does, told for both rows that fit and rows that do not. Conditions: as stated at each. -/
import Derived.Test.YtnjcnnjdogdbdaaBm
import Derived.Test.YtnjcnnjdogdbdaaXy
namespace Go.Proofs.Ytnjcnnjdogdbdaa
open Go.RowKit
def aE (n L : Nat) : Int := if n = L then 0 else 4
def aF (n L : Nat) (F f : Nat → Nat) : Nat → Nat := if n = L then xo F f else F
def aM (n L m : Nat) : Nat := if n = L then m + 1 else m
theorem aM_le {n L m k : Nat} (h : m ≤ k) : aM n L m ≤ k + 1 := by unfold aM; split <;> omega
theorem aF_lt {n L : Nat} {F f : Nat → Nat} (hF : Lt L F) (hf : Lt n f) : Lt L (aF n L F f) := by
  unfold aF
  split
  · rename_i e; subst e; exact xoLt hF hf
  · exact hF
theorem SumS.out {S : Nat → Prop} {w w1 : World} {sb g L : Nat} {f : Nat → Nat} {m : Nat} (h : SumS w sb g L f m) (ho : Out S w w1) (h1 : ¬ S sb) (h2 : ¬ S g) : SumS w1 sb g L f m :=
  ⟨h.ne, ho.heap h.hs h1, ho.heap h.hg h2, h.lt⟩
theorem SumS.lts {w : World} {sb g L : Nat} {f : Nat → Nat} {m : Nat} (h : SumS w sb g L f m) : sb < w.heap.size ∧ g < w.heap.size := ⟨(cr h.hs).2.2, (cr h.hg).2.2⟩
theorem But.out {s g : Nat} {a w : World} (h : But s g a w) : Out (fun k => k = s ∨ k = g) a w :=
  ⟨h.os, h.tape, h.output, h.size, fun k hk hS => h.block k hk (fun e => hS (.inl e)) (fun e => hS (.inr e))⟩
def AddP (w : World) (sb g L : Nat) (F : Nat → Nat) (m : Nat) (x : Int) (e : Ending) (w' : World) : Prop := e = .returned (.int .u16 x) ∧ SumS w' sb g L F m ∧ Out (fun k => k = sb ∨ k = g) w w'
theorem add_any (v : Value) (n : Nat) (h : Nat → Nat) (sb g L : Nat) (f : Nat → Nat) (m : Nat) (w : World) (hS : SumS w sb g L f m) (hr : RowIn w v n h sb g) (hL : L ≤ 200000) (hm : m ≤ 200000) :
    Calls Try.prog 34 #[.pointer (some ⟨sb, 0, none⟩), v] w (AddP w sb g L (aF n L f h) (aM n L m) (aE n L)) := by
  unfold aF aM aE
  by_cases e : n = L
  · subst e
    rw [if_pos rfl, if_pos rfl, if_pos rfl]
    exact (add_ok v h sb g n f m w hS hr hL hm).mono fun e w' ⟨h1, h2, h3⟩ => ⟨h1, h2, h3.out⟩
  · rw [if_neg e, if_neg e, if_neg e]
    exact (add_bad v n h sb g L f m w hS hr e).mono fun e w' ⟨h1, h2⟩ => ⟨h1, h2 ▸ hS, h2 ▸ Out.refl _ _⟩
def RAddP (w : World) (rb L : Nat) (F : Nat → Nat) (m : Nat) (q : Option Nat) (x : Int) (e : Ending) (w' : World) : Prop := e = .returned (.int .u16 x) ∧ ∃ q', RefS w' rb L F m q' ∧ (∀ k, q' = some k → q = some k ∨ w.heap.size ≤ k) ∧ Out (fun k => k = rb) w w'
theorem refadd_any (v : Value) (n : Nat) (f : Nat → Nat) (rb L : Nat) (F : Nat → Nat) (m : Nat) (q : Option Nat) (w : World) (hR : RefS w rb L F m q) (hv : Bts w v n f) (hf : Lt n f) (hF : Lt L F) (hL : L ≤ 200000) (hm : m ≤ 200000) :
    Calls Try.prog 36 #[.pointer (some ⟨rb, 0, none⟩), v] w (RAddP w rb L (aF n L F f) (aM n L m) q (aE n L)) := by
  unfold aF aM aE
  by_cases e : n = L
  · subst e
    rw [if_pos rfl, if_pos rfl, if_pos rfl]
    exact (refadd_ok v f rb n F m q w hR hv hf hF hL hm).mono fun e w' ⟨h1, q', h2, h3, h4⟩ => ⟨h1, q', h2, fun k hk => .inr (h3 k hk), h4⟩
  · rw [if_neg e, if_neg e, if_neg e]
    exact (refadd_bad v n f rb L F m q w hR hv e).mono fun e w' ⟨h1, h2⟩ => ⟨h1, q, hR.keep h2, fun k hk => .inl hk, Out.of_below h2⟩
theorem LRow.spoil {w : World} {B : Nat} {v : Value} {n : Nat} {f : Nat → Nat} (h : LRow w B v n f) : Calls Try.prog 35 #[v] w fun e w' => e = .returned (.tuple #[]) ∧ Out (fun k => v.ownBlock = some k) w w' := by
  obtain ⟨g, cap, rfl, ho⟩ := h
  obtain ⟨h1, h2, h3⟩ := own_blk ho
  exact (spoil_bytes g n cap w h1 h3).mono fun e w' ⟨a, _, c⟩ => ⟨a, c.mono fun k _ hk => by subst hk; rfl⟩
/-- What holds at the head of each round. -/
structure AddRel (w1 w3 wr : World) (N sb g tb tg rb bk L i : Nat) (F : Nat → Nat) (m : Nat) (q ql : Option Nat) : Prop where
  lt : Lt L F
  s : SumS wr sb g L F m
  t : SumS wr tb tg L F m
  r : RefS wr rb L F m q
  b : Bk wr bk (2 * i) (fun k => bk < k ∧ k < wr.heap.size) (fun k => ql = some k)
  hl : ∀ k, ql = some k → bk < k ∧ k < wr.heap.size ∧ q ≠ some k
  hq : ∀ k, q = some k → w3.heap.size ≤ k ∧ k ≠ bk
  v : Below w1.heap.size w1 wr
  z : bk < wr.heap.size
theorem Bk.exact {w : World} {bk N : Nat} {P Q : Nat → Prop} (h : Bk w bk N P Q) : ∃ q : Option Nat, Bk w bk N P (fun k => q = some k) ∧ ∀ k, q = some k → Q k ∧ k < w.heap.size := by
  obtain ⟨lv, v, n, F, hB, h1, h2, h3⟩ := h
  exact ⟨lv.ownBlock, ⟨lv, v, n, F, hB, h1, h2, fun k hk => hk⟩, fun k hk => ⟨h3 k hk, hB.lt.2.1 k hk⟩⟩
theorem RefS.cells {w : World} {rb L : Nat} {F : Nat → Nat} {m : Nat} {q : Option Nat} (h : RefS w rb L F m q) : ∃ a cap, w.cell? ⟨rb, 0, none⟩ = some (.slice a L cap) ∧ w.cell? ⟨rb, 1, none⟩ = some (.int .i64 m) ∧ Bts w (.slice a L cap) L F := by
  obtain ⟨bv, hb, ho, -, -⟩ := h
  obtain ⟨a, cap, rfl, -, -⟩ := own_form ho
  exact ⟨a, cap, by rw [(cr hb).1]; rfl, by rw [(cr hb).1]; rfl, ownBts ho⟩
theorem QuietT.mono {f : FuncId} {args : Array Value} {w : World} (h : Calls Try.prog f args w (QuietT w)) : Calls Try.prog f args w fun e w' => e = .returned (.bool true) ∧ Below w.heap.size w w' := Calls.mono h fun _ _ h => h.below
theorem rowIn2 {w : World} {v : Value} {n : Nat} {h : Nat → Nat} {sb g : Nat} (hB : Bts w v n h) (hlt : Lt n h) (hs : ∀ k, v.ownBlock = some k → k ≠ sb ∧ k ≠ g) : RowIn w v n h sb g := by
  obtain ⟨a, cap, rfl, hc⟩ := hB
  refine ⟨hlt, a, cap, rfl, ?_⟩
  rcases hc with h0 | ⟨b, o, rfl, hc⟩
  · exact .inl h0
  · exact .inr ⟨b, o, rfl, (hs b rfl).1, (hs b rfl).2, hc⟩
end Go.Proofs.Ytnjcnnjdogdbdaa
