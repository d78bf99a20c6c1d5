/- How a model lies, to be read; fates; slices.Clip. Conditions: as stated at each. -/
import Derived.Test.YtgkkmdebpekckaaMg
namespace Go.Proofs.Ytgkkmdebpekckaa
open Go.RowKit
/-- A batch: N puts, put i at block bl i, of the bytes f i. -/
structure Bt where
  N : Nat
  bl : Nat → Nat
  f : Nat → Nat → Nat
/-- A batch that fits n blocks. -/
structure Bt.ok (n : Nat) (b : Bt) : Prop where
  N : b.N ≤ 256
  bl : ∀ i, i < b.N → b.bl i < n
  f : ∀ i, i < b.N → Lt 128 (b.f i)
def BatX (X : Nat → Prop) (w : World) (v : Value) (b : Bt) : Prop :=
  ∃ dv, PtsX X w v b.N (fun i => (b.bl i : Int)) dv ∧ ∀ i, i < b.N → BtsX X w (dv i) 128 (b.f i)
theorem BatX.out {X S : Nat → Prop} {w w1 : World} {v : Value} {b : Bt} (h : BatX X w v b) (ho : Out S w w1) (hS : ∀ k, k < w.heap.size → S k → X k) : BatX X w1 v b := by
  obtain ⟨dv, h1, h2⟩ := h
  exact ⟨dv, h1.out ho hS, fun i hi => (h2 i hi).out ho hS⟩
theorem BatX.mono {X Y : Nat → Prop} {w : World} {v : Value} {b : Bt} (h : BatX X w v b) (hS : ∀ k, k < w.heap.size → Y k → X k) : BatX Y w v b := by
  obtain ⟨dv, h1, h2⟩ := h
  exact ⟨dv, h1.mono hS, fun i hi => (h2 i hi).mono hS⟩
/-- A list of L values that lies outside the blocks X. -/
def RwsX (X : Nat → Prop) (w : World) (v : Value) (L : Nat) (rv : Nat → Value) : Prop :=
  ∃ a cap, v = .slice a L cap ∧ L ≤ cap ∧ (L = 0 ∨ ∃ b o, a = some ⟨b, o, none⟩ ∧ ¬ X b ∧ ∀ k, k < L → w.cell? ⟨b, o + k, none⟩ = some (rv k))
theorem RwsX.out {X S : Nat → Prop} {w w1 : World} {v : Value} {n : Nat} {f : Nat → Value} (h : RwsX X w v n f) (ho : Out S w w1) (hS : ∀ k, k < w.heap.size → S k → X k) : RwsX X w1 v n f := by
  obtain ⟨a, cap, hv, hl, h⟩ := h
  refine ⟨a, cap, hv, hl, ?_⟩
  rcases h with h | ⟨b, o, ha, hX, hc⟩
  · exact .inl h
  · exact .inr ⟨b, o, ha, hX, fun k hk => ho.cell (hc k hk) fun hs => hX (hS _ (World.block_lt_of_cell? w _ (hc k hk)) hs)⟩
theorem RwsX.mono {X Y : Nat → Prop} {w : World} {v : Value} {n : Nat} {f : Nat → Value} (h : RwsX X w v n f) (hS : ∀ k, k < w.heap.size → Y k → X k) : RwsX Y w v n f := by
  obtain ⟨a, cap, hv, hl, h⟩ := h
  refine ⟨a, cap, hv, hl, ?_⟩
  by_cases h0 : n = 0
  · exact .inl h0
  rcases h with h | ⟨b, o, ha, hX, hc⟩
  · exact .inl h
  · exact .inr ⟨b, o, ha, fun hy => hX (hS _ (World.block_lt_of_cell? w _ (hc 0 (by omega))) hy), hc⟩
/-- A model's state: how many batches are sure, the loose ones, the one under way, the blocks behind the sure ones and behind all. -/
structure St where
  many : Nat
  L : Nat
  bt : Nat → Bt
  way : Bt
  sure : Nat → Nat
  now : Nat → Nat
/-- A model at block m, read outside the blocks X. -/
structure View (X : Nat → Prop) (w : World) (m n : Nat) (s : St) (gS cS : Nat) (nv lv wv : Value) (bv : Nat → Value) : Prop where
  blk : w.heap[m]? = some (.cells #[.slice (some ⟨gS, 0, none⟩) (128 * n) cS, nv, .int .i64 s.many, lv, wv] 68 (0, 0))
  notX : ¬ X m
  sure : BtsX X w (.slice (some ⟨gS, 0, none⟩) (128 * n) cS) (128 * n) s.sure
  now : BtsX X w nv (128 * n) s.now
  loose : RwsX X w lv s.L bv
  bat : ∀ k, k < s.L → BatX X w (bv k) (s.bt k)
  way : BatX X w wv s.way
theorem View.out {X S : Nat → Prop} {w w1 : World} {m n : Nat} {s : St} {gS cS : Nat} {nv lv wv : Value} {bv : Nat → Value} (h : View X w m n s gS cS nv lv wv bv) (ho : Out S w w1) (hS : ∀ k, k < w.heap.size → S k → X k) : View X w1 m n s gS cS nv lv wv bv :=
  ⟨ho.heap h.blk fun e => h.notX (hS _ (Array.getElem?_eq_some_iff.1 h.blk).1 e), h.notX, h.sure.out ho hS, h.now.out ho hS, h.loose.out ho hS, fun k hk => (h.bat k hk).out ho hS, h.way.out ho hS⟩
theorem View.mono {X Y : Nat → Prop} {w : World} {m n : Nat} {s : St} {gS cS : Nat} {nv lv wv : Value} {bv : Nat → Value} (h : View X w m n s gS cS nv lv wv bv) (hS : ∀ k, k < w.heap.size → Y k → X k) : View Y w m n s gS cS nv lv wv bv :=
  ⟨h.blk, fun e => h.notX (hS _ (Array.getElem?_eq_some_iff.1 h.blk).1 e), h.sure.mono hS, h.now.mono hS, h.loose.mono hS, fun k hk => (h.bat k hk).mono hS, h.way.mono hS⟩
set_option maxRecDepth 100000 in
theorem clip_any (a : Option Addr) (L cap : Nat) (w : World) (h : L ≤ cap) : Calls Try.prog 61 #[.slice a L cap] w fun e w' => e = .returned (.slice a L L) ∧ w' = w := by
  go_enter Try.func61, Try.ntmps61
  go_wp2
  go_ret
  exact ⟨rfl, rfl⟩
set_option maxRecDepth 100000 in
theorem fates_any (p : Option Addr) (w : World) : Calls Try.prog 25 #[.pointer p] w fun e w' => e = .returned (.func (.func 59) #[] #[.pointer (some ⟨w.heap.size, 0, none⟩)]) ∧ w' = w.alloc (.cells #[.pointer p] 29) := by
  go_enter Try.func25, Try.ntmps25
  go_wp2
  go_ret
  exact ⟨rfl, rfl⟩
end Go.Proofs.Ytgkkmdebpekckaa
