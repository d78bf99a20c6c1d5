/- Scripts opened; lists of batches opened. Conditions: none. -/
import Derived.Test.YtgkkmdebpekckaaMo
namespace Go.Proofs.Ytgkkmdebpekckaa
open Go.ChangeShapes Go.WideShapes Go.ChangeAt Go.RowKit
/-- One call of a script. -/
structure Opc where
  kind : Int
  blk : Int
  n : Int
  puts : Ar
  allN : Nat
  all : Nat → Nat
instance : Inhabited Ar := ⟨⟨0, fun _ => 0, fun _ => 0, fun _ _ => 0⟩⟩
instance : Inhabited Opc := ⟨⟨0, 0, 0, default, 0, fun _ => 0⟩⟩
def Opc.fit (o : Opc) : Prop := o.puts.fit ∧ Lt o.allN o.all ∧ o.allN ≤ 140737488351232
/-- A script that lies outside the blocks X. -/
structure OpsX (X : Nat → Prop) (w : World) (a : Option Addr) (N : Nat) (ops : Nat → Opc) (pv av : Nat → Value) : Prop where
  l : N = 0 ∨ ∃ b o, a = some ⟨b, o, none⟩ ∧ ¬ X b ∧ ∀ i, i < N → w.cell? ⟨b, o + i * 5, none⟩ = some (.int .i64 (ops i).kind) ∧ w.cell? ⟨b, o + i * 5 + 1, none⟩ = some (.int .i64 (ops i).blk) ∧ w.cell? ⟨b, o + i * 5 + 2, none⟩ = some (.int .i64 (ops i).n) ∧ w.cell? ⟨b, o + i * 5 + 3, none⟩ = some (pv i) ∧ w.cell? ⟨b, o + i * 5 + 4, none⟩ = some (av i)
  puts : ∀ i, i < N → ArX X w (pv i) (ops i).puts
  all : ∀ i, i < N → BtsX X w (av i) (ops i).allN (ops i).all
theorem OpsX.out {X S : Nat → Prop} {w w1 : World} {a : Option Addr} {N : Nat} {ops : Nat → Opc} {pv av : Nat → Value} (h : OpsX X w a N ops pv av) (ho : Out S w w1) (hS : ∀ k, k < w.heap.size → S k → X k) : OpsX X w1 a N ops pv av := by
  refine ⟨?_, fun i hi => (h.puts i hi).out ho hS, fun i hi => (h.all i hi).out ho hS⟩
  rcases h.l with h | ⟨b, o, ha, hX, hc⟩
  · exact .inl h
  · refine .inr ⟨b, o, ha, hX, fun i hi => ?_⟩
    obtain ⟨h1, h2, h3, h4, h5⟩ := hc i hi
    have hb : ¬ S b := fun hs => hX (hS _ (World.block_lt_of_cell? w _ h1) hs)
    exact ⟨ho.cell h1 hb, ho.cell h2 hb, ho.cell h3 hb, ho.cell h4 hb, ho.cell h5 hb⟩
section
variable {H : Type} {enc : TypeId × Value → H} {W : World}
theorem trod_int_cell {fuel : Nat} {v : Value} {x : DataW H × List MemPlace} (h : DataW.trod enc Try.prog W 0 (fun _ => true) true fuel 3 [v] = some x) : ∃ z, v = .int .i64 z ∧ -9223372036854775808 ≤ z ∧ z ≤ 9223372036854775807 := by
  obtain ⟨z, hz, _, hw⟩ := DataW.trod_int Try.underlying3 h
  simp only [List.cons.injEq, and_true] at hz
  have h1 : IntKind.i64.min = -9223372036854775808 := rfl
  have h2 : IntKind.i64.max = 9223372036854775807 := rfl
  simp only [Lit.wf, Bool.and_eq_true, decide_eq_true_eq] at hw
  exact ⟨z, hz, by omega, by omega⟩
def Opc.ints (o : Opc) : Prop := (-9223372036854775808 ≤ o.kind ∧ o.kind ≤ 9223372036854775807) ∧ (-9223372036854775808 ≤ o.blk ∧ o.blk ≤ 9223372036854775807) ∧ (-9223372036854775808 ≤ o.n ∧ o.n ≤ 9223372036854775807)
set_option maxRecDepth 100000 in
set_option maxHeartbeats 800000 in
theorem open_ops {fuel : Nat} {v : Value} {x : DataW H × List MemPlace} (h : DataW.trod enc Try.prog W 0 (fun _ => true) true fuel 23 [v] = some x) (hf : FitD 23 x.1) :
    ∃ a N cap ops pv av, v = .slice a N cap ∧ OpsX (fun k => W.heap.size ≤ k) W a N ops pv av ∧ N ≤ 1954687338211 ∧ (∀ i, i < N → (ops i).fit) ∧ ∀ i, i < N → (ops i).ints := by
  rcases Deep.open_slice Try.underlying23 h with ⟨hcs, hx⟩ | ⟨a, len, cap, m, n, D, Pl, hcs, _, hl, hm, hmm, rfl, hx⟩
  · simp only [List.cons.injEq, and_true] at hcs
    subst hcs
    exact ⟨none, 0, 0, default, fun _ => .slice none 0 0, fun _ => .slice none 0 0, rfl, ⟨.inl rfl, fun _ h => absurd h (Nat.not_lt_zero _), fun _ h => absurd h (Nat.not_lt_zero _)⟩, Nat.zero_le _, fun _ h => absurd h (Nat.not_lt_zero _), fun _ h => absurd h (Nat.not_lt_zero _)⟩
  · simp only [List.cons.injEq, and_true] at hcs
    subst hcs
    have hlen := fit_len hf Try.underlying23
    rw [bytes27] at hlen
    simp at hlen
    simp only [if_true] at hmm
    subst hmm
    rw [cells27] at hx
    have each : ∀ i, i < len → ∃ q : Opc × Value × Value, W.cell? (a.add (i * 5)) = some (.int .i64 q.1.kind) ∧ W.cell? (a.add (i * 5 + 1)) = some (.int .i64 q.1.blk) ∧ W.cell? (a.add (i * 5 + 2)) = some (.int .i64 q.1.n) ∧ W.cell? (a.add (i * 5 + 3)) = some q.2.1 ∧ W.cell? (a.add (i * 5 + 4)) = some q.2.2 ∧
        ArX (fun k => W.heap.size ≤ k) W q.2.1 q.1.puts ∧ BtsX (fun k => W.heap.size ≤ k) W q.2.2 q.1.allN q.1.all ∧ q.1.fit ∧ q.1.ints := fun i hi => by
      obtain ⟨cs', h1, h2⟩ := hx i (by omega)
      obtain ⟨_, hlen5, hcell⟩ := World.cells?_some h1
      obtain ⟨xs, k, hk, hxy, _, hxl, hfl⟩ := DataW.trod_struct Try.underlying27 h2
      have hfi : FitD 27 (D i) := fit_elem hf Try.underlying23 (i := i) (by simp [hi])
      have e0 := hcell 0 (by omega)
      have e1 := hcell 1 (by omega)
      have e2 := hcell 2 (by omega)
      have e3 := hcell 3 (by omega)
      have e4 := hcell 4 (by omega)
      have g0 := hfl 0 _ rfl
      have g1 := hfl 1 _ rfl
      have g2 := hfl 2 _ rfl
      have g3 := hfl 3 _ rfl
      have g4 := hfl 4 _ rfl
      rw [Deep.add_add] at e0 e1 e2 e3 e4
      match xs, hxl, cs', hlen5 with
      | [y0, y1, y2, y3, y4], _, [v0, v1, v2, v3, v4], _ =>
        simp [cells3, cells24, cells25] at g0 g1 g2 g3 g4
        simp at e0 e1 e2 e3 e4
        obtain ⟨z0, rfl, i0⟩ := trod_int_cell g0
        obtain ⟨z1, rfl, i1⟩ := trod_int_cell g1
        obtain ⟨z2, rfl, i2⟩ := trod_int_cell g2
        have hD : D i = .agg [y0.1, y1.1, y2.1, y3.1, y4.1] := by
          have := congrArg Prod.fst hxy
          simpa using this
        rw [hD] at hfi
        obtain ⟨pa, hp1, hp2⟩ := open_puts g3 (fit_part hfi Try.underlying27 (j := 3) rfl rfl)
        obtain ⟨bn, bf, hb1, hb2, hb3⟩ := open_b25 g4 (fit_part hfi Try.underlying27 (j := 4) rfl rfl)
        exact ⟨(⟨z0, z1, z2, pa, bn, bf⟩, v3, v4), e0, e1, e2, e3, e4, hp1, hb1, ⟨hp2, hb2, hb3⟩, i0, i1, i2⟩
    obtain ⟨q, hq⟩ := Deep.choose_lt (α := Opc × Value × Value) each
    refine ⟨some a, len, m, fun i => (q i).1, fun i => (q i).2.1, fun i => (q i).2.2, rfl, ⟨?_, fun i hi => (hq i hi).2.2.2.2.2.1, fun i hi => (hq i hi).2.2.2.2.2.2.1⟩, by omega, fun i hi => (hq i hi).2.2.2.2.2.2.2.1, fun i hi => (hq i hi).2.2.2.2.2.2.2.2⟩
    by_cases h0 : len = 0
    · exact .inl h0
    · obtain ⟨b, o, spot⟩ := a
      have hspot : spot = none := by simpa [Addr.add] using World.cell?_spot (hq 0 (by omega)).1
      subst hspot
      refine .inr ⟨b, o, rfl, ?_, fun i hi => ?_⟩
      · have := (hq 0 (by omega)).1
        rw [add_plain] at this
        exact Nat.not_le.2 (World.block_lt_of_cell? W _ this)
      · obtain ⟨h1, h2, h3, h4, h5, _⟩ := hq i hi
        rw [add_plain] at h1 h2 h3 h4 h5
        exact ⟨h1, by rw [← h2, Nat.add_assoc], by rw [← h3, Nat.add_assoc], by rw [← h4, Nat.add_assoc], by rw [← h5, Nat.add_assoc]⟩
/-- A list of batches that came in. -/
structure BassX (X : Nat → Prop) (w : World) (a : Option Addr) (N : Nat) (bs : Nat → Ar) (pv : Nat → Value) : Prop where
  l : N = 0 ∨ ∃ b o, a = some ⟨b, o, none⟩ ∧ ¬ X b ∧ ∀ i, i < N → w.cell? ⟨b, o + i, none⟩ = some (pv i)
  puts : ∀ i, i < N → ArX X w (pv i) (bs i)
theorem BassX.out {X S : Nat → Prop} {w w1 : World} {a : Option Addr} {N : Nat} {bs : Nat → Ar} {pv : Nat → Value} (h : BassX X w a N bs pv) (ho : Out S w w1) (hS : ∀ k, k < w.heap.size → S k → X k) : BassX X w1 a N bs pv := by
  refine ⟨?_, fun i hi => (h.puts i hi).out ho hS⟩
  rcases h.l with h | ⟨b, o, ha, hX, hc⟩
  · exact .inl h
  · exact .inr ⟨b, o, ha, hX, fun i hi => ho.cell (hc i hi) fun hs => hX (hS _ (World.block_lt_of_cell? w _ (hc i hi)) hs)⟩
set_option maxRecDepth 100000 in
theorem open_bass {fuel : Nat} {v : Value} {x : DataW H × List MemPlace} (h : DataW.trod enc Try.prog W 0 (fun _ => true) true fuel 22 [v] = some x) (hf : FitD 22 x.1) :
    ∃ a N cap bs pv, v = .slice a N cap ∧ BassX (fun k => W.heap.size ≤ k) W a N bs pv ∧ N ≤ 5864062014634 ∧ ∀ i, i < N → (bs i).fit := by
  rcases Deep.open_slice1 Try.underlying22 cells24 h with ⟨hcs, hx⟩ | ⟨a, len, cap, m, n, V, D, Pl, hcs, _, hl, hm, hmm, rfl, hx⟩
  · simp only [List.cons.injEq, and_true] at hcs
    subst hcs
    exact ⟨none, 0, 0, default, fun _ => .slice none 0 0, rfl, ⟨.inl rfl, fun _ h => absurd h (Nat.not_lt_zero _)⟩, Nat.zero_le _, fun _ h => absurd h (Nat.not_lt_zero _)⟩
  · simp only [List.cons.injEq, and_true] at hcs
    subst hcs
    have hlen := fit_len hf Try.underlying22
    rw [bytes24] at hlen
    simp at hlen
    simp only [if_true] at hmm
    subst hmm
    have each : ∀ i, i < len → ∃ q : Ar, ArX (fun k => W.heap.size ≤ k) W (V i) q ∧ q.fit := fun i hi => by
      obtain ⟨h1, h2⟩ := hx i (by omega)
      exact open_puts h2 (fit_elem hf Try.underlying22 (i := i) (by simp [hi]))
    obtain ⟨q, hq⟩ := Deep.choose_lt (α := Ar) each
    refine ⟨some a, len, m, q, V, rfl, ⟨?_, fun i hi => (hq i hi).1⟩, by omega, fun i hi => (hq i hi).2⟩
    by_cases h0 : len = 0
    · exact .inl h0
    · obtain ⟨b, o, spot⟩ := a
      have hspot : spot = none := by simpa [Addr.add] using World.cell?_spot (hx 0 (by omega)).1
      subst hspot
      have hc : ∀ i, i < len → W.cell? ⟨b, o + i, none⟩ = some (V i) := fun i hi => by
        have := (hx i (by omega)).1
        rwa [add_plain] at this
      exact .inr ⟨b, o, rfl, Nat.not_le.2 (World.block_lt_of_cell? W _ (hc 0 (by omega))), hc⟩
end
end Go.Proofs.Ytgkkmdebpekckaa
