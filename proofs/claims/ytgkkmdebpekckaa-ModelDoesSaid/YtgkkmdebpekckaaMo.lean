/- Arguments opened: byte lists, lists of puts, lists of those, scripts; and what bounds their lengths. Conditions: none. -/
import Derived.Test.YtgkkmdebpekckaaMn
import Derived.ProofKit
import Derived.OpenShut
import Derived.SizedLaws
import Derived.ChangeSlices
import Derived.Lib.SmallJoins
import Derived.Deep.Slices
import Derived.Deep.SlicePairs
namespace Go.Proofs.Ytgkkmdebpekckaa
open Go.ChangeShapes Go.WideShapes Go.ChangeAt Go.RowKit
theorem laidOut : laidOutB Try.prog = true := by kernel_rfl
theorem own : ownKnob Try.prog.godebug = none := by kernel_rfl
theorem cells5 : Try.prog.cellsOf 5 = 1 := by kernel_rfl
theorem cells3 : Try.prog.cellsOf 3 = 1 := by kernel_rfl
theorem cells25 : Try.prog.cellsOf 25 = 1 := by kernel_rfl
theorem cells24 : Try.prog.cellsOf 24 = 1 := by kernel_rfl
theorem cells47 : Try.prog.cellsOf 47 = 2 := by kernel_rfl
theorem cells27 : Try.prog.cellsOf 27 = 5 := by kernel_rfl
theorem bytes5 : Try.prog.bytesOf 5 = 1 := by kernel_rfl
theorem bytes47 : Try.prog.bytesOf 47 = 32 := by kernel_rfl
theorem bytes27 : Try.prog.bytesOf 27 = 72 := by kernel_rfl
theorem bytes24 : Try.prog.bytesOf 24 = 24 := by kernel_rfl
theorem carryAll {H : Type} {enc : TypeId × Value → H} {P : Program} (hl : laidOutB P = true) {W W' : World} (hb : Below W.heap.size W W') : ∀ (ts : List TypeId) (vs : List Value) (ds : List (DataW H)) (ps : List MemPlace),
    (∀ t ∈ ts, P.readableRec t = true ∧ t < P.types.size) → DataW.TrodAll enc P W 0 (fun _ => true) true ts vs ds ps → (∀ x ∈ ps, x.block < W.heap.size) →
    DataW.TrodAll enc P W' 0 (fun b => decide (b < W.heap.size)) true ts vs ds ps
  | [], _, _, _, _, h, _ => by
    obtain ⟨rfl, rfl, rfl⟩ := trodAll_nil h
    exact trodAll_mk0
  | t :: ts, vs, ds, ps, ht, h, hlt => by
    obtain ⟨v, vs1, d, ds1, a, b, rfl, rfl, rfl, h1, h2⟩ := trodAll_cons h
    exact trodAll_cons_mk (Below.trod hl (ht t (by simp)).1 (ht t (by simp)).2 h1 hb (fun x hx => hlt x (by simp [hx])))
      (carryAll hl hb ts vs1 ds1 b (fun t' ht' => ht t' (by simp [ht'])) h2 (fun x hx => hlt x (by simp [hx])))
theorem mem_weightsAll {H : Type} {P : Program} {e : TypeId} {x : DataW H} {k : Nat} : ∀ {es : List (DataW H)} {i : Nat}, es[i]? = some x → k ∈ x.weights P e → k ∈ DataW.weightsAll P e es
  | y :: r, 0, h, hk => by
    simp only [List.getElem?_cons_zero, Option.some.injEq] at h
    subst h
    simp only [DataW.weightsAll, List.mem_append]
    exact .inl hk
  | y :: r, i + 1, h, hk => by
    simp only [List.getElem?_cons_succ] at h
    simp only [DataW.weightsAll, List.mem_append]
    exact .inr (mem_weightsAll h hk)
/-- What is read of a datum lies within the form's reach. -/
def FitD {H : Type} (t : TypeId) (d : DataW H) : Prop := ∀ k ∈ d.weights Try.prog t, k ≤ 140737488351232
theorem fit_of {H : Type} {ts : List TypeId} {ds : List (DataW H)} {t : TypeId} {d : DataW H} {j : Nat} (hsz : (DataW.weightsEach Try.prog ts ds).all (· ≤ reachBytes) = true) (ht : ts[j]? = some t) (hd : ds[j]? = some d) : FitD t d := fun k hk => by
  have := of_decide_eq_true (List.all_eq_true.1 hsz _ (DataW.weights_mem_each ht hd _ hk))
  simpa only [reachBytes] using this
theorem fit_elem {H : Type} {t e : TypeId} {es sp : List (DataW H)} {x : DataW H} {i : Nat} (h : FitD t (.slice es sp)) (ht : Try.prog.underlying t = some (.slice e)) (hx : es[i]? = some x) : FitD e x := fun k hk =>
  h k (by simp only [DataW.weights, ht, List.mem_cons, List.mem_append]; exact .inr (.inl (mem_weightsAll hx hk)))
theorem fit_len {H : Type} {t e : TypeId} {es sp : List (DataW H)} (h : FitD t (.slice es sp)) (ht : Try.prog.underlying t = some (.slice e)) : (es.length + sp.length) * Try.prog.bytesOf e ≤ 140737488351232 :=
  h _ (by simp only [DataW.weights, ht]; exact List.mem_cons_self)
theorem fit_part {H : Type} {t : TypeId} {fs : Array Field} {ds : List (DataW H)} {x : DataW H} {j : Nat} {f : Field} (h : FitD t (.agg ds)) (ht : Try.prog.underlying t = some (.struct fs)) (hf : fs[j]? = some f) (hx : ds[j]? = some x) : FitD f.type x := fun k hk =>
  h k (by simp only [DataW.weights, ht]; exact DataW.weights_mem_each (by simp [hf]) hx _ hk)
section
variable {H : Type} {enc : TypeId × Value → H} {W : World}
set_option maxRecDepth 100000 in
theorem open_b25 {fuel : Nat} {v : Value} {x : DataW H × List MemPlace} (h : DataW.trod enc Try.prog W 0 (fun _ => true) true fuel 25 [v] = some x) (hf : FitD 25 x.1) :
    ∃ n f, BtsX (fun k => W.heap.size ≤ k) W v n f ∧ Lt n f ∧ n ≤ 140737488351232 := by
  rcases open_ints Try.underlying25 Try.underlying5 cells5 h with ⟨hcs, hx⟩ | ⟨a, len, cap, zs, hcs, _, hl, hm, hz, rfl, hcell, hwz⟩
  · simp only [List.cons.injEq, and_true] at hcs
    subst hcs
    exact ⟨0, fun _ => 0, ⟨_, _, rfl, .inl rfl⟩, fun _ h => absurd h (Nat.not_lt_zero _), Nat.zero_le _⟩
  · simp only [List.cons.injEq, and_true] at hcs
    subst hcs
    simp only [if_true] at hz
    have hw : ∀ k, k < zs.length → 0 ≤ zs.getD k 0 ∧ zs.getD k 0 < 256 := fun k hk => by
      have := hwz (zs.getD k 0) (by rw [List.getD_eq_getElem?_getD, List.getElem?_eq_getElem hk]; exact List.getElem_mem hk)
      have h1 : IntKind.u8.min = 0 := rfl
      have h2 : IntKind.u8.max = 255 := rfl
      simp only [Lit.wf, Bool.and_eq_true, decide_eq_true_eq] at this
      omega
    have hlen := fit_len hf Try.underlying25
    rw [bytes5] at hlen
    simp [lits] at hlen
    refine ⟨len, fun k => (zs.getD k 0).toNat, ⟨_, _, rfl, ?_⟩, fun k hk => by have := hw k (by omega); show (zs.getD k 0).toNat < 256; omega, by omega⟩
    by_cases h0 : len = 0
    · exact .inl h0
    · obtain ⟨b, o, spot⟩ := a
      have hspot : spot = none := by simpa [Addr.add] using World.cell?_spot (hcell 0 (by omega))
      subst hspot
      have hc : ∀ k, k < len → W.cell? ⟨b, o + k, none⟩ = some (.int .u8 (((zs.getD k 0).toNat : Nat) : Int)) := fun k hk => by
        have := hw k (by omega)
        rw [← add_plain, hcell k (by omega), Int.toNat_of_nonneg this.1]
      exact .inr ⟨b, o, rfl, by have := World.block_lt_of_cell? W _ (hc 0 (by omega)); exact Nat.not_le.2 this, hc⟩
def Ar.fit (a : Ar) : Prop := a.N ≤ 4398046510976 ∧ (∀ i, i < a.N → a.len i ≤ 140737488351232) ∧ a.lt
set_option maxRecDepth 100000 in
theorem open_puts {fuel : Nat} {v : Value} {x : DataW H × List MemPlace} (h : DataW.trod enc Try.prog W 0 (fun _ => true) true fuel 24 [v] = some x) (hf : FitD 24 x.1) :
    ∃ a : Ar, ArX (fun k => W.heap.size ≤ k) W v a ∧ a.fit := by
  rcases Deep.open_slice_pairs Try.underlying24 Try.underlying47 cells47 rfl rfl cells3 cells25 h with ⟨hcs, hx⟩ | ⟨a, len, cap, m, n, V0, V1, D0, D1, P0, P1, hcs, _, hl, hm, hmm, rfl, hx⟩
  · simp only [List.cons.injEq, and_true] at hcs
    subst hcs
    exact ⟨⟨0, fun _ => 0, fun _ => 0, fun _ _ => 0⟩, ⟨fun _ => .slice none 0 0, ⟨_, _, rfl, .inl rfl⟩, fun _ h => absurd h (Nat.not_lt_zero _)⟩, Nat.zero_le _, fun _ h => absurd h (Nat.not_lt_zero _), fun _ h => absurd h (Nat.not_lt_zero _)⟩
  · simp only [List.cons.injEq, and_true] at hcs
    subst hcs
    have hlen := fit_len hf Try.underlying24
    rw [bytes47] at hlen
    simp at hlen
    simp only [if_true] at hmm
    subst hmm
    have each : ∀ i, i < len → ∃ q : Int × Nat × (Nat → Nat), V0 i = .int .i64 q.1 ∧ BtsX (fun k => W.heap.size ≤ k) W (V1 i) q.2.1 q.2.2 ∧ Lt q.2.1 q.2.2 ∧ q.2.1 ≤ 140737488351232 := fun i hi => by
      obtain ⟨_, _, h2, h3⟩ := hx i (by omega)
      obtain ⟨z, hz, _, _⟩ := DataW.trod_int Try.underlying3 h2
      simp only [List.cons.injEq, and_true] at hz
      have hfi : FitD 47 (.agg [D0 i, D1 i]) := fit_elem hf Try.underlying24 (i := i) (by simp [hi])
      obtain ⟨n', f', h4, h5, h6⟩ := open_b25 h3 (fit_part hfi Try.underlying47 (j := 1) rfl rfl)
      exact ⟨(z, n', f'), hz, h4, h5, h6⟩
    obtain ⟨q, hq⟩ := Deep.choose_lt (α := Int × Nat × (Nat → Nat)) each
    refine ⟨⟨len, fun i => (q i).1, fun i => (q i).2.1, fun i => (q i).2.2⟩, ⟨V1, ⟨_, _, rfl, ?_⟩, fun i hi => (hq i hi).2.1⟩, ?_, fun i hi => (hq i hi).2.2.2, fun i hi => (hq i hi).2.2.1⟩
    · by_cases h0 : len = 0
      · exact .inl h0
      · obtain ⟨b, o, spot⟩ := a
        have hspot : spot = none := by simpa [Addr.add] using World.cell?_spot (hx 0 (by omega)).1
        subst hspot
        have hc : ∀ i, i < len → W.cell? ⟨b, o + i * 2, none⟩ = some (.int .i64 ((q i).1)) ∧ W.cell? ⟨b, o + i * 2 + 1, none⟩ = some (V1 i) := fun i hi => by
          obtain ⟨h0, h1, _⟩ := hx i (by omega)
          rw [add_plain] at h0 h1
          exact ⟨by rw [h0, (hq i hi).1], by rw [← h1, Nat.add_assoc]⟩
        exact .inr ⟨b, o, rfl, by have := World.block_lt_of_cell? W _ (hc 0 (by omega)).1; exact Nat.not_le.2 this, hc⟩
    · show len ≤ 4398046510976
      omega
end
end Go.Proofs.Ytgkkmdebpekckaa
