/- An argument that is a list of rows of bytes, opened; bounds by the form's reach. Conditions: none. -/
import Derived.Test.YtnjcnnjdogdbdaaXw2
import Derived.Deep.Matrix
namespace Go.Proofs.Ytnjcnnjdogdbdaa
open Go.ChangeShapes Go.WideShapes Go.ChangeAt Go.RowKit
theorem cells25 : Try.prog.cellsOf 25 = 1 := by kernel_rfl
theorem bytes25 : Try.prog.bytesOf 25 = 24 := by kernel_rfl
/-- A list of rows that came in. -/
structure CameM (W : World) (v : Value) (N : Nat) (rv : Nat → Value) (n : Nat → Nat) (f : Nat → Nat → Nat) : Prop where
  l : (∃ a cap, v = .slice a 0 cap ∧ N = 0) ∨ ∃ b o cap, v = .slice (some ⟨b, o, none⟩) N cap ∧ 0 < N ∧ N ≤ cap ∧ cap ≤ maxLen ∧ ∀ k, k < N → W.cell? ⟨b, o + k, none⟩ = some (rv k)
  r : ∀ i, i < N → Came W (rv i) (n i) (f i)
  lt : ∀ i, i < N → Lt (n i) (f i)
theorem CameM.rows {W : World} {v : Value} {N : Nat} {rv : Nat → Value} {n : Nat → Nat} {f : Nat → Nat → Nat} (h : CameM W v N rv n f) : Rows2 W v N rv n f := by
  refine ⟨?_, fun i hi => (h.r i hi).bts, h.lt⟩
  rcases h.l with ⟨a, cap, rfl, rfl⟩ | ⟨b, o, cap, rfl, _, _, _, hc⟩
  · exact ⟨_, _, rfl, .inl rfl⟩
  · exact ⟨_, _, rfl, .inr ⟨b, o, rfl, hc⟩⟩
def SzM {H : Type} (d : DataW H) (N : Nat) (n : Nat → Nat) : Prop :=
  N = 0 ∨ ∃ es sp, d = .slice es sp ∧ es.length = N ∧ ∀ i, i < N → n i = 0 ∨ ∃ es' sp', es[i]? = some (.slice es' sp') ∧ es'.length = n i
set_option maxRecDepth 100000 in
theorem open_mat {H : Type} {enc : TypeId × Value → H} {W : World} {base : Nat} {v : Value} {d : DataW H} {p : List MemPlace} (hval : Value.okWide Try.prog W .any base 22 v) (h : DataW.Trod enc Try.prog W 0 (fun _ => true) true 22 v d p) :
    ∃ N rv n f, CameM W v N rv n f ∧ SzM d N n := by
  obtain ⟨a0, len, cap, rfl⟩ := okWide_slice Try.underlying22 hval
  obtain ⟨fuel, hf⟩ := h
  rcases Deep.open_int_rows Try.underlying22 Try.underlying25 Try.underlying5 cells25 cells5 hf with ⟨hcs, hx⟩ | ⟨a, len', cap', A, L, C, Z, hcs, _, hl, hm, hx, hrows⟩
  · simp [Value.cells] at hcs
    obtain ⟨rfl, rfl, rfl⟩ := hcs
    exact ⟨0, fun _ => .slice none 0 0, fun _ => 0, fun _ _ => 0, ⟨.inl ⟨_, _, rfl, rfl⟩, fun _ h => absurd h (Nat.not_lt_zero _), fun _ h => absurd h (Nat.not_lt_zero _)⟩, .inl rfl⟩
  · simp [Value.cells] at hcs
    obtain ⟨rfl, rfl, rfl⟩ := hcs
    simp only [Prod.mk.injEq] at hx
    obtain ⟨rfl, rfl⟩ := hx
    have hw : ∀ i, i < len → ∀ k, k < L i → 0 ≤ (Z i).getD k 0 ∧ (Z i).getD k 0 < 256 := fun i hi k hk => by
      obtain ⟨_, h1, _, h2, h3, _⟩ := hrows i (by omega)
      have hk' : k < (Z i).length := by omega
      have := h3 ((Z i).getD k 0) (by rw [List.getD_eq_getElem?_getD, List.getElem?_eq_getElem hk']; exact List.getElem_mem hk')
      have h1 : IntKind.u8.min = 0 := rfl
      have h2 : IntKind.u8.max = 255 := rfl
      simp only [Lit.wf, Bool.and_eq_true, decide_eq_true_eq] at this
      omega
    refine ⟨len, fun i => .slice (A i) (L i) (C i), L, fun i k => ((Z i).getD k 0).toNat, ⟨?_, fun i hi => ?_, fun i hi k hk => ?_⟩, .inr ⟨_, _, rfl, by simp, fun i hi => ?_⟩⟩
    · by_cases h0 : len = 0
      · subst h0
        exact .inl ⟨_, _, rfl, rfl⟩
      · obtain ⟨b, o, spot⟩ := a
        have hspot : spot = none := by simpa [Addr.add] using World.cell?_spot (hrows 0 (by omega)).1
        subst hspot
        exact .inr ⟨b, o, cap, rfl, by omega, hl, hm, fun k hk => by rw [← add_plain]; exact (hrows k (by omega)).1⟩
    · obtain ⟨h0, h1, h2, h3, h4, h5, h6⟩ := hrows i (by omega)
      by_cases hL : L i = 0
      · exact .inl ⟨A i, C i, by rw [hL], hL⟩
      · rcases hA : A i with _ | a'
        · have := h5 hA
          omega
        · obtain ⟨_, hc⟩ := h6 a' hA
          obtain ⟨b, o, spot⟩ := a'
          have hspot : spot = none := by simpa [Addr.add] using World.cell?_spot (hc 0 (by omega))
          subst hspot
          refine .inr ⟨b, o, C i, rfl, h1, h2, fun k hk => ?_⟩
          have := hw i hi k hk
          rw [← add_plain, hc k (by omega)]
          show some (Value.int .u8 ((Z i).getD k 0)) = some (.int .u8 ((((Z i).getD k 0).toNat : Nat) : Int))
          rw [Int.toNat_of_nonneg this.1]
    · have := hw i hi k hk
      show ((Z i).getD k 0).toNat < 256
      omega
    · obtain ⟨h0, h1, h2, h3, h4, h5, h6⟩ := hrows i (by omega)
      rcases hA : A i with _ | a'
      · have := h5 hA
        left
        omega
      · right
        refine ⟨lits .u8 ((Z i).take (L i)), lits .u8 ((Z i).drop (L i)), ?_, by simp [lits]; omega⟩
        simp [hi, Deep.intRow, hA]
theorem mem_weightsAll {H : Type} {P : Program} {e : TypeId} {x : DataW H} {k : Nat} : ∀ {es : List (DataW H)} {i : Nat}, es[i]? = some x → k ∈ x.weights P e → k ∈ DataW.weightsAll P e es
  | y :: r, 0, h, hk => by
    simp only [List.getElem?_cons_zero, Option.some.injEq] at h
    subst h
    simp only [DataW.weightsAll, List.mem_append]
    exact .inl hk
  | y :: r, i + 1, h, hk => by
    simp only [List.getElem?_cons_succ] at h
    simp only [DataW.weightsAll, List.mem_append]
    exact .inr (mem_weightsAll h hk)
set_option maxRecDepth 100000 in
theorem bndM {H : Type} {ts : List TypeId} {ds : List (DataW H)} {d : DataW H} {j N : Nat} {n : Nat → Nat} (hsz : (DataW.weightsEach Try.prog ts ds).all (· ≤ reachBytes) = true) (ht : ts[j]? = some 22) (hd : ds[j]? = some d) (ho : SzM d N n) :
    (N : Int) ≤ 140737488351232 ∧ ∀ i, i < N → (n i : Int) ≤ 140737488351232 := by
  rcases ho with rfl | ⟨es, sp, rfl, rfl, hr⟩
  · exact ⟨by omega, fun i h => absurd h (Nat.not_lt_zero _)⟩
  · constructor
    · have := sized_slice hsz ht hd Try.underlying22
      rw [bytes25] at this
      simp only [reachBytes] at this
      omega
    · intro i hi
      rcases hr i hi with h0 | ⟨es', sp', h1, h2⟩
      · omega
      · have hm : (es'.length + sp'.length) * Try.prog.bytesOf 5 ∈ (DataW.slice es sp : DataW H).weights Try.prog 22 := by
          simp only [DataW.weights, Try.underlying22, List.mem_cons, List.mem_append]
          exact .inr (.inl (mem_weightsAll h1 (by simp [DataW.weights, Try.underlying25])))
        have := of_decide_eq_true (List.all_eq_true.1 hsz _ (DataW.weights_mem_each ht hd _ hm))
        rw [bytes5] at this
        simp only [reachBytes] at this
        omega
end Go.Proofs.Ytnjcnnjdogdbdaa
