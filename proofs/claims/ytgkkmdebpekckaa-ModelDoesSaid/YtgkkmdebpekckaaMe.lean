/- copy onto a row of one's own. Conditions: as stated at each. -/
import Derived.Test.YtgkkmdebpekckaaMd
import Derived.Laws.CopyOwn
import Derived.Deep.RegionLaw
namespace Go.Proofs.Ytgkkmdebpekckaa
open Go.RowKit
theorem Out.setRow {S : Nat → Prop} {a w : World} (h : Out S a w) {g : Nat} (hg : g < a.heap.size → S g) (cs : Array Value) : Out S a (w.setRow g cs) :=
  ⟨h.os, h.tape, h.output, by simp only [World.setRow, Array.size_modify]; exact h.size, fun k hk hs => (setRow_other w g k cs fun e => by subst e; exact hs (hg hk)).trans (h.block k hk hs)⟩
theorem splice_get {α : Type} (L cs : List α) (off k : Nat) (h : off + cs.length ≤ L.length) : (splice L off cs)[k]? = if off ≤ k ∧ k < off + cs.length then cs[k - off]? else L[k]? := by
  unfold splice
  rw [List.getElem?_append, List.length_take, Nat.min_eq_left (by omega)]
  by_cases h1 : k < off
  · rw [if_pos h1, if_neg (by omega), List.getElem?_take, if_pos h1]
  · rw [if_neg h1, List.getElem?_append]
    by_cases h2 : k - off < cs.length
    · rw [if_pos h2, if_pos (by omega)]
    · rw [if_neg h2, if_neg (by omega), List.getElem?_drop]
      congr 1
      omega
theorem splice_take {α : Type} (L cs : List α) (off n : Nat) (h : off + cs.length ≤ n) (hn : n ≤ L.length) : (splice L off cs).take n = splice (L.take n) off cs := by
  apply List.ext_getElem?
  intro k
  have hl : (L.take n).length = n := by rw [List.length_take]; omega
  rw [List.getElem?_take, splice_get _ _ _ _ (by omega), splice_get _ _ _ _ (by omega)]
  by_cases hk : k < n
  · simp [hk]
  · rw [if_neg hk, if_neg (by omega), List.getElem?_take, if_neg hk]
section
variable {P : Program} (w : World)
/-- A copy onto a row of one's own, of one cell an element: as many as the shorter of the two has go over. -/
theorem run_copy_lies (dT sT ty elem : TypeId) (base g n cap off dLen dCap : Nat) (xs : List Value) (hown : w.ownsRow base elem 1 (.slice (some ⟨g, 0, none⟩) n cap) n xs)
    (ad : Addr) (sLen sCap : Nat) (cs : List Value) (hu : P.underlying dT = some (.slice elem)) (hs : (P.info? elem).map (·.size) = some 1)
    (hn : cs.length = Nat.min sLen dLen) (hfit : off + cs.length ≤ n) (hsrc : ∀ j v, cs[j]? = some v → w.cell? (ad.add j) = some v) (h1 : ∀ v ∈ cs, v.oneCell' = true) :
    ∃ w', (Builtin.copy_ #[dT, sT] ty #[.slice (some ⟨g, off, none⟩) dLen dCap, .slice (some ad) sLen sCap]).run P w = .ok (goInt cs.length) w' ∧
      w'.ownsRow base elem 1 (.slice (some ⟨g, 0, none⟩) n cap) n (splice xs off cs) ∧ Out (fun b => b = g) w w' := by
  rcases hown.2 with ⟨hv, _⟩ | ⟨g', cap', cur, hv, hb, hg, i1, i2, i3, i4⟩
  · cases hv
  cases hv
  refine ⟨_, run_copy_row P w dT sT ty elem g off dLen dCap ad sLen sCap cur elem cs hu hs hg hn hsrc (by omega) h1, ?_, Out.setRow (S := fun b => b = g) (Out.refl _ _) (g := g) (fun _ => rfl) _⟩
  have hl : off + cs.length ≤ cur.toList.length := by simp; omega
  have e0 : cur.toList.take off ++ cs ++ cur.toList.drop (off + cs.length) = splice cur.toList off cs := by rw [List.append_assoc]; rfl
  rw [e0]
  refine ⟨by rw [length_splice _ _ _ (by have := hown.1; omega)]; exact hown.1, .inr ⟨g, cap, _, rfl, hb, setRow_heap w g cur _ elem _ hg, i1, i2, ?_, ?_⟩⟩
  · show (splice cur.toList off cs).toArray.size = _
    rw [List.size_toArray, length_splice _ _ _ hl]
    simpa using i3
  · show (splice cur.toList off cs).take _ = _
    rw [splice_take _ _ _ _ (by omega) (by simp; omega), i4]
theorem wpList_copy_lies {ops : Array Oper} {rest : List Oper} {o : Oper} {a : Act} {Q : Exit → Act → World → Prop} (hgd : o.guard = none) (d s : Operand) (dT sT : TypeId)
    (ho : o.op = .call { callee := .builtin .copy, args := #[d, s], argTypes := #[dT, sT] }) (elem : TypeId) (base g n cap off dLen dCap : Nat) (xs : List Value) (hown : w.ownsRow base elem 1 (.slice (some ⟨g, 0, none⟩) n cap) n xs)
    (ad : Addr) (sLen sCap : Nat) (cs : List Value) (hu : P.underlying dT = some (.slice elem)) (hs : (P.info? elem).map (·.size) = some 1)
    (hd : a.eval d = .slice (some ⟨g, off, none⟩) dLen dCap) (hx : a.eval s = .slice (some ad) sLen sCap)
    (hn : cs.length = Nat.min sLen dLen) (hfit : off + cs.length ≤ n) (hsrc : ∀ j v, cs[j]? = some v → w.cell? (ad.add j) = some v) (h1 : ∀ v ∈ cs, v.oneCell' = true)
    (h : ∀ w', w'.ownsRow base elem 1 (.slice (some ⟨g, 0, none⟩) n cap) n (splice xs off cs) → Out (fun b => b = g) w w' → wpList P ops Q rest (a.put o.dst (goInt cs.length)) w') : wpList P ops Q (o :: rest) a w :=
  wpList_plain hgd fun K hK => by
    obtain ⟨w', hr, h2, h3⟩ := run_copy_lies (P := P) w dT sT o.type elem base g n cap off dLen dCap xs hown ad sLen sCap cs hu hs hn hfit hsrc h1
    unfold Oper.wp execOp
    simp only [ho, resolve, invoke, builtin, Sem.run_bind, Sem.run_pure, Result.andThen_ok, List.map_toArray, List.map_cons, List.map_nil, hd, hx, hr]
    exact hK _ _ (h w' h2 h3)
theorem step_copy_lies {ops : Array Oper} {o : Oper} {a : Act} {K : Act → World → Prop} {Q : Exit → Act → World → Prop} {E : Prop} (hgd : o.guard = none) (d s : Operand) (dT sT : TypeId)
    (ho : o.op = .call { callee := .builtin .copy, args := #[d, s], argTypes := #[dT, sT] }) (elem : TypeId) (base g n cap off dLen dCap : Nat) (xs : List Value) (hown : w.ownsRow base elem 1 (.slice (some ⟨g, 0, none⟩) n cap) n xs)
    (ad : Addr) (sLen sCap : Nat) (cs : List Value) (hu : P.underlying dT = some (.slice elem)) (hs : (P.info? elem).map (·.size) = some 1)
    (hd : a.eval d = .slice (some ⟨g, off, none⟩) dLen dCap) (hx : a.eval s = .slice (some ad) sLen sCap)
    (hn : cs.length = Nat.min sLen dLen) (hfit : off + cs.length ≤ n) (hsrc : ∀ j v, cs[j]? = some v → w.cell? (ad.add j) = some v) (h1 : ∀ v ∈ cs, v.oneCell' = true)
    (h : ∀ w', w'.ownsRow base elem 1 (.slice (some ⟨g, 0, none⟩) n cap) n (splice xs off cs) → Out (fun b => b = g) w w' → K (a.put o.dst (goInt cs.length)) w') :
    if Region.wanted o (yielded ops a.tmps) = true then Oper.wp P o a w K Q else E := by
  have hw : Region.wanted o (yielded ops a.tmps) = true := by simp [Region.wanted, hgd]
  rw [if_pos hw]
  obtain ⟨w', hr, h2, h3⟩ := run_copy_lies (P := P) w dT sT o.type elem base g n cap off dLen dCap xs hown ad sLen sCap cs hu hs hn hfit hsrc h1
  unfold Oper.wp execOp
  simp only [ho, resolve, invoke, builtin, Sem.run_bind, Sem.run_pure, Result.andThen_ok, List.map_toArray, List.map_cons, List.map_nil, hd, hx, hr]
  exact h w' h2 h3
end
end Go.Proofs.Ytgkkmdebpekckaa
