/- Rows of one's own, in a list: what writing into each, and appending to each, leaves of the others. Conditions: as stated at each. -/
import Derived.Test.YtgkkmdebpekckaaFr
namespace Go.Proofs.Ytgkkmdebpekckaa
open Go.RowKit
/-- A row's cells, by their numbers. -/
def rowL (K : IntKind) (n : Nat) (F : Nat → Int) : List Value := (List.range n).map fun k => Value.int K (F k)
theorem rowL_len (K : IntKind) (n : Nat) (F : Nat → Int) : (rowL K n F).length = n := by simp [rowL]
theorem rowL_get (K : IntKind) (n : Nat) (F : Nat → Int) (k : Nat) (h : k < n) : (rowL K n F)[k]? = some (.int K (F k)) := by simp [rowL, h]
theorem rowL_congr {K : IntKind} {n : Nat} {F G : Nat → Int} (h : ∀ k, k < n → F k = G k) : rowL K n F = rowL K n G := by
  unfold rowL
  apply List.map_congr_left
  intro x hx
  rw [h x (by simpa using hx)]
theorem rowL_set (K : IntKind) (n : Nat) (F : Nat → Int) (k : Nat) (x : Int) : (rowL K n F).set k (.int K x) = rowL K n fun q => if q = k then x else F q := by
  apply List.ext_getElem
  · simp [rowL]
  · intro i h1 h2
    by_cases h : k = i
    · subst h; simp [rowL]
    · have h' : ¬ i = k := fun e => h e.symm
      simp [rowL, h, h']
theorem rowL_snoc (K : IntKind) (n : Nat) (F : Nat → Int) : rowL K n F ++ [.int K (F n)] = rowL K (n + 1) F := by simp [rowL, List.range_succ]
theorem rowL_one (K : IntKind) (n : Nat) (F : Nat → Int) : ∀ u ∈ rowL K n F, u.oneCell' = true := by
  intro u hu
  simp only [rowL, List.mem_map] at hu
  obtain ⟨q, _, rfl⟩ := hu
  rfl
theorem own_form {w : World} {base : Nat} {e : TypeId} {v : Value} {n : Nat} {xs : List Value} (h : w.ownsRow base e 1 v n xs) : ∃ a cap, v = .slice a n cap ∧ n ≤ cap ∧ (n = 0 ∨ ∃ g, a = some ⟨g, 0, none⟩) := by
  rcases h.2 with ⟨rfl, rfl⟩ | ⟨g, cap, cur, rfl, _, _, h1, _⟩
  · exact ⟨none, 0, rfl, Nat.le_refl _, .inl rfl⟩
  · exact ⟨_, _, rfl, h1, .inr ⟨g, rfl⟩⟩
theorem own_base0 {w : World} {b : Nat} {e : TypeId} {sz : Nat} {v : Value} {n : Nat} {xs : List Value} (h : w.ownsRow b e sz v n xs) : w.ownsRow 0 e sz v n xs := by
  obtain ⟨h1, h2⟩ := h
  refine ⟨h1, ?_⟩
  rcases h2 with h2 | ⟨g, cap, cur, hv, hg, r⟩
  · exact .inl h2
  · exact .inr ⟨g, cap, cur, hv, Nat.zero_le _, r⟩
/-- The same row, looked at by an elder value: its first cells. -/
theorem own_view {w w' : World} {base base' : Nat} {e : TypeId} {g n m m0 cap cap' : Nat} {xs ys xs0 : List Value} (h : w.ownsRow base e 1 (.slice (some ⟨g, 0, none⟩) n cap) n xs) (h0 : w.ownsRow base' e 1 (.slice (some ⟨g, 0, none⟩) m0 cap') m0 xs0)
    (h' : w'.ownsRow base' e 1 (.slice (some ⟨g, 0, none⟩) m cap') m (xs ++ ys)) (hm : n ≤ m) : w'.ownsRow base e 1 (.slice (some ⟨g, 0, none⟩) n cap) n xs := by
  rcases h.2 with ⟨hv, _⟩ | ⟨_, _, c1, hv, hb1, hg1, i1, j1, k1, _⟩
  · cases hv
  cases hv
  rcases h0.2 with ⟨hv, _⟩ | ⟨_, _, c2, hv, hb2, hg2, i2, j2, k2, _⟩
  · cases hv
  cases hv
  have e0 : c1 = c2 := by rw [hg1] at hg2; cases hg2; rfl
  subst e0
  have e1 : cap = cap' := by omega
  subst e1
  have := own_shrink h' (by have := h.1; omega) hm
  refine ⟨this.1, ?_⟩
  rcases this.2 with hn | ⟨g', cp, cur, hv, _, r⟩
  · exact .inl hn
  · cases hv
    exact .inr ⟨g, cap, cur, rfl, hb1, r⟩
section
variable (K : IntKind) (E : TypeId)
/-- Rows that share no block. -/
def Apart (N : Nat) (v : Nat → Value) : Prop := ∀ r s, r < N → s < N → r ≠ s → ∀ k, (v r).ownBlock = some k → (v s).ownBlock ≠ some k
/-- N rows, each of one's own. -/
def Rs (w : World) (N : Nat) (v : Nat → Value) (n : Nat → Nat) (F : Nat → Nat → Int) : Prop := ∀ r, r < N → w.ownsRow 0 E 1 (v r) (n r) (rowL K (n r) (F r))
variable {K E}
theorem Rs.set {w : World} {N : Nat} {v : Nat → Value} {n : Nat → Nat} {F : Nat → Nat → Int} (h : Rs K E w N v n F) (ha : Apart N v) {i k g cap : Nat} (hi : i < N) (hv : v i = .slice (some ⟨g, 0, none⟩) (n i) cap) (x : Int) :
    Rs K E (w.setCell ⟨g, k, none⟩ (.int K x)) N v n fun r q => if r = i ∧ q = k then x else F r q := by
  intro r hr
  by_cases e : r = i
  · subst e
    have h1 := h r hr
    rw [hv] at h1 ⊢
    have := own_set h1 k (.int K x)
    rw [rowL_set] at this
    have e2 : (fun q => if r = r ∧ q = k then x else F r q) = fun q => if q = k then x else F r q := by funext q; simp
    show World.ownsRow _ _ _ _ _ _ (rowL K (n r) (fun q => if r = r ∧ q = k then x else F r q))
    rw [e2]
    exact this
  · have e2 : (fun q => if r = i ∧ q = k then x else F r q) = F r := by funext q; simp [e]
    show World.ownsRow _ _ _ _ _ _ (rowL K (n r) (fun q => if r = i ∧ q = k then x else F r q))
    rw [e2]
    exact ownsRow_setCell_other (h r hr) (fun hb => ha r i hr hi e g hb (by rw [hv]; rfl)) _
theorem Rs.congr {w : World} {N : Nat} {v : Nat → Value} {n : Nat → Nat} {F G : Nat → Nat → Int} (h : Rs K E w N v n F) (hFG : ∀ r q, r < N → q < n r → F r q = G r q) : Rs K E w N v n G := by
  intro r hr
  rw [← rowL_congr fun q hq => hFG r q hr hq]
  exact h r hr
theorem Rs.cell {w : World} {N : Nat} {v : Nat → Value} {n : Nat → Nat} {F : Nat → Nat → Int} (h : Rs K E w N v n F) {i k g cap : Nat} (hi : i < N) (hv : v i = .slice (some ⟨g, 0, none⟩) (n i) cap) (hk : k < n i) :
    w.cell? ⟨g, k, none⟩ = some (.int K (F i k)) ∧ w.frozen? ⟨g, k, none⟩ = false := by
  have := h i hi
  rw [hv] at this
  exact own_cell this (rowL_get K _ _ _ hk)
theorem Rs.form {w : World} {N : Nat} {v : Nat → Value} {n : Nat → Nat} {F : Nat → Nat → Int} (h : Rs K E w N v n F) {i : Nat} (hi : i < N) : ∃ a cap, v i = .slice a (n i) cap ∧ n i ≤ cap ∧ (n i = 0 ∨ ∃ g, a = some ⟨g, 0, none⟩) := own_form (h i hi)
theorem Rs.out {S : Nat → Prop} {w w1 : World} {N : Nat} {v : Nat → Value} {n : Nat → Nat} {F : Nat → Nat → Int} (h : Rs K E w N v n F) (ho : Out S w w1) (hS : ∀ r, r < N → ∀ k, (v r).ownBlock = some k → ¬ S k) : Rs K E w1 N v n F :=
  fun r hr => ho.own (h r hr) (hS r hr)
/-- What a longer row holds: n marks, and others behind. -/
def behind (n : Nat) (M L : Nat → Int) (k : Nat) : Int := if k < n then M k else L (k - n)
theorem behind_zero (n : Nat) (M L : Nat → Int) : rowL K n M = rowL K (n + 0) (behind n M L) := rowL_congr fun k hk => by unfold behind; rw [if_pos hk]
theorem behind_snoc (n q : Nat) (M L : Nat → Int) : rowL K (n + q) (behind n M L) ++ [.int K (L q)] = rowL K (n + (q + 1)) (behind n M L) := by
  have := rowL_snoc K (n + q) (behind n M L)
  rw [← Nat.add_assoc, ← this]
  unfold behind
  rw [if_neg (by omega), Nat.add_sub_cancel_left]
theorem behind_split (n q : Nat) (M L : Nat → Int) : rowL K (n + q) (behind n M L) = rowL K n M ++ rowL K q L := by
  induction q with
  | zero => rw [← behind_zero]; simp [rowL]
  | succ q ih => rw [← behind_snoc, ih, List.append_assoc, rowL_snoc]
variable (K E)
/-- Behind i rows of the second loop: w1 is the world where it began. -/
structure L2 (w1 w : World) (TE : TypeId) (N : Nat) (v U : Nat → Value) (n : Nat → Nat) (M L : Nat → Nat → Int) (i : Nat) (lv : Value) : Prop where
  own : Rs K E w N v n M
  old : ∀ r, r < N → ∀ k, (v r).ownBlock = some k → k < w1.heap.size
  new : ∀ r, r < i → w.ownsRow 0 E 1 (U r) (n r + 16) (rowL K (n r + 16) (behind (n r) (M r) (L r)))
  nb : ∀ r, r < i → ∀ k, (U r).ownBlock = some k → (v r).ownBlock = some k ∨ w1.heap.size ≤ k
  long : w.ownsRow w1.heap.size TE 1 lv i ((List.range i).map U)
  lb : ∀ k, lv.ownBlock = some k → ∀ r, r < i → (U r).ownBlock ≠ some k
  out : Out (fun k => ∃ r, r < N ∧ (v r).ownBlock = some k) w1 w
/-- Within a round: q marks are appended to row i. -/
structure In (wr w : World) (v : Nat → Value) (n : Nat → Nat) (M L : Nat → Nat → Int) (i q : Nat) (x : Value) : Prop where
  row : w.ownsRow 0 E 1 x (n i + q) (rowL K (n i + q) (behind (n i) (M i) (L i)))
  xb : ∀ k, x.ownBlock = some k → (v i).ownBlock = some k ∨ wr.heap.size ≤ k
  vi : w.ownsRow 0 E 1 (v i) (n i) (rowL K (n i) (M i))
  out : Out (fun k => (v i).ownBlock = some k) wr w
variable {K E}
theorem In.start {wr : World} {v : Nat → Value} {n : Nat → Nat} {M L : Nat → Nat → Int} {i N : Nat} (h : Rs K E wr N v n M) (hi : i < N) : In K E wr wr v n M L i 0 (v i) :=
  ⟨by rw [← behind_zero]; exact h i hi, fun _ h => .inl h, h i hi, Out.refl _ _⟩
theorem In.step {wr w w' : World} {v : Nat → Value} {n : Nat → Nat} {M L : Nat → Nat → Int} {i q : Nat} {x x' : Value} {o : Obj} (h : In K E wr w v n M L i q x)
    (hx : w'.ownsRow 0 E 1 x' (n i + q + 1) (rowL K (n i + q) (behind (n i) (M i) (L i)) ++ [.int K (L i q)])) (ht : Two (w.heap.size + 1) (w.alloc o) x (n i + q) 1 x' w') : In K E wr w' v n M L i (q + 1) x' := by
  have hrow : w'.ownsRow 0 E 1 x' (n i + (q + 1)) (rowL K (n i + (q + 1)) (behind (n i) (M i) (L i))) := by
    rw [behind_snoc] at hx; exact hx
  have vi0 : (w.alloc o).ownsRow 0 E 1 (v i) (n i) (rowL K (n i) (M i)) := h.vi.alloc o
  have x0 := h.row.alloc o
  rcases ht with ⟨g, cap, rfl, rfl, hg⟩ | ⟨⟨cap, rfl⟩, hg⟩
  · refine ⟨hrow, fun k hk => h.xb k (by simpa [Value.ownBlock] using hk), ?_, (h.out.alloc o).grown hg fun k hk hlt => ?_⟩
    · by_cases e : (v i).ownBlock = some g
      · obtain ⟨a, cp, hv, _, ha⟩ := own_form h.vi
        rw [hv] at e vi0 ⊢
        have ha : a = some ⟨g, 0, none⟩ := by
          rcases h.vi.2 with ⟨h2, _⟩ | ⟨g2, _, _, h2, _⟩
          · rw [hv] at h2; simp only [Value.slice.injEq] at h2; rw [h2.1] at e; cases e
          · rw [hv] at h2; simp only [Value.slice.injEq] at h2; rw [h2.1] at e; rw [h2.1]; cases e; rfl
        subst ha
        rw [behind_split] at hrow
        exact own_view vi0 x0 hrow (by omega)
      · exact vi0.kept hg (.inr e)
    · cases hk
      exact (h.xb g rfl).elim id fun e => by omega
  · refine ⟨hrow, fun k hk => .inr ?_, vi0.kept hg (by cases (v i).ownBlock <;> simp), (h.out.alloc o).grown hg fun k hk _ => by cases hk⟩
    have := h.out.size
    simp [Value.ownBlock] at hk
    omega
theorem L2.longAt {TE : TypeId} {w1 wr w : World} {v U : Nat → Value} {n : Nat → Nat} {M L : Nat → Nat → Int} {i q N : Nat} {lv x : Value} (h : L2 K E w1 wr TE N v U n M L i lv) (hi : i < N) (hI : In K E wr w v n M L i q x) : w.ownsRow w1.heap.size TE 1 lv i ((List.range i).map U) :=
  hI.out.own h.long fun k hk hS => by have := h.long.lt k hk; have := h.old i hi k hS; omega
theorem L2.next {TE : TypeId} {w1 wr w w' : World} {v U : Nat → Value} {n : Nat → Nat} {M L : Nat → Nat → Int} {i N : Nat} {lv lv' x : Value} {o : Obj} (h : L2 K E w1 wr TE N v U n M L i lv) (ha : Apart N v) (hi : i < N) (hI : In K E wr w v n M L i 16 x)
    (hl : w'.ownsRow w1.heap.size TE 1 lv' (i + 1) ((List.range i).map U ++ [x])) (ht : Two (w.heap.size + 1) (w.alloc o) lv i 1 lv' w') : L2 K E w1 w' TE N v (fun r => if r = i then x else U r) n M L (i + 1) lv' := by
  have hs1 := h.out.size
  have hs2 := hI.out.size
  have hlvw : ∀ k, lv.ownBlock = some k → w1.heap.size ≤ k ∧ k < wr.heap.size := h.long.lt
  have hout : Out (fun k => (v i).ownBlock = some k ∨ lv.ownBlock = some k) wr w' := by
    have h0 : Out (fun k => (v i).ownBlock = some k ∨ lv.ownBlock = some k) wr (w.alloc o) := (hI.out.mono fun _ _ e => .inl e).alloc o
    rcases ht with ⟨g, cap, rfl, rfl, hg⟩ | ⟨⟨cap, rfl⟩, hg⟩
    · exact h0.grown hg fun k hk _ => by cases hk; exact .inr rfl
    · exact h0.grown hg fun k hk _ => by cases hk
  have hgx : ∀ {b : Nat} {e : TypeId} {y : Value} {m : Nat} {xs : List Value}, w.ownsRow b e 1 y m xs → (∀ k, y.ownBlock = some k → lv.ownBlock ≠ some k) → w'.ownsRow b e 1 y m xs := by
    intro b e y m xs ho hne
    have ho := ho.alloc o
    rcases ht with ⟨g, cap, rfl, rfl, hg⟩ | ⟨⟨cap, rfl⟩, hg⟩
    · exact ho.kept hg (.inr fun e => hne g e rfl)
    · exact ho.kept hg (by cases y.ownBlock <;> simp)
  have hlvb : ∀ k, lv'.ownBlock = some k → lv.ownBlock = some k ∨ w.heap.size ≤ k := by
    intro k hk
    rcases ht with ⟨g, cap, rfl, rfl, hg⟩ | ⟨⟨cap, rfl⟩, hg⟩
    · exact .inl (by simpa [Value.ownBlock] using hk)
    · simp [Value.ownBlock] at hk
      exact .inr (by omega)
  have hxlt : ∀ k, x.ownBlock = some k → k < w.heap.size := fun k hk => (hI.row.lt k hk).2
  refine ⟨?_, h.old, ?_, ?_, ?_, ?_, ?_⟩
  · intro r hr
    by_cases e : r = i
    · subst e
      exact hgx hI.vi fun k hk e => by have := h.old r hr k hk; have := hlvw k e; omega
    · refine hout.own (h.own r hr) fun k hk hS => ?_
      rcases hS with hS | hS
      · exact ha r i hr hi e k hk hS
      · have := h.old r hr k hk; have := hlvw k hS; omega
  · intro r hr
    by_cases e : r = i
    · subst e
      simp only [if_true]
      refine hgx hI.row fun k hk e => ?_
      rcases hI.xb k hk with h1 | h1
      · have := h.old r hi k h1; have := hlvw k e; omega
      · have := hlvw k e; omega
    · simp only [if_neg e]
      refine hout.own (h.new r (by omega)) fun k hk hS => ?_
      rcases hS with hS | hS
      · rcases h.nb r (by omega) k hk with h1 | h1
        · exact ha r i (by omega) hi e k h1 hS
        · have := h.old i hi k hS; omega
      · exact h.lb k hS r (by omega) hk
  · intro r hr k hk
    by_cases e : r = i
    · subst e
      simp only [if_true] at hk
      rcases hI.xb k hk with h1 | h1
      · exact .inl h1
      · exact .inr (by omega)
    · simp only [if_neg e] at hk
      exact h.nb r (by omega) k hk
  · have e : (List.range (i + 1)).map (fun r => if r = i then x else U r) = (List.range i).map U ++ [x] := by
      rw [List.range_succ, List.map_append]
      congr 1
      · apply List.map_congr_left
        intro r hr
        have := List.mem_range.1 hr
        rw [if_neg (by omega)]
      · simp
    rw [e]
    exact hl
  · intro k hk r hr hu
    by_cases e : r = i
    · subst e
      simp only [if_true] at hu
      rcases hlvb k hk with h1 | h1
      · rcases hI.xb k hu with h2 | h2
        · have := h.old r hi k h2; have := hlvw k h1; omega
        · have := hlvw k h1; omega
      · have := hxlt k hu; omega
    · simp only [if_neg e] at hu
      have hlt := (h.new r (by omega)).lt k hu
      rcases hlvb k hk with h1 | h1
      · exact h.lb k h1 r (by omega) hu
      · omega
  · refine h.out.trans hout fun k hk hS => ?_
    rcases hS with hS | hS
    · exact ⟨i, hi, hS⟩
    · have := hlvw k hS; omega
end
end Go.Proofs.Ytgkkmdebpekckaa
