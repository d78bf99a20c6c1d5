/- Frames: what a call leaves as it was but for some blocks; an append told in both its ways. Conditions: as stated at each. -/
import Derived.WalkKit
import Derived.Handy
import Derived.Lib.Hide
import Derived.OneCell
import Derived.Laws.AppendOwn
import Derived.Deep.QuietTactic
namespace Go.Proofs.Ytgkkmdebpekckaa
open Go.RowKit
/-- But for the blocks that S names, w1 is as w was. -/
structure Out (S : Nat → Prop) (w w1 : World) : Prop where
  os : w1.os = w.os
  tape : w1.tape = w.tape
  output : w1.output = w.output
  size : w.heap.size ≤ w1.heap.size
  block : ∀ k, k < w.heap.size → ¬ S k → w1.heap[k]? = w.heap[k]?
theorem Out.refl (S : Nat → Prop) (w : World) : Out S w w := ⟨rfl, rfl, rfl, Nat.le_refl _, fun _ _ _ => rfl⟩
theorem Out.mono {S T : Nat → Prop} {a b : World} (h : Out S a b) (hS : ∀ k, k < a.heap.size → S k → T k) : Out T a b :=
  ⟨h.os, h.tape, h.output, h.size, fun k hk ht => h.block k hk fun hs => ht (hS k hk hs)⟩
/-- What comes behind may touch new blocks besides. -/
theorem Out.trans {S T : Nat → Prop} {a b c : World} (h : Out S a b) (k : Out T b c) (hT : ∀ k, k < a.heap.size → T k → S k) : Out S a c :=
  ⟨k.os.trans h.os, k.tape.trans h.tape, k.output.trans h.output, Nat.le_trans h.size k.size, fun i hi hs => (k.block i (Nat.lt_of_lt_of_le hi h.size) fun ht => hs (hT i hi ht)).trans (h.block i hi hs)⟩
theorem Out.tr {S : Nat → Prop} {a b c : World} (h : Out S a b) (k : Out S b c) : Out S a c := h.trans k fun _ _ h => h
theorem Out.of_below {S : Nat → Prop} {w w1 : World} (h : Below w.heap.size w w1) : Out S w w1 := ⟨h.os, h.tape, h.output, h.size, fun k hk _ => h.block k hk⟩
theorem Out.then {S : Nat → Prop} {a b c : World} (h : Out S a b) (k : Below b.heap.size b c) : Out S a c := h.tr (Out.of_below k)
theorem Out.below {S : Nat → Prop} {B : Nat} {w w1 : World} (h : Out S w w1) (hS : ∀ k, k < w.heap.size → S k → B ≤ k) (hB : B ≤ w.heap.size) : Below B w w1 :=
  ⟨h.os, h.tape, h.output, h.size, fun k hk => h.block k (by omega) fun hs => by have := hS k (by omega) hs; omega⟩
theorem Out.alloc {S : Nat → Prop} {a w : World} (h : Out S a w) (o : Obj) : Out S a (w.alloc o) :=
  h.tr ⟨rfl, rfl, rfl, by simp, fun k hk _ => Below.heap_alloc _ _ _ hk⟩
theorem Out.drewN {S : Nat → Prop} {a w : World} (h : Out S a w) (n : Nat) : Out S a (w.drewN n) := h.tr ⟨rfl, rfl, rfl, Nat.le_refl _, fun _ _ _ => rfl⟩
theorem Out.drew {S : Nat → Prop} {a w : World} (h : Out S a w) : Out S a w.drew := h.tr ⟨rfl, rfl, rfl, Nat.le_refl _, fun _ _ _ => rfl⟩
theorem Out.setCell {S : Nat → Prop} {a w : World} (h : Out S a w) {p : Addr} (hp : p.block < a.heap.size → S p.block) (u : Value) : Out S a (w.setCell p u) :=
  ⟨h.os, h.tape, h.output, by simp only [World.size_setCell]; exact h.size, fun k hk hs => (Below.heap_setCell _ _ _ _ fun e => by subst e; exact hs (hp hk)).trans (h.block k hk hs)⟩
theorem Out.grown {S : Nat → Prop} {a w w' : World} {row : Option Nat} (h : Out S a w) (hg : w.grownBy w' row) (hr : ∀ k, row = some k → k < a.heap.size → S k) : Out S a w' :=
  ⟨hg.os.trans h.os, hg.tape.trans h.tape, hg.output.trans h.output, Nat.le_trans h.size hg.size, fun k hk hs => (hg.block k (Nat.lt_of_lt_of_le hk h.size) fun e => hs (hr k e.symm hk)).trans (h.block k hk hs)⟩
theorem Out.heap {S : Nat → Prop} {w w1 : World} (h : Out S w w1) {b : Nat} {o : Obj} (hb : w.heap[b]? = some o) (hS : ¬ S b) : w1.heap[b]? = some o :=
  (h.block b (Array.getElem?_eq_some_iff.1 hb).1 hS).trans hb
theorem Out.own {S : Nat → Prop} {w w1 : World} (h : Out S w w1) {base : Nat} {e : TypeId} {size : Nat} {v : Value} {n : Nat} {xs : List Value} (ho : w.ownsRow base e size v n xs) (hS : ∀ k, v.ownBlock = some k → ¬ S k) : w1.ownsRow base e size v n xs := by
  refine ⟨ho.1, ?_⟩
  rcases ho.2 with hn | ⟨g, cap, cur, rfl, hb, hg, r⟩
  · exact .inl hn
  · exact .inr ⟨g, cap, cur, rfl, hb, h.heap hg (hS g rfl), r⟩
theorem own_keep {w w1 : World} (h : Below w.heap.size w w1) {base : Nat} {e : TypeId} {size : Nat} {v : Value} {n : Nat} {xs : List Value} (ho : w.ownsRow base e size v n xs) : w1.ownsRow base e size v n xs :=
  (Out.of_below (S := fun _ => False) h).own ho fun _ _ h => h
theorem own_shrink {w : World} {base : Nat} {e : TypeId} {g n m cap : Nat} {xs ys : List Value} (h : w.ownsRow base e 1 (.slice (some ⟨g, 0, none⟩) m cap) m (xs ++ ys)) (hn : xs.length = n) (hm : n ≤ m) : w.ownsRow base e 1 (.slice (some ⟨g, 0, none⟩) n cap) n xs := by
  refine ⟨by omega, ?_⟩
  rcases h.2 with ⟨hv, _⟩ | ⟨g', cap', cur, hv, hb, hg, h1, h2, h3, h4⟩
  · cases hv
  · cases hv
    refine .inr ⟨g, cap, cur, rfl, hb, hg, by omega, h2, h3, ?_⟩
    have := congrArg (List.take n) h4
    rw [List.take_take, Nat.mul_one, Nat.min_eq_left hm] at this
    rw [Nat.mul_one, this, ← hn, List.take_left]
/-- One cell of a row of one's own is written. -/
theorem own_set {w : World} {base : Nat} {e : TypeId} {g n cap : Nat} {xs : List Value} (h : w.ownsRow base e 1 (.slice (some ⟨g, 0, none⟩) n cap) n xs) (k : Nat) (u : Value) : (w.setCell ⟨g, k, none⟩ u).ownsRow base e 1 (.slice (some ⟨g, 0, none⟩) n cap) n (xs.set k u) := by
  refine ⟨by rw [List.length_set]; exact h.1, ?_⟩
  rcases h.2 with ⟨hv, _⟩ | ⟨g', cap', cur, hv, hb, hg, h1, h2, h3, h4⟩
  · cases hv
  · cases hv
    refine .inr ⟨g, cap, _, rfl, hb, heap_setCell_same w g k cur e u hg, h1, h2, by simpa using h3, ?_⟩
    rw [← h4]
    simp [List.take_set]
theorem own_cell {w : World} {base : Nat} {e : TypeId} {g n cap : Nat} {xs : List Value} (h : w.ownsRow base e 1 (.slice (some ⟨g, 0, none⟩) n cap) n xs) {k : Nat} {u : Value} (hk : xs[k]? = some u) : w.cell? ⟨g, k, none⟩ = some u ∧ w.frozen? ⟨g, k, none⟩ = false := by
  rcases h.2 with ⟨hv, _⟩ | ⟨g', cap', cur, hv, hb, hg, h1, h2, h3, h4⟩
  · cases hv
  · cases hv
    refine ⟨?_, frozen_of_row w g k cur e hg⟩
    rw [cell_of_row w g k cur e (0, 0) hg, ← hk, ← h4, List.getElem?_take, if_pos]
    · simp
    · have := (List.getElem?_eq_some_iff.1 hk).1
      rw [h.1] at this
      exact this
/-- What an append to a row of one's own does: it stays where it was, longer; or it lies in a new block, and nothing else is touched. -/
def Two (s : Nat) (W : World) (v : Value) (n m : Nat) (v' : Value) (w' : World) : Prop :=
  (∃ g cap, v = .slice (some ⟨g, 0, none⟩) n cap ∧ v' = .slice (some ⟨g, 0, none⟩) (n + m) cap ∧ W.grownBy w' (some g)) ∨ ((∃ cap, v' = .slice (some ⟨s, 0, none⟩) (n + m) cap) ∧ W.grownBy w' none)
theorem Two.keep {s : Nat} {W w' : World} {lv lv' : Value} {N q : Nat} (ht : Two s W lv N q lv' w') {b : Nat} {e : TypeId} {sz m : Nat} {y : Value} {xs : List Value} (ho : W.ownsRow b e sz y m xs) (hne : ∀ k, y.ownBlock = some k → lv.ownBlock ≠ some k) : w'.ownsRow b e sz y m xs := by
  rcases ht with ⟨g, cap, rfl, rfl, hg⟩ | ⟨⟨cap, rfl⟩, hg⟩
  · exact ho.kept hg (.inr fun e => hne g e rfl)
  · exact ho.kept hg (by cases y.ownBlock <;> simp)
theorem Two.block {s : Nat} {W w' : World} {lv lv' : Value} {N q : Nat} (ht : Two s W lv N q lv' w') {k : Nat} (hk : lv'.ownBlock = some k) : lv.ownBlock = some k ∨ k = s := by
  rcases ht with ⟨g, cap, rfl, rfl, hg⟩ | ⟨⟨cap, rfl⟩, hg⟩
  · exact .inl (by simpa [Value.ownBlock] using hk)
  · simp [Value.ownBlock] at hk
    exact .inr hk.symm
theorem Two.out {s : Nat} {a W w' : World} {lv lv' : Value} {N q : Nat} {S : Nat → Prop} (ht : Two s W lv N q lv' w') (h : Out S a W) (hS : ∀ k, lv.ownBlock = some k → k < a.heap.size → S k) : Out S a w' := by
  rcases ht with ⟨g, cap, rfl, rfl, hg⟩ | ⟨⟨cap, rfl⟩, hg⟩
  · exact h.grown hg fun k hk => by cases hk; exact hS _ rfl
  · exact h.grown hg fun k hk => by cases hk
theorem Two.heap {s : Nat} {W w' : World} {lv lv' : Value} {N q : Nat} (ht : Two s W lv N q lv' w') {p : Nat} {o : Obj} (h : W.heap[p]? = some o) (hne : lv.ownBlock ≠ some p) : w'.heap[p]? = some o :=
  (ht.out (S := fun k => lv.ownBlock = some k) (Out.refl _ _) fun _ h _ => h).heap h hne
theorem Two.below {s B : Nat} {a W w' : World} {lv lv' : Value} {N q : Nat} (ht : Two s W lv N q lv' w') (h : Below B a W) (hB : B ≤ W.heap.size) (hS : ∀ k, lv.ownBlock = some k → B ≤ k) : Below B a w' := by
  rcases ht with ⟨g, cap, rfl, rfl, hg⟩ | ⟨⟨cap, rfl⟩, hg⟩
  · exact h.grown hg hB fun k hk => by cases hk; exact hS _ rfl
  · exact h.grown hg hB fun k hk => by cases hk
section
variable {P : Program} (w : World)
/-- An append to a row of one's own: it stays where it was, longer; or it lies in a new block, and nothing else is touched. -/
theorem run_append_two (base : Nat) (t ty e : TypeId) (i : TypeInfo) (z : Value) (size bytes : Nat) (ht : P.underlying t = some (.slice e)) (hi : P.info? e = some i) (hz : i.zero = some z)
    (hsize : i.size = size) (hby : i.bytes = bytes) (hzs : z.cells.size = size) (hsz : 0 < size)
    (v : Value) (n : Nat) (xs : List Value) (hown : w.ownsRow base e size v n xs)
    (a : Addr) (m c : Nat) (news : List Value) (hl : news.length = m * size) (hnews : ∀ j u, news[j]? = some u → w.cell? (a.add j) = some u) (h1 : ∀ u ∈ news, u.oneCell' = true)
    (hm : 0 < m) (h63 : n + m ≤ maxLen) (hbytes : (n + m) * bytes ≤ 140737488355328) (hbase : base ≤ w.heap.size) :
    ∃ v' w', (Builtin.append_ #[t, t] ty #[v, .slice (some a) m c]).run P w = .ok v' w' ∧ w'.ownsRow base e size v' (n + m) (xs ++ news) ∧
      ((∃ g cap, v = .slice (some ⟨g, 0, none⟩) n cap ∧ v' = .slice (some ⟨g, 0, none⟩) (n + m) cap ∧ w.grownBy w' (some g)) ∨ ((∃ cap, v' = .slice (some ⟨w.heap.size, 0, none⟩) (n + m) cap) ∧ w.grownBy w' none)) := by
  obtain ⟨v', w', hr, ho, hg, -⟩ := run_append_own (P := P) w base t ty e i z size bytes ht hi hz hsize hby hzs hsz v n xs hown a m c news hl hnews h1 h63 hbytes hbase
  refine ⟨v', w', hr, ho, ?_⟩
  subst hsize
  subst hby
  have hsmall : n + m ≤ 9223372036854775807 := by simp only [maxLen] at h63; omega
  have fresh : ∀ o, w.grownBy (w.drew.alloc o) none := fun o => ⟨rfl, rfl, rfl, by simp, fun k hk _ => Below.heap_alloc w.drew o k hk⟩
  rcases hown.2 with ⟨rfl, rfl⟩ | ⟨g, cap, cur, rfl, hbg, hgg, hnc, hcm, hcs, htake⟩
  · have := run_append_nil (P := P) w t ty e i z ht hi hz a m c news hl hnews hm (by omega) (by have hb := hbytes; simp only [Nat.zero_add] at hb; omega)
    rw [this] at hr
    cases hr
    exact .inr ⟨⟨_, by rw [Nat.zero_add]⟩, fresh _⟩
  · by_cases hroom : n + m ≤ cap
    · have hfit : n * i.size + news.length ≤ cur.size := by rw [hl, hcs, ← Nat.add_mul]; exact Nat.mul_le_mul_right _ hroom
      have := run_append_room (P := P) w t ty e i ht hi g n cap cur hgg a m c news hl hnews h1 hroom hfit
      rw [this] at hr
      cases hr
      exact .inl ⟨g, cap, rfl, rfl, hg⟩
    · have holds : ∀ j u, xs[j]? = some u → w.cell? ((⟨g, 0, none⟩ : Addr).add j) = some u := hown.cells (g := g) rfl
      have := run_append_grow (P := P) w t ty e i z ht hi hz ⟨g, 0, none⟩ n cap xs hown.1 holds a m c news hl hnews (by omega) (by omega) (growslice_fits (by omega) hbytes)
      rw [this] at hr
      cases hr
      exact .inr ⟨⟨_, rfl⟩, fresh _⟩
theorem wpList_append_two {ops : Array Oper} {rest : List Oper} {o : Oper} {a : Act} {Q : Exit → Act → World → Prop} (hgd : o.guard = none) (s x : Operand) (t : TypeId)
    (ho : o.op = .call { callee := .builtin .append, args := #[s, x], argTypes := #[t, t] })
    (base : Nat) (e : TypeId) (i : TypeInfo) (z : Value) (size bytes : Nat) (ht : P.underlying t = some (.slice e)) (hi : P.info? e = some i) (hz : i.zero = some z)
    (hsize : i.size = size) (hby : i.bytes = bytes) (hzs : z.cells.size = size) (hsz : 0 < size)
    (v : Value) (n : Nat) (xs : List Value) (hs : a.eval s = v) (hown : w.ownsRow base e size v n xs)
    (ad : Addr) (m c : Nat) (news : List Value) (hx : a.eval x = .slice (some ad) m c) (hl : news.length = m * size) (hnews : ∀ j u, news[j]? = some u → w.cell? (ad.add j) = some u) (h1 : ∀ u ∈ news, u.oneCell' = true)
    (hm : 0 < m) (h63 : n + m ≤ maxLen) (hbytes : (n + m) * bytes ≤ 140737488355328) (hbase : base ≤ w.heap.size)
    (h : ∀ v' w', w'.ownsRow base e size v' (n + m) (xs ++ news) → Two w.heap.size w v n m v' w' → wpList P ops Q rest (a.put o.dst v') w') : wpList P ops Q (o :: rest) a w :=
  wpList_plain hgd fun K hK => by
    obtain ⟨v', w', hr, h2, h3⟩ := run_append_two (P := P) w base t o.type e i z size bytes ht hi hz hsize hby hzs hsz v n xs hown ad m c news hl hnews h1 hm h63 hbytes hbase
    unfold Oper.wp execOp
    simp only [ho, resolve, invoke, builtin, Sem.run_bind, Sem.run_pure, Result.andThen_ok, List.map_toArray, List.map_cons, List.map_nil, hs, hx, hr]
    exact hK _ _ (h v' w' h2 h3)
end
end Go.Proofs.Ytgkkmdebpekckaa
