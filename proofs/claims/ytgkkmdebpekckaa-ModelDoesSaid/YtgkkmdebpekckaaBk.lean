/- The book of lists that came out: Bytes (or its like) puts one in; Own tells that each is its owner's. Conditions: as stated at each. -/
import Derived.Test.YtgkkmdebpekckaaOz
namespace Go.Proofs.Ytgkkmdebpekckaa
open Go.RowKit
/-- The book's own cells: the list at field 0, the others nil. -/
def bkCells (lv : Value) : Array Value := #[lv, .slice none 0 0, .slice none 0 0, .slice none 0 0, .slice none 0 0, .slice none 0 0, .slice none 0 0, .slice none 0 0, .slice none 0 0, .slice none 0 0, .slice none 0 0, .slice none 0 0]
/-- A book of N lists. -/
structure BookS (w : World) (bk : Nat) (lv : Value) (N : Nat) (v : Nat → Value) (n : Nat → Nat) (F : Nat → Nat → Int) : Prop where
  hb : w.heap[bk]? = some (.cells (bkCells lv) 64 (0, 0))
  long : w.ownsRow 0 25 1 lv N ((List.range N).map v)
  lb : ∀ k, lv.ownBlock = some k → k ≠ bk ∧ ∀ r, r < N → (v r).ownBlock ≠ some k
  rows : Rs .u8 5 w N v n F
  dis : Apart N v
  nb : ∀ r, r < N → (v r).ownBlock ≠ some bk
theorem BookS.start {w : World} {bk : Nat} (h : w.heap[bk]? = some (.cells (bkCells (.slice none 0 0)) 64 (0, 0))) : BookS w bk (.slice none 0 0) 0 (fun _ => .slice none 0 0) (fun _ => 0) (fun _ _ => 0) :=
  ⟨h, World.ownsRow_nil _ _ _ _, fun k hk => (by cases hk), fun _ h => absurd h (Nat.not_lt_zero _), fun _ _ h => absurd h (Nat.not_lt_zero _), fun _ h => absurd h (Nat.not_lt_zero _)⟩
theorem BookS.out {S : Nat → Prop} {w w1 : World} {bk N : Nat} {lv : Value} {v : Nat → Value} {n : Nat → Nat} {F : Nat → Nat → Int} (h : BookS w bk lv N v n F) (ho : Out S w w1) (h1 : ¬ S bk) (h2 : ∀ k, lv.ownBlock = some k → ¬ S k) (h3 : ∀ r, r < N → ∀ k, (v r).ownBlock = some k → ¬ S k) : BookS w1 bk lv N v n F :=
  ⟨ho.heap h.hb h1, ho.own h.long h2, h.lb, h.rows.out ho h3, h.dis, h.nb⟩
theorem BookS.keep {w w1 : World} {bk N : Nat} {lv : Value} {v : Nat → Value} {n : Nat → Nat} {F : Nat → Nat → Int} (h : BookS w bk lv N v n F) (hb : Below w.heap.size w w1) : BookS w1 bk lv N v n F :=
  h.out (S := fun _ => False) (Out.of_below hb) id (fun _ _ => id) (fun _ _ _ _ => id)
theorem BookS.lt {w : World} {bk N : Nat} {lv : Value} {v : Nat → Value} {n : Nat → Nat} {F : Nat → Nat → Int} (h : BookS w bk lv N v n F) : bk < w.heap.size ∧ (∀ k, lv.ownBlock = some k → k < w.heap.size) ∧ ∀ r, r < N → ∀ k, (v r).ownBlock = some k → k < w.heap.size :=
  ⟨(Array.getElem?_eq_some_iff.1 h.hb).1, fun k hk => (h.long.lt k hk).2, fun r hr k hk => ((h.rows r hr).lt k hk).2⟩
/-- A list that is put in is new to the book. -/
def New (x : Value) (bk : Nat) (lv : Value) (N : Nat) (v : Nat → Value) : Prop := ∀ k, x.ownBlock = some k → k ≠ bk ∧ lv.ownBlock ≠ some k ∧ ∀ r, r < N → (v r).ownBlock ≠ some k
theorem BookS.fresh {w : World} {bk N B : Nat} {lv x : Value} {v : Nat → Value} {n : Nat → Nat} {F : Nat → Nat → Int} (h : BookS w bk lv N v n F) (hx : ∀ k, x.ownBlock = some k → B ≤ k) (hB : w.heap.size ≤ B) : New x bk lv N v := by
  obtain ⟨h1, h2, h3⟩ := h.lt
  intro k hk
  have := hx k hk
  exact ⟨by omega, fun e => by have := h2 k e; omega, fun r hr e => by have := h3 r hr k e; omega⟩
def put {α : Type} (N : Nat) (f : Nat → α) (x : α) (r : Nat) : α := if r = N then x else f r
theorem put_at {α : Type} (N : Nat) (f : Nat → α) (x : α) : put N f x N = x := if_pos rfl
theorem put_lt {α : Type} {N r : Nat} (f : Nat → α) (x : α) (h : r < N) : put N f x r = f r := if_neg (by omega)
theorem map_put (N : Nat) (v : Nat → Value) (x : Value) : (List.range (N + 1)).map (put N v x) = (List.range N).map v ++ [x] := by
  rw [List.range_succ, List.map_append]
  congr 1
  · apply List.map_congr_left
    intro r hr
    exact put_lt v x (List.mem_range.1 hr)
  · simp [put]
theorem rs_put {w : World} {N m : Nat} {v : Nat → Value} {n : Nat → Nat} {F : Nat → Nat → Int} {x : Value} {G : Nat → Int} (h : Rs .u8 5 w N v n F) (hx : w.ownsRow 0 5 1 x m (rowL .u8 m G)) : Rs .u8 5 w (N + 1) (put N v x) (put N n m) (put N F G) := by
  intro r hr
  by_cases e : r = N
  · subst e; rw [put_at, put_at, put_at]; exact hx
  · rw [put_lt _ _ (by omega), put_lt _ _ (by omega), put_lt _ _ (by omega)]; exact h r (by omega)
theorem apart_put {N : Nat} {v : Nat → Value} {x : Value} (h : Apart N v) (hx : ∀ k, x.ownBlock = some k → ∀ r, r < N → (v r).ownBlock ≠ some k) : Apart (N + 1) (put N v x) := by
  intro r s hr hs hne k hk
  by_cases e : r = N
  · subst e
    rw [put_at] at hk
    rw [put_lt _ _ (by omega)]
    exact hx k hk s (by omega)
  · rw [put_lt _ _ (by omega)] at hk
    by_cases e2 : s = N
    · subst e2
      rw [put_at]
      exact fun e3 => hx k e3 r (by omega) hk
    · rw [put_lt _ _ (by omega)]
      exact h r s (by omega) (by omega) hne k hk
/-- What putting a list into the book leaves. -/
def PutP (w : World) (bk : Nat) (lv : Value) (N : Nat) (v : Nat → Value) (n : Nat → Nat) (F : Nat → Nat → Int) (x : Value) (m : Nat) (G : Nat → Int) (e : Ending) (w' : World) : Prop :=
  e = .returned (.tuple #[]) ∧ Out (fun k => k = bk ∨ lv.ownBlock = some k) w w' ∧ ∃ lv', BookS w' bk lv' (N + 1) (put N v x) (put N n m) (put N F G) ∧ ∀ k, lv'.ownBlock = some k → lv.ownBlock = some k ∨ w.heap.size ≤ k
theorem put_rel {w wa w' : World} {bk N m : Nat} {lv lv' x : Value} {v : Nat → Value} {n : Nat → Nat} {F : Nat → Nat → Int} {G : Nat → Int} {o : Obj} (h : BookS w bk lv N v n F) (hx : w.ownsRow 0 5 1 x m (rowL .u8 m G)) (hn : New x bk lv N v) (hwa : wa = w.alloc o)
    (hl : w'.ownsRow 0 25 1 lv' (N + 1) ((List.range N).map v ++ [x])) (ht : Two (w.heap.size + 1) wa lv N 1 lv' w') :
    w'.heap[bk]? = some (.cells (bkCells lv) 64 (0, 0)) ∧ Out (fun k => k = bk ∨ lv.ownBlock = some k) w (w'.setCell ⟨bk, 0, none⟩ lv') ∧ BookS (w'.setCell ⟨bk, 0, none⟩ lv') bk lv' (N + 1) (put N v x) (put N n m) (put N F G) ∧ ∀ k, lv'.ownBlock = some k → lv.ownBlock = some k ∨ w.heap.size ≤ k := by
  subst hwa
  obtain ⟨z1, z2, z3⟩ := h.lt
  have hb' : w'.heap[bk]? = some (.cells (bkCells lv) 64 (0, 0)) := by
    have h0 := Out.refl (fun k => lv.ownBlock = some k) w |>.alloc o
    rcases ht with ⟨g, cap, rfl, rfl, hg⟩ | ⟨⟨cap, rfl⟩, hg⟩
    · exact (h0.grown hg fun k hk _ => by cases hk; rfl).heap h.hb fun e => (h.lb _ e).1 rfl
    · exact (h0.grown hg fun k hk _ => by cases hk).heap h.hb fun e => (h.lb _ e).1 rfl
  have hO1 : Out (fun k => lv.ownBlock = some k) w w' := by
    have h0 := Out.refl (fun k => lv.ownBlock = some k) w |>.alloc o
    rcases ht with ⟨g, cap, rfl, rfl, hg⟩ | ⟨⟨cap, rfl⟩, hg⟩
    · exact h0.grown hg fun k hk _ => by cases hk; rfl
    · exact h0.grown hg fun k hk _ => by cases hk
  have hlb : ∀ k, lv'.ownBlock = some k → lv.ownBlock = some k ∨ w.heap.size ≤ k := by
    intro k hk
    rcases ht with ⟨g, cap, rfl, rfl, hg⟩ | ⟨⟨cap, rfl⟩, hg⟩
    · exact .inl (by simpa [Value.ownBlock] using hk)
    · simp [Value.ownBlock] at hk
      exact .inr (by omega)
  have hO2 : Out (fun k => k = bk ∨ lv.ownBlock = some k) w (w'.setCell ⟨bk, 0, none⟩ lv') := (hO1.mono fun _ _ e => .inr e).setCell (fun _ => .inl rfl) _
  have hnb : ∀ r, r < N + 1 → (put N v x r).ownBlock ≠ some bk := by
    intro r hr e
    by_cases e2 : r = N
    · subst e2; rw [put_at] at e; exact (hn bk e).1 rfl
    · rw [put_lt _ _ (by omega)] at e; exact h.nb r (by omega) e
  refine ⟨hb', hO2, ⟨?_, ?_, ?_, ?_, ?_, hnb⟩, hlb⟩
  · rw [heap_setCell_same w' bk 0 _ 64 lv' hb']
    rfl
  · rw [map_put]
    refine ownsRow_setCell_other hl (fun e => ?_) _
    rcases hlb _ e with h1 | h1
    · exact (h.lb _ h1).1 rfl
    · have : w.heap.size ≤ bk := h1
      omega
  · intro k hk
    refine ⟨fun e => ?_, fun r hr e => ?_⟩
    · subst e
      rcases hlb _ hk with h1 | h1
      · exact (h.lb _ h1).1 rfl
      · omega
    · by_cases e2 : r = N
      · subst e2
        rw [put_at] at e
        rcases hlb _ hk with h1 | h1
        · exact (hn k e).2.1 h1
        · have := (hx.lt k e).2; omega
      · rw [put_lt _ _ (by omega)] at e
        rcases hlb _ hk with h1 | h1
        · exact (h.lb _ h1).2 r (by omega) e
        · have := z3 r (by omega) k e; omega
  · refine rs_put (h.rows.out hO2 fun r hr k hk hS => ?_) (hO2.own hx fun k hk hS => ?_)
    · rcases hS with rfl | hS
      · exact h.nb r hr hk
      · exact (h.lb k hS).2 r hr hk
    · rcases hS with rfl | hS
      · exact (hn _ hk).1 rfl
      · exact (hn k hk).2.1 hS
  · exact apart_put h.dis fun k hk => (hn k hk).2.2
set_option maxRecDepth 100000 in
set_option maxHeartbeats 1000000 in
theorem book_put (bk N m : Nat) (lv x : Value) (v : Nat → Value) (n : Nat → Nat) (F : Nat → Nat → Int) (G : Nat → Int) (w : World) (h : BookS w bk lv N v n F) (hx : w.ownsRow 0 5 1 x m (rowL .u8 m G)) (hn : New x bk lv N v) (hN : N ≤ 1000000) :
    Calls Try.prog 41 #[.pointer (some ⟨bk, 0, none⟩), x] w (PutP w bk lv N v n F x m G) := by
  have HB := Lib.hid h
  have HX := Lib.hid hx
  have HN := Lib.hid hn
  have c0 : w.cell? ⟨bk, 0, none⟩ = some lv := by rw [cell_of_row w bk 0 _ 64 (0, 0) h.hb]; rfl
  have f0 : w.frozen? ⟨bk, 0, none⟩ = false := frozen_of_row w bk 0 _ 64 h.hb
  have HZ := Lib.hid h.lt.1
  obtain ⟨xa, xc, rfl, -, -⟩ := own_form hx
  obtain ⟨la, lc, rfl, -, -⟩ := own_form h.long
  obtain ⟨i1, hi1, hy0, hy1, hy2⟩ := info_parts own43_i1
  clear h hx hn
  go_enter Try.func41, Try.ntmps41
  go_wp2_with (first | (at_builtin; refine wpList_append_two _ rfl _ _ 35 rfl 0 25 i1 (.slice none 0 0) 1 24 Try.underlying35 hi1 hy0 hy1 hy2 rfl (by decide) _ N _ rfl (HB.out.long.alloc _) ⟨w.heap.size, 0, none⟩ 1 1 [.slice xa m xc] rfl rfl ?c1 ?c2 ?c3 ?c4 ?c5 (Nat.zero_le _) ?_))
  case c1 =>
    intro q u hq
    have e : (⟨w.heap.size, 0, none⟩ : Addr).add q = ⟨w.heap.size, q, none⟩ := by unfold Addr.add; split <;> simp_all
    rw [e, cell_of_row _ _ _ _ 25 (0, 0) (heap_alloc_new _ _)]
    simpa using hq
  case c2 =>
    intro u hu
    rw [List.mem_singleton.1 hu]
    rfl
  case c3 => omega
  case c4 => unfold maxLen; omega
  case c5 => omega
  intro v' w' hown htwo
  obtain ⟨va, vc, rfl, -, -⟩ := own_form hown
  obtain ⟨p1, p2, p3, p4⟩ := put_rel HB.out HX.out HN.out rfl hown htwo
  have c1 : w'.cell? ⟨bk, 0, none⟩ = some (.slice la N lc) := by rw [cell_of_row w' bk 0 _ 64 (0, 0) p1]; rfl
  have f1 : w'.frozen? ⟨bk, 0, none⟩ = false := frozen_of_row w' bk 0 _ 64 p1
  have P2 := Lib.hid p2
  have P3 := Lib.hid p3
  have P4 := Lib.hid p4
  clear hown htwo p1 p2 p3 p4 c0 f0
  go_wp2
  go_end0
  exact ⟨rfl, P2.out, _, P3.out, P4.out⟩
end Go.Proofs.Ytgkkmdebpekckaa
