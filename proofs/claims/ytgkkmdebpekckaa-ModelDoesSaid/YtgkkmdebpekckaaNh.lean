/- The reference's Fate, New, Read. Conditions: as stated at each. -/
import Derived.Test.YtgkkmdebpekckaaNg
namespace Go.Proofs.Ytgkkmdebpekckaa
open Go.RowKit Go.Shelf
set_option maxRecDepth 100000 in
set_option maxHeartbeats 800000 in
theorem rfate_any (Z : Nat → Prop) (r n : Nat) (s : Rf) (w : World) (h : RMdAt Z w r n s) (hs : s.ok n) :
    Calls Try.prog 42 #[.pointer (some ⟨r, 0, none⟩)] w (FateP s.st w) := by
  obtain ⟨gF, cF, lv, wv, bv, h⟩ := h
  have hm := h.blk
  have hz : s.st.L + s.st.many = s.NB := by have := hs.many; simp only [Rf.st]; omega
  obtain ⟨la, lc, rfl, -⟩ := own_form h.list
  obtain ⟨wa, wc, hwv⟩ : ∃ x y, wv = .slice x s.way.N y := by
    obtain ⟨_, ⟨x, y, e, _⟩, _⟩ := h.way
    exact ⟨x, y, e⟩
  subst hwv
  obtain ⟨M, hM⟩ : ∃ M, s.st.many = M := ⟨_, rfl⟩
  have hM' : s.many = M := hM
  obtain ⟨L, hL⟩ : ∃ L, s.NB = L := ⟨_, rfl⟩
  obtain ⟨N, hN⟩ : ∃ N, s.way.N = N := ⟨_, rfl⟩
  have hN' : s.st.way.N = N := hN
  have hML : (s.st.many : Int) + s.st.L = (L : Int) := by omega
  unfold FateP
  rw [hML, hM, hN']
  rw [hM', hL, hN] at hm
  obtain ⟨k1, f1, z1⟩ := cr hm
  clear h hM hM' hL hN hN' hML hz hm hs
  go_enter Try.func42, Try.ntmps42
  go_wp2
  obtain ⟨W, hW⟩ : ∃ W, w.alloc (.cells #[.int .i64 0, .int .i64 0, .bool false] 43) = W := ⟨_, rfl⟩
  have hm1 : W.heap[r]? = w.heap[r]? := by rw [← hW]; exact Below.heap_alloc _ _ _ z1
  have hr : W.heap[w.heap.size]? = some (.cells #[.int .i64 0, .int .i64 0, .bool false] 43 (0, 0)) := by rw [← hW]; exact heap_alloc_new _ _
  have k1 : ∀ o, W.cell? ⟨r, o, none⟩ = w.cell? ⟨r, o, none⟩ := fun o => World.cell?_of_block hm1
  obtain ⟨r1, fr1, zr1⟩ := cr hr
  have hB2 : Below w.heap.size w W := by rw [← hW]; exact bal (Below.refl _ _) _
  have HB := Lib.hid hB2
  rw [hW]
  have HR := Lib.hid hr
  clear hW hB2 hr hm1
  go_region
  go_wp2
  have h3 : ((((W.setCell ⟨w.heap.size, 0, none⟩ (.int .i64 M)).setCell ⟨w.heap.size, 1, none⟩ (.int .i64 (L : Int))).setCell ⟨w.heap.size, 2, none⟩ (.bool (decide (0 < N)))).drew).heap[w.heap.size]? = some (.cells #[.int .i64 M, .int .i64 (L : Int), .bool (decide (0 < N))] 43 (0, 0)) := by
    have e1 := heap_setCell_same W w.heap.size 0 _ 43 (.int .i64 M) HR.out
    have e2 := heap_setCell_same _ w.heap.size 1 _ 43 (.int .i64 (L : Int)) e1
    exact heap_setCell_same _ w.heap.size 2 _ 43 (.bool (decide (0 < N))) e2
  have hb3 : Below w.heap.size w ((((W.setCell ⟨w.heap.size, 0, none⟩ (.int .i64 M)).setCell ⟨w.heap.size, 1, none⟩ (.int .i64 (L : Int))).setCell ⟨w.heap.size, 2, none⟩ (.bool (decide (0 < N)))).drew) :=
    below_drew (((HB.out.setCell (p := ⟨w.heap.size, 0, none⟩) (Nat.le_refl _) _).setCell (p := ⟨w.heap.size, 1, none⟩) (Nat.le_refl _) _).setCell (p := ⟨w.heap.size, 2, none⟩) (Nat.le_refl _) _)
  revert h3 hb3
  generalize ((((W.setCell ⟨w.heap.size, 0, none⟩ (.int .i64 M)).setCell ⟨w.heap.size, 1, none⟩ (.int .i64 (L : Int))).setCell ⟨w.heap.size, 2, none⟩ (.bool (decide (0 < N)))).drew) = W3
  intro h3 hb3
  obtain ⟨q1, q2, q3⟩ := cr h3
  clear h3
  exact bodyPost_ret (v := .agg #[.int .i64 M, .int .i64 (L : Int), .bool (decide (0 < N))]) (by simp [results, Try.results42, go_sem, q1]) rfl ⟨rfl, hb3⟩
def RReadP (x : Nat → Nat) (b k : Nat) (w : World) (e : Ending) (w' : World) : Prop :=
  ∃ v, e = .returned (.tuple #[v, .int .i64 0]) ∧ Bts w' v (128 * k) (fun j => x (128 * b + j)) ∧ (∀ a n c, v = .slice (some a) n c → w.heap.size ≤ a.block) ∧ Below w.heap.size w w'
def RReadBad (w : World) (e : Ending) (w' : World) : Prop := e = .returned (.tuple #[.slice none 0 0, .int .i64 3]) ∧ Below w.heap.size w w'
set_option maxRecDepth 100000 in
set_option maxHeartbeats 800000 in
theorem rread_ok (Z : Nat → Prop) (r n : Nat) (s : Rf) (b k : Nat) (w : World) (h : RMdAt Z w r n s) (hs : s.ok n) (hn0 : 0 < n) (hn : n ≤ 61440) (hB : s.NB ≤ 1000000000) (hb : b + k ≤ n) :
    Calls Try.prog 28 #[.pointer (some ⟨r, 0, none⟩), .int .i64 b, .int .i64 k] w (RReadP (fate s.x0 s.rb s.NB) b k w) := by
  have HA := Lib.hid (all_any Z r n s s.NB w h hs hn0 hn (Nat.le_refl _) hB)
  obtain ⟨gF, cF, lv, wv, bv, h⟩ := h
  obtain ⟨la, lc, rfl, -⟩ := own_form h.list
  obtain ⟨k1, f1, z1⟩ := cr h.blk
  unfold RReadP
  obtain ⟨x, hx⟩ : ∃ x, fate s.x0 s.rb s.NB = x := ⟨_, rfl⟩
  rw [hx] at HA ⊢
  obtain ⟨N, hN⟩ : ∃ N, s.NB = N := ⟨_, rfl⟩
  rw [hN] at HA k1 hB
  obtain ⟨L, hL⟩ : ∃ L, 128 * n = L := ⟨_, rfl⟩
  have HLn := Lib.hid hL
  rw [hL] at k1
  have hq : (L : Int).tdiv 128 = (n : Int) := by
    rw [Int.tdiv_eq_ediv_of_nonneg (by omega)]; omega
  obtain ⟨lo, hlo⟩ : ∃ lo, 128 * b = lo := ⟨_, rfl⟩
  obtain ⟨len, hlen⟩ : ∃ len, 128 * k = len := ⟨_, rfl⟩
  have e1 : ¬ (k : Int) < 0 := by omega
  have e2 : ¬ (b : Int) < 0 := by omega
  have e3 : ¬ (n : Int) < (b : Int) := by omega
  have w0 : IntKind.i64.wrap ((n : Int) - (b : Int)) = (n : Int) - (b : Int) := by go_arith
  have e4 : ¬ (n : Int) - (b : Int) < (k : Int) := by omega
  have w1 : IntKind.i64.wrap (128 * (b : Int)) = (lo : Int) := by subst hlo; go_arith
  have w2 : IntKind.i64.wrap ((b : Int) + (k : Int)) = (b : Int) + (k : Int) := by go_arith
  have w3 : IntKind.i64.wrap (128 * ((b : Int) + (k : Int))) = ((lo + len : Nat) : Int) := by subst hlo; subst hlen; go_arith
  have hll : lo + len ≤ L := by omega
  clear hL h hs hx hN
  go_enter Try.func28, Try.ntmps28
  go_wp2_with fail
  refine HA.out.mono ?_
  rintro e w1 ⟨g, c, rfl, ho, hbb⟩
  have hcap : L ≤ c := by
    rcases ho.2 with ⟨h, _⟩ | ⟨_, _, _, h, _, _, h2, _⟩
    · cases h
    · cases h; have := HLn.out; omega
  have HO := Lib.hid ho
  have HB := Lib.hid hbb
  rw [HLn.out]
  clear ho hbb HA
  have hcl : lo + len ≤ c := by omega
  have hz : lo ≤ lo + len := by omega
  go_wp2_with fail
  all_goals go_ret2
  all_goals refine ⟨_, rfl, ⟨_, _, rfl, ?_⟩, ?_, HB.out⟩
  all_goals first
    | (intro a n9 c9 e9
       cases e9
       exact (HO.out.lt g rfl).1)
    | (refine .inr ⟨g, lo, rfl, fun q hq => ?_⟩
       exact (own_cellN HO.out (by rw [bytesL_get _ _ _ (by have := HLn.out; omega)])).1)
    | (refine .inl ?_
       omega)
end Go.Proofs.Ytgkkmdebpekckaa
