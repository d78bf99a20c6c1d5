/- The contract of geom.Members: a new list of a row's members. Conditions: as stated at each. -/
import Derived.Test.YtdgbdbploghhgaaGd
namespace Go.Proofs.Ytdgbdbploghhgaa
open Go.RowKit
/-- The first k of N places hold f's numbers, the others noughts. -/
def fillA (N : Nat) (f : Nat → Int) (k : Nat) : Array Value := ((List.range N).map fun i => Value.int .i64 (if i < k then f i else 0)).toArray
theorem fillA_size (N : Nat) (f : Nat → Int) (k : Nat) : (fillA N f k).size = N := by simp [fillA]
theorem fillA_get (N : Nat) (f : Nat → Int) (k j : Nat) (h : j < N) : (fillA N f k)[j]? = some (.int .i64 (if j < k then f j else 0)) := by simp [fillA, h]
theorem fillA_set (N : Nat) (f : Nat → Int) (k : Nat) : (fillA N f k).setIfInBounds k (.int .i64 (f k)) = fillA N f (k + 1) := by
  apply Array.ext
  · simp [fillA]
  · intro i h1 h2
    by_cases h : k = i
    · subst h; simp [fillA]
    · simp [fillA, h]
      by_cases h3 : i < k
      · rw [if_pos h3, if_pos (by omega)]
      · rw [if_neg h3, if_neg (by omega)]
theorem fillA_zero (N : Nat) (f : Nat → Int) : madeCells (Value.int .i64 0).cells N = fillA N f 0 := by
  simp [madeCells, fillA, Value.cells]
  apply Array.ext <;> simp [Nat.mod_one]
theorem Try.info3 : (Try.prog.info? 3).map (fun i => (i.zero, i.size, i.bytes)) = some (some (.int .i64 0), 1, 8) := by kernel_rfl
theorem make_ints (f : Nat → Int) (w : World) (N : Nat) (h : N ≤ 1000000) : (Instr.makeSlice 37 (.int .i64 (N : Int)) (.int .i64 (N : Int))).run Try.prog w = .ok (.slice (some ⟨w.heap.size, 0, none⟩) N N) (w.alloc (.cells (fillA N f 0) 3)) := by
  obtain ⟨i0, hi, hz0, hz1, hz2⟩ := info_parts Try.info3
  have := run_make (P := Try.prog) w 37 3 i0 (.int .i64 0) Try.underlying37 hi hz0 .i64 .i64 N N (by omega) (by omega) (by rw [hz2]; omega) (by omega)
  rw [this, hz1, Nat.mul_one, ← fillA_zero N f]
  simp
/-- The list of ints f 0 .. f (N - 1) lies in the block g alone. -/
def IntsIn (w : World) (g N : Nat) (f : Nat → Int) : Prop := w.heap[g]? = some (.cells (fillA N f N) 3 (0, 0))
theorem cr {w : World} {b : Nat} {cs : Array Value} {T : TypeId} (h : w.heap[b]? = some (.cells cs T (0, 0))) : (∀ o, w.cell? ⟨b, o, none⟩ = cs[o]?) ∧ (∀ o, w.frozen? ⟨b, o, none⟩ = false) ∧ b < w.heap.size :=
  ⟨fun o => cell_of_row w b o cs T (0, 0) h, fun o => frozen_of_row w b o cs T h, (Array.getElem?_eq_some_iff.1 h).1⟩
theorem hn2 (w : World) (A B : Obj) : ((w.alloc A).alloc B).heap[w.heap.size + 1]? = some B :=
  (congrArg (fun i => ((w.alloc A).alloc B).heap[i]?) (World.size_alloc _ _).symm).trans (heap_alloc_new _ _)
theorem hn1 (w : World) (A B : Obj) : ((w.alloc A).alloc B).heap[w.heap.size]? = some A :=
  (Below.heap_alloc (w.alloc A) B _ (by simp)).trans (heap_alloc_new _ _)
def NewInts (w : World) (N : Nat) (f : Nat → Int) (k : IntKind) (e : Ending) (w' : World) : Prop :=
  ∃ g, e = .returned (.tuple #[.slice (some ⟨g, 0, none⟩) N N, .int k 0]) ∧ w.heap.size ≤ g ∧ IntsIn w' g N f ∧ Below w.heap.size w w'
theorem gmembers_bad (m c s r : Int) (w : World) (h : ¬ Good m c s) :
    Calls Try.prog 14 #[G m c s, .int .i64 r] w fun e w' => e = .returned (.tuple #[.slice none 0 0, .int .u16 60]) ∧ Below w.heap.size w w' := by
  have HG := Lib.hid h
  clear h
  go_enter Try.func14, Try.ntmps14
  go_wp2_with (first | (go_at_call 13; refine (gparity_bad _ _ _ _ _ HG.out).mono ?_; rintro e w1 ⟨rfl, hb⟩; obtain ⟨k0hb, f0hb, z0hb⟩ := kp hb (w.heap.size) (by go_size)))
  go_returns
  refine ⟨rfl, ?_⟩
  (repeat' (first | (with_reducible exact Below.refl _ _) | (with_reducible refine Below.setCell ?_ (by go_size) _) | (with_reducible refine bal ?_ _) | (with_reducible refine Below.drew ?_) | (with_reducible refine bdn ?_ _) | (with_reducible refine via ?_ (by with_reducible assumption))))
theorem gmembers_rangea (m c s r : Int) (w : World) (h : Good m c s) (hr : r < 0) :
    Calls Try.prog 14 #[G m c s, .int .i64 r] w fun e w' => e = .returned (.tuple #[.slice none 0 0, .int .u16 3]) ∧ Below w.heap.size w w' := by
  have HG := Lib.hid h
  clear h
  go_enter Try.func14, Try.ntmps14
  go_wp2_with (first | (go_at_call 13; refine (gparity_rangea _ _ _ _ _ HG.out hr).mono ?_; rintro e w1 ⟨rfl, hb⟩; obtain ⟨k0hb, f0hb, z0hb⟩ := kp hb (w.heap.size) (by go_size)))
  go_returns
  refine ⟨rfl, ?_⟩
  (repeat' (first | (with_reducible exact Below.refl _ _) | (with_reducible refine Below.setCell ?_ (by go_size) _) | (with_reducible refine bal ?_ _) | (with_reducible refine Below.drew ?_) | (with_reducible refine bdn ?_ _) | (with_reducible refine via ?_ (by with_reducible assumption))))
theorem gmembers_rangeb (m c s r : Int) (w : World) (h : Good m c s) (hr : s * c ≤ r) :
    Calls Try.prog 14 #[G m c s, .int .i64 r] w fun e w' => e = .returned (.tuple #[.slice none 0 0, .int .u16 3]) ∧ Below w.heap.size w w' := by
  have HG := Lib.hid h
  clear h
  go_enter Try.func14, Try.ntmps14
  go_wp2_with (first | (go_at_call 13; refine (gparity_rangeb _ _ _ _ _ HG.out hr).mono ?_; rintro e w1 ⟨rfl, hb⟩; obtain ⟨k0hb, f0hb, z0hb⟩ := kp hb (w.heap.size) (by go_size)))
  go_returns
  refine ⟨rfl, ?_⟩
  (repeat' (first | (with_reducible exact Below.refl _ _) | (with_reducible refine Below.setCell ?_ (by go_size) _) | (with_reducible refine bal ?_ _) | (with_reducible refine Below.drew ?_) | (with_reducible refine bdn ?_ _) | (with_reducible refine via ?_ (by with_reducible assumption))))
set_option maxHeartbeats 800000 in
theorem gmembers_ok (N : Nat) (c s r : Int) (w : World) (h : Good (N + 1) c s) (hr0 : 0 ≤ r) (hr1 : r < s * c) :
    Calls Try.prog 14 #[G (N + 1) c s, .int .i64 r] w (NewInts w N (fun i => mem (N + 1) (r / c) i) .u16) := by
  have hst0 : 0 ≤ r / c := Int.ediv_nonneg hr0 (by have := h.c1; omega)
  have HG' := Lib.hid h
  have hm1 := h.m3
  have hm2 := h.m16
  have hc1 := h.c1
  obtain ⟨hr2, hr3⟩ := h.rows
  have HG := Lib.hid ((Good.iff _ c s).1 h)
  clear h
  have hrc2 : r / c ≤ r := Int.ediv_le_self _ hr0
  have c0 : ¬ c = 0 := by omega
  have q1 : r.tdiv c = r / c := Int.tdiv_eq_ediv_of_nonneg hr0
  have q3 : IntKind.i64.wrap (r / c) = r / c := IntWalk.i64_in _ (by omega)
  have hmk := fun w => make_ints (fun i => mem (N + 1) (r / c) i) w N (by omega)
  go_enter Try.func14, Try.ntmps14
  go_wp2_with (first | (go_at_call 13; refine (gparity_ok _ _ _ _ _ HG'.out hr0 hr1).mono ?_; rintro e w1 ⟨rfl, hb⟩; obtain ⟨k0hb, f0hb, z0hb⟩ := kp hb (w.heap.size) (by go_size)) | (go_at_call 30; refine (of_ok _ _ _ _ HG.out).mono ?_; rintro e w2 ⟨rfl, hb2⟩))
  go_loopw [31] (fun i wr => ∃ k : Nat, k ≤ N ∧ i = .int .i64 k ∧ wr.heap[w2.heap.size + 1]? = some (.cells (fillA N (fun i => mem (N + 1) (r / c) i) k) 3 (0, 0)) ∧ wr.heap[w2.heap.size]? = some (.cells #[.int .i64 (N + 1), .int .i64 c, .int .i64 s, .int .i64 N] 76 (0, 0)) ∧ Below w.heap.size w wr)
    (fun i _ => N - (intOf i).toNat)
  case atStart =>
    refine ⟨0, Nat.zero_le _, rfl, ?_, ?_, ?_⟩
    · exact hn2 _ _ _
    · exact hn1 _ _ _
    · (repeat' (first | (with_reducible exact Below.refl _ _) | (with_reducible refine Below.setCell ?_ (by go_size) _) | (with_reducible refine bal ?_ _) | (with_reducible refine Below.drew ?_) | (with_reducible refine bdn ?_ _) | (with_reducible refine via ?_ (by with_reducible assumption))))
  case round =>
    obtain ⟨k, hk, rfl, hg, hs8, hbel⟩ := hrel
    obtain ⟨c8, f8, z8⟩ := cr hs8
    obtain ⟨c9, f9, z9⟩ := cr hg
    have ck := c9 k
    have fk := f9 k
    by_cases hlt : k < N
    · rw [fillA_get _ _ _ _ hlt, if_neg (Nat.lt_irrefl k)] at ck
      clear c9 f9
      have hmem := mem_bd (r / c) k hm1
      go_wp2
      go_region_held3 (fun w' => w'.cell? ⟨w2.heap.size, 0, none⟩ = some (.int .i64 (N + 1)) ∧ w'.cell? ⟨w2.heap.size, 1, none⟩ = some (.int .i64 c) ∧ w'.cell? ⟨w2.heap.size, 2, none⟩ = some (.int .i64 s) ∧ w'.cell? ⟨w2.heap.size, 3, none⟩ = some (.int .i64 N)) ((simp [*, go_sem]; done))
        (first | (go_at_call 32; refine (member_any _ _ _ _ _ _ _ hst0 hm1 hm2 (by omega) (by omega)).mono ?_; rintro e w5 ⟨rfl, hb5⟩; obtain ⟨k0hb5, f0hb5, z0hb5⟩ := kp hb5 (w2.heap.size) (by go_size); obtain ⟨k1hb5, f1hb5, z1hb5⟩ := kp hb5 (w2.heap.size + 1) (by go_size)))
      go_wp2
      go_roundw
      case rel =>
        refine ⟨k + 1, by omega, by go_num, ?_, ?_, ?_⟩
        · rw [← fillA_set]
          refine heap_setCell_same _ _ _ _ _ _ ?_
          rw [hb5.block _ (by go_size)]
          exact hg
        · rw [heap_setCell_other _ _ _ _ (by simp), hb5.block _ (by go_size)]
          exact hs8
        · refine Below.setCell ?_ (by have := hb.size; have := hb2.size; simp at *; omega) _
          exact hbel.drew.trans (hb5.mono (hbel.size))
      case measure => simp [intOf]; omega
    · obtain rfl : k = N := by omega
      clear c9 f9 ck fk
      go_wp2
      go_ret2
      exact ⟨w2.heap.size + 1, rfl, by have := hb.size; have := hb2.size; simp at *; omega, hg, hbel⟩
end Go.Proofs.Ytdgbdbploghhgaa
