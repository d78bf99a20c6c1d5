/- Of, Even of any rows; slices.Grow and Concat of lists of rows; Missing; Patch. Conditions: as stated at each. -/
import Derived.Test.YtnjcnnjdogdbdaaXh
import Derived.Lib.AppendZeros
namespace Go.Proofs.Ytnjcnnjdogdbdaa
open Go.RowKit
theorem Try.info25 : (Try.prog.info? 25).map (fun i => (i.zero, i.size, i.bytes)) = some (some (.slice none 0 0), 1, 24) := by kernel_rfl
theorem first_of {p : Nat → Prop} [DecidablePred p] : ∀ N : Nat, (∃ j, j < N ∧ p j) → ∃ j, j < N ∧ p j ∧ ∀ i, i < j → ¬ p i
  | 0, ⟨j, h, _⟩ => absurd h (Nat.not_lt_zero _)
  | N + 1, ⟨j, hj, hp⟩ => by
    by_cases h : ∃ j, j < N ∧ p j
    · obtain ⟨j, h1, h2, h3⟩ := first_of N h
      exact ⟨j, by omega, h2, h3⟩
    · obtain rfl : j = N := by
        rcases Nat.lt_or_ge j N with h1 | h1
        · exact absurd ⟨j, h1, hp⟩ h
        · omega
      exact ⟨j, hj, hp, fun i hi hpi => h ⟨i, hi, hpi⟩⟩
/-- What Of hands back. -/
def OfP (N : Nat) (n : Nat → Nat) (h : Nat → Nat → Nat) (w : World) (e : Ending) (w' : World) : Prop :=
  (N = 0 ∧ BadP w 1 e w') ∨ (0 < N ∧ (∀ i, i < N → n i = n 0) ∧ OwnP (n 0) (acc (fun _ => 0) h N) w e w') ∨ (0 < N ∧ (∃ j, j < N ∧ n j ≠ n 0) ∧ BadP w 4 e w')
theorem OfP.back {N : Nat} {n : Nat → Nat} {h : Nat → Nat → Nat} {w w1 : World} {e : Ending} {w' : World} (H : OfP N n h w1 e w') (hb : Below w.heap.size w w1) : OfP N n h w e w' := by
  rcases H with ⟨a, b, c⟩ | ⟨a, b, v, c, d, f⟩ | ⟨a, b, c, d⟩
  · exact .inl ⟨a, b, via hb c⟩
  · exact .inr (.inl ⟨a, b, v, c, own_base d hb.size, via hb f⟩)
  · exact .inr (.inr ⟨a, b, c, via hb d⟩)
theorem OfP.form {N : Nat} {n : Nat → Nat} {h : Nat → Nat → Nat} {w : World} {e : Ending} {w' : World} (H : OfP N n h w e w') : ∃ v x, e = .returned (.tuple #[v, .int .u16 x]) := by
  rcases H with ⟨_, b, _⟩ | ⟨_, _, v, c, _⟩ | ⟨_, _, c, _⟩
  · exact ⟨_, _, b⟩
  · exact ⟨_, _, c⟩
  · exact ⟨_, _, c⟩
theorem of_any (v : Value) (N : Nat) (rv : Nat → Value) (n : Nat → Nat) (h : Nat → Nat → Nat) (w : World) (hr : Rows2 w v N rv n h) (hL : ∀ i, i < N → n i ≤ 200000) (hN : N ≤ 200000) :
    Calls Try.prog 14 #[v] w (OfP N n h w) := by
  by_cases h0 : N = 0
  · subst h0
    obtain ⟨a, cap, rfl, -⟩ := hr.l
    exact (of_nil a cap w).mono fun e w' H => .inl ⟨rfl, H⟩
  by_cases hb : ∃ j, j < N ∧ n j ≠ n 0
  · obtain ⟨j, hj, hne, hlt⟩ := first_of N hb
    exact (of_bad v N rv n h w hr (hL 0 (by omega)) hN j hj (fun i hi => Classical.byContradiction fun hh => hlt i hi hh) hne).mono fun e w' H => .inr (.inr ⟨by omega, hb, H⟩)
  · have hall : ∀ i, i < N → n i = n 0 := fun i hi => Classical.byContradiction fun hh => hb ⟨i, hi, hh⟩
    exact (of_ok v N rv n h (n 0) w hr (hL 0 (by omega)) hN (by omega) hall).mono fun e w' H => .inr (.inl ⟨by omega, hall, H⟩)
/-- What Even hands back. -/
def EvenP (N : Nat) (n : Nat → Nat) (h : Nat → Nat → Nat) (w : World) (e : Ending) (w' : World) : Prop :=
  (N = 0 ∧ EvP w false 1 e w') ∨ (0 < N ∧ (∀ i, i < N → n i = n 0) ∧ EvP w (allZ (n 0) (acc (fun _ => 0) h N)) 0 e w') ∨ (0 < N ∧ (∃ j, j < N ∧ n j ≠ n 0) ∧ EvP w false 4 e w')
theorem even_any (v : Value) (N : Nat) (rv : Nat → Value) (n : Nat → Nat) (h : Nat → Nat → Nat) (w : World) (hr : Rows2 w v N rv n h) (hL : ∀ i, i < N → n i ≤ 200000) (hN : N ≤ 200000) :
    Calls Try.prog 15 #[v] w (EvenP N n h w) := by
  by_cases h0 : N = 0
  · subst h0
    obtain ⟨a, cap, rfl, -⟩ := hr.l
    exact (even_nil a cap w).mono fun e w' H => .inl ⟨rfl, H⟩
  by_cases hb : ∃ j, j < N ∧ n j ≠ n 0
  · obtain ⟨j, hj, hne, hlt⟩ := first_of N hb
    exact (even_bad v N rv n h w hr (hL 0 (by omega)) hN j hj (fun i hi => Classical.byContradiction fun hh => hlt i hi hh) hne).mono fun e w' H => .inr (.inr ⟨by omega, hb, H⟩)
  · have hall : ∀ i, i < N → n i = n 0 := fun i hi => Classical.byContradiction fun hh => hb ⟨i, hi, hh⟩
    exact (even_ok v N rv n h (n 0) w hr (hL 0 (by omega)) hN (by omega) hall).mono fun e w' H => .inr (.inl ⟨by omega, hall, H⟩)
def GrowP (w : World) (e : Ending) (w' : World) : Prop :=
  ∃ v, e = .returned v ∧ w'.ownsRow w.heap.size 25 1 v 0 [] ∧ Below w.heap.size w w'
set_option maxRecDepth 100000 in
theorem grow_nil (n : Nat) (hn : n ≤ 200000) (w : World) : Calls Try.prog 63 #[.slice none 0 0, .int .i64 n] w (GrowP w) := by
  obtain ⟨i0, hi, hz0, hz1, hz2⟩ := info_parts Try.info25
  by_cases h0 : n = 0
  · subst h0
    go_enter Try.func63, Try.ntmps63
    go_wp2
    go_ret
    exact ⟨_, rfl, World.ownsRow_nil _ _ _ _, Below.refl _ _⟩
  · have hr := fun w => Lib.run_append_nil_zeros (P := Try.prog) w 22 3 22 25 i0 (.slice none 0 0) .i64 .i64 Try.underlying22 Try.underlying3 hi hz0 n (by omega) (by rw [hz1]; omega) (by omega) (by rw [hz2]; omega)
    have hw : IntKind.i64.wrap (n : Int) = n := by go_arith
    go_enter Try.func63, Try.ntmps63
    go_wp2_with (first | (at_builtin; refine Lib.wpList_append_run _ rfl _ _ _ _ rfl _ _ rfl rfl _ _ (hr _) ?_))
    go_ret
    refine ⟨_, rfl, ⟨rfl, .inr ⟨w.heap.size, grownCap w n 0 25, _, rfl, Nat.le_refl _, heap_alloc_new w _, Nat.zero_le _, grownCap_le_maxLen _ _ _ _ (by unfold maxLen; omega), ?_, by simp⟩⟩, by go_grown⟩
    have := grownCap_ge w n 0 25
    simp [size_zeroCells]
    omega
def tots (m : Nat → Nat) : Nat → Nat
  | 0 => 0
  | k + 1 => tots m k + m k
def cat (X : Nat → List Value) : Nat → List Value
  | 0 => []
  | k + 1 => cat X k ++ X k
def ConcatP (n : Nat) (xs : List Value) (w : World) (e : Ending) (w' : World) : Prop :=
  ∃ v, e = .returned v ∧ w'.ownsRow w.heap.size 25 1 v n xs ∧ Below w.heap.size w w'
theorem cat_len (X : Nat → List Value) (m : Nat → Nat) (h : ∀ k, (X k).length = m k) : ∀ k, (cat X k).length = tots m k
  | 0 => rfl
  | k + 1 => by rw [cat, List.length_append, cat_len X m h k, h k]; rfl
set_option maxRecDepth 100000 in
set_option maxHeartbeats 400000 in
theorem concat_any (b o N cap : Nat) (ab ao m mc : Nat → Nat) (X : Nat → List Value) (w : World) (hc : ∀ k, k < N → w.cell? ⟨b, o + k, none⟩ = some (.slice (some ⟨ab k, ao k, none⟩) (m k) (mc k)))
    (hX : ∀ k, (X k).length = m k) (hX1 : ∀ k, ∀ u ∈ X k, u.oneCell' = true) (hXc : ∀ k, k < N → ∀ i u, (X k)[i]? = some u → w.cell? ⟨ab k, ao k + i, none⟩ = some u)
    (hN : N ≤ 200000) (htot : ∀ k, k ≤ N → tots m k ≤ 200000) :
    Calls Try.prog 57 #[.slice (some ⟨b, o, none⟩) N cap] w (ConcatP (tots m N) (cat X N) w) := by
  have HC := Lib.hid hc
  have HX := Lib.hid hX
  have HX1 := Lib.hid hX1
  have HXc := Lib.hid hXc
  have HT := Lib.hid htot
  clear hc hX hX1 hXc htot
  obtain ⟨i0, hi, hz0, hz1, hz2⟩ := info_parts Try.info25
  go_enter Try.func57, Try.ntmps57
  go_wp2
  go_loopw [3, 11] (fun s3 s11 wr => ∃ k : Nat, k ≤ N ∧ s11 = .int .i64 k ∧ s3 = .int .i64 (tots m k) ∧ w = wr) (fun s3 s11 _ => N - (intOf s11).toNat)
  case atStart => exact ⟨0, by omega, rfl, rfl, rfl⟩
  case round =>
    obtain ⟨k, hk, rfl, rfl, rfl⟩ := hrel
    by_cases hlt : k < N
    · have hcell := HC.out k hlt
      have ht := HT.out k hk
      have ht1 := HT.out (k + 1) (by omega)
      have he : tots m (k + 1) = tots m k + m k := rfl
      rw [he] at ht1
      have hw : IntKind.i64.wrap ((tots m k : Int) + (m k : Int)) = ((tots m k + m k : Nat) : Int) := by go_arith
      generalize hg : tots m k = T at *
      go_wp2
      go_roundw
      case rel => exact ⟨k + 1, by omega, by go_num, by rw [he]; rfl, trivial⟩
      case measure => simp [intOf]; omega
    · obtain rfl : N = k := by omega
      have ht := HT.out N (Nat.le_refl _)
      generalize hg : tots m N = T at *
      go_wp2_with fail
      refine (grow_nil T ht _).mono ?_
      rintro e w1 ⟨v1, rfl, hown, hb⟩
      have HO := Lib.hid hown
      have HB := Lib.hid hb
      clear hown hb
      go_wp2
      go_loopw [6, 27] (fun s6 s27 wr => ∃ k : Nat, k ≤ N ∧ s27 = .int .i64 k ∧ wr.ownsRow w.heap.size 25 1 s6 (tots m k) (cat X k) ∧ Below w.heap.size w wr) (fun s6 s27 _ => N - (intOf s27).toNat)
      case atStart => exact ⟨0, by omega, rfl, HO.out, HB.out⟩
      case round =>
        obtain ⟨k, hk, rfl, hO, hB⟩ := hrel
        have HO2 := Lib.hid hO
        have HB2 := Lib.hid hB
        clear hO hB
        by_cases hlt : k < N
        · have hcell : wr.cell? ⟨b, o + k, none⟩ = some (.slice (some ⟨ab k, ao k, none⟩) (m k) (mc k)) := by
            rw [HB2.out.cell (p := ⟨b, o + k, none⟩) (World.block_lt_of_cell? w _ (HC.out k hlt))]; exact HC.out k hlt
          have he : tots m (k + 1) = tots m k + m k := rfl
          have ht1 := HT.out (k + 1) (by omega)
          rw [he] at ht1
          go_wp2_with (first | (at_builtin; refine wpList_append_own _ rfl _ _ 22 rfl w.heap.size 25 i0 (.slice none 0 0) 1 24 Try.underlying22 hi hz0 hz1 hz2 rfl (by decide) _ (tots m k) (cat X k) rfl HO2.out ⟨ab k, ao k, none⟩ (m k) (mc k) (X k) rfl (by rw [HX.out, Nat.mul_one]) ?c1 (HX1.out k) ?c3 ?c4 HB2.out.size ?_))
          case c1 =>
            intro q u hq
            have hq := HXc.out k hlt q u hq
            have e : (⟨ab k, ao k, none⟩ : Addr).add q = ⟨ab k, ao k + q, none⟩ := by unfold Addr.add; split <;> simp_all
            rw [e, HB2.out.cell (p := ⟨ab k, ao k + q, none⟩) (World.block_lt_of_cell? w _ hq)]
            exact hq
          case c3 => unfold maxLen; omega
          case c4 => omega
          intro v' w' hown hgr _
          have hbel : Below w.heap.size w w' := HB2.out.grown hgr HB2.out.size (fun k hk => (HO2.out.lt k hk).1)
          clear hgr
          have HO3 := Lib.hid hown
          have HB3 := Lib.hid hbel
          clear hown hbel
          go_wp2
          go_roundw
          case rel => exact ⟨k + 1, by omega, by go_num, HO3.out, HB3.out⟩
          case measure => simp [intOf]; omega
        · obtain rfl : N = k := by omega
          go_wp2
          go_ret
          exact ⟨_, rfl, hg ▸ HO2.out, HB2.out⟩
/-- The list but for place a. -/
def but {α : Type} (a : Nat) (f : Nat → α) (i : Nat) : α := if i < a then f i else f (i + 1)
set_option maxHeartbeats 400000 in
theorem missing_bad (v : Value) (N : Nat) (rv : Nat → Value) (n : Nat → Nat) (h : Nat → Nat → Nat) (w : World) (hr : Rows2 w v N rv n h) (a : Int) (ha : a < 0 ∨ (N : Int) ≤ a) :
    Calls Try.prog 25 #[v, .int .i64 a] w (BadP w 1) := by
  obtain ⟨av, cap, rfl, -⟩ := hr.l
  clear hr
  go_enter Try.func25, Try.ntmps25
  by_cases h0 : a < 0
  · go_wp2
    go_ret2
    exact ⟨rfl, Below.refl _ _⟩
  · have h1 : (N : Int) ≤ a := by omega
    go_wp2
    go_ret2
    exact ⟨rfl, Below.refl _ _⟩
theorem ownRws {w : World} {b : Nat} {e : TypeId} {v : Value} {n : Nat} {xs : List Value} {rv : Nat → Value} (h : w.ownsRow b e 1 v n xs) (hx : ∀ i, i < n → xs[i]? = some (rv i)) : Rws w v n rv := by
  obtain ⟨h1, h2⟩ := h
  rcases h2 with ⟨rfl, h0⟩ | ⟨g, cap, cur, rfl, hb, hg, hn, hm, hs, ht⟩
  · subst h0; exact ⟨none, 0, rfl, .inl rfl⟩
  · refine ⟨_, _, rfl, .inr ⟨g, 0, rfl, fun k hk => ?_⟩⟩
    rw [Nat.zero_add, cell_of_row w g k _ e (0, 0) hg]
    have := hx k hk
    rw [← ht, List.getElem?_take, if_pos (by omega)] at this
    simpa using this
theorem but_get (N a : Nat) (rv : Nat → Value) (ha : a < N) (i : Nat) (hi : i < N - 1) :
    (((List.range a).map rv) ++ ((List.range (N - (a + 1))).map fun k => rv (a + 1 + k)))[i]? = some (but a rv i) := by
  unfold but
  by_cases h : i < a
  · rw [List.getElem?_append_left (by simpa using h), if_pos h]
    simp [h]
  · rw [List.getElem?_append_right (by simp; omega), if_neg h]
    have h2 : i - a < N - (a + 1) := by omega
    have h3 : a + 1 + (i - a) = i + 1 := by omega
    simp [h2, h3]
def MCat (N a : Nat) (rv : Nat → Value) (n : Nat → Nat) (h : Nat → Nat → Nat) (w : World) (e : Ending) (w' : World) : Prop :=
  ∃ v, e = .returned v ∧ Rows2 w' v (N - 1) (but a rv) (but a n) (but a h) ∧ Below w.heap.size w w'
theorem mcat (b o A N cap a : Nat) (rv : Nat → Value) (n : Nat → Nat) (h : Nat → Nat → Nat) (w : World) (hr : Rows2 w (.slice (some ⟨b, o, none⟩) N cap) N rv n h) (ha : a < N) (hN : N ≤ 200000) (hA : A = o + (a + 1) ∨ N = a + 1) :
    Calls Try.prog 57 #[.slice (some ⟨w.heap.size, 0, none⟩) 2 2] (w.alloc (.cells #[.slice (some ⟨b, o, none⟩) a cap, .slice (some ⟨b, A, none⟩) (N - (a + 1)) (cap - (a + 1))] 22)).drew (MCat N a rv n h w) := by
  obtain ⟨av, cap', he, hl⟩ := hr.l
  rcases hl with h0 | ⟨b', o', hab, hc⟩
  · omega
  cases he
  cases hab
  generalize hW : (w.alloc (.cells #[.slice (some ⟨b, o, none⟩) a cap, .slice (some ⟨b, A, none⟩) (N - (a + 1)) (cap - (a + 1))] 22)).drew = W
  have hbW : Below w.heap.size w W := by rw [← hW]; go_grown
  have hcW : ∀ i, i < N → W.cell? ⟨b, o + i, none⟩ = some (rv i) := fun i hi => by
    rw [hbW.cell (p := ⟨b, o + i, none⟩) (World.block_lt_of_cell? w _ (hc i hi))]; exact hc i hi
  have h1 : ∀ u i, u ∈ [rv i] → i < N → u.oneCell' = true := fun u i hu hi => by
    obtain ⟨_, _, hv, -⟩ := hr.b i hi
    rw [List.mem_singleton.1 hu, hv]
    rfl
  refine (concat_any w.heap.size 0 2 2 (fun _ => b) (fun k => if k = 0 then o else A) (fun k => if k = 0 then a else if k = 1 then N - (a + 1) else 0) (fun k => if k = 0 then cap else cap - (a + 1))
    (fun k => if k = 0 then (List.range a).map rv else if k = 1 then (List.range (N - (a + 1))).map (fun i => rv (a + 1 + i)) else []) W ?_ ?_ ?_ ?_ (by omega) ?_).mono ?_
  · intro k hk
    have hh : ∀ j, W.cell? ⟨w.heap.size, j, none⟩ = #[Value.slice (some ⟨b, o, none⟩) a cap, .slice (some ⟨b, A, none⟩) (N - (a + 1)) (cap - (a + 1))][j]? := fun j => by
      rw [← hW]
      exact cell_of_row _ _ _ _ 22 (0, 0) (heap_alloc_new w _)
    rw [Nat.zero_add, hh]
    obtain rfl | rfl : k = 0 ∨ k = 1 := by omega
    · rfl
    · rfl
  · intro k
    split
    · simp
    · split <;> simp
  · intro k u hu
    split at hu
    · obtain ⟨i, hi, rfl⟩ := List.mem_map.1 hu
      exact h1 _ i (List.mem_singleton.2 rfl) (by have := List.mem_range.1 hi; omega)
    · split at hu
      · obtain ⟨i, hi, rfl⟩ := List.mem_map.1 hu
        exact h1 _ _ (List.mem_singleton.2 rfl) (by have := List.mem_range.1 hi; omega)
      · cases hu
  · intro k hk i u hu
    obtain rfl | rfl : k = 0 ∨ k = 1 := by omega
    · by_cases hi : i < a
      · simp [hi] at hu
        subst hu
        exact hcW i (by omega)
      · rw [if_pos rfl, List.getElem?_eq_none (by simp; omega)] at hu
        cases hu
    · by_cases hi : i < N - (a + 1)
      · simp [hi] at hu
        subst hu
        have := hcW (a + 1 + i) (by omega)
        rcases hA with hA | hA
        · simp only [if_neg (Nat.one_ne_zero), hA]
          rw [show o + (a + 1) + i = o + (a + 1 + i) by omega]
          exact this
        · omega
      · rw [if_neg (by omega), if_pos rfl, List.getElem?_eq_none (by simp; omega)] at hu
        cases hu
  · intro k hk
    obtain rfl | rfl | rfl : k = 0 ∨ k = 1 ∨ k = 2 := by omega
    · simp [tots]
    · simp [tots]; omega
    · simp [tots]; omega
  · rintro e w1 ⟨v1, rfl, hown, hb⟩
    have hbel : Below w.heap.size w w1 := via hbW hb
    refine ⟨v1, rfl, ⟨?_, fun i hi => ?_, fun i hi => ?_⟩, hbel⟩
    · have hn : tots (fun k => if k = 0 then a else if k = 1 then N - (a + 1) else 0) 2 = N - 1 := by simp [tots]; omega
      rw [hn] at hown
      refine ownRws hown fun i hi => ?_
      have := but_get N a rv ha i hi
      simpa [cat] using this
    · unfold but
      split
      · exact (hr.b i (by omega)).keep hbel
      · exact (hr.b (i + 1) (by omega)).keep hbel
    · unfold but
      split
      · exact hr.lt i (by omega)
      · exact hr.lt (i + 1) (by omega)
set_option maxRecDepth 100000 in
set_option maxHeartbeats 400000 in
theorem missing_any (b o N cap : Nat) (rv : Nat → Value) (n : Nat → Nat) (h : Nat → Nat → Nat) (w : World) (hr : Rows2 w (.slice (some ⟨b, o, none⟩) N cap) N rv n h) (a : Nat) (ha : a < N) (hcap : N ≤ cap) (hL : ∀ i, i < N → n i ≤ 200000) (hN : N ≤ 200000) :
    Calls Try.prog 25 #[.slice (some ⟨b, o, none⟩) N cap, .int .i64 a] w (OfP (N - 1) (but a n) (but a h) w) := by
  have hw : IntKind.i64.wrap ((a : Int) + 1) = ((a + 1 : Nat) : Int) := by go_arith
  have hA : ∃ A, (if cap = a + 1 then some (⟨b, o, none⟩ : Addr) else some ⟨b, o + (a + 1), none⟩) = some (⟨b, A, none⟩ : Addr) ∧ (A = o + (a + 1) ∨ N = a + 1) := by
    by_cases h : cap = a + 1
    · exact ⟨o, by rw [if_pos h], .inr (by omega)⟩
    · exact ⟨o + (a + 1), by rw [if_neg h], .inl rfl⟩
  obtain ⟨A, hA, hA2⟩ := hA
  have HM := Lib.hid (mcat b o A N cap a rv n h w hr ha hN hA2)
  have HOf : ∀ v' w1, Below w.heap.size w w1 → Rows2 w1 v' (N - 1) (but a rv) (but a n) (but a h) → Calls Try.prog 14 #[v'] w1 (OfP (N - 1) (but a n) (but a h) w) := fun v' w1 hb hR => (of_any v' (N - 1) _ _ _ w1 hR (fun i hi => by unfold but; split; exact hL _ (by omega); exact hL _ (by omega)) (by omega)).mono fun e w' H => H.back hb
  have HO := Lib.hid HOf
  clear hA2 HOf hr hL
  have h1 : a ≤ cap := by omega
  have h2 : a + 1 ≤ N := by omega
  go_enter Try.func25, Try.ntmps25
  go_wp2_with fail
  go_region_with (first | (go_at_call 57; refine HM.out.mono ?_; rintro e w1 ⟨v1, rfl, hR, hb⟩; have HRR := Lib.hid hR; have HB := Lib.hid hb; clear hR hb) | (go_at_call 14; refine (HO.out _ _ HB.out HRR.out).mono ?_; rintro e w2 H; obtain ⟨v2, x2, rfl⟩ := H.form; have HQ := Lib.hid H; clear H))
  all_goals (go_wp2; go_ret2; exact HQ.out)
theorem patch_any (va vb vc : Value) (rv : Nat → Value) (n : Nat → Nat) (h : Nat → Nat → Nat) (w : World) (ha : rv 0 = va) (hb : rv 1 = vb) (hc : rv 2 = vc) (hr : ∀ i, i < 3 → Bts w (rv i) (n i) (h i)) (hlt : ∀ i, i < 3 → ∀ k, k < n i → h i k < 256) (hL : ∀ i, i < 3 → n i ≤ 200000) :
    Calls Try.prog 24 #[va, vb, vc] w (OfP 3 n h w) := by
  have HOf : Calls Try.prog 14 #[.slice (some ⟨w.heap.size, 0, none⟩) 3 3] (w.alloc (.cells #[va, vb, vc] 25)) (OfP 3 n h w) := by
    refine (of_any _ 3 rv n h _ ⟨⟨_, _, rfl, .inr ⟨w.heap.size, 0, rfl, fun k hk => ?_⟩⟩, fun i hi => (hr i hi).keep (by go_grown), hlt⟩ hL (by omega)).mono fun e w' H => H.back (by go_grown)
    show (w.alloc (.cells #[va, vb, vc] 25)).cell? _ = _
    rw [Nat.zero_add, cell_of_row _ _ _ _ 25 (0, 0) (heap_alloc_new w _)]
    obtain rfl | rfl | rfl : k = 0 ∨ k = 1 ∨ k = 2 := by omega
    · rw [ha]; rfl
    · rw [hb]; rfl
    · rw [hc]; rfl
  have HO := Lib.hid HOf
  obtain ⟨_, _, e0, -⟩ := hr 0 (by omega)
  obtain ⟨_, _, e1, -⟩ := hr 1 (by omega)
  obtain ⟨_, _, e2, -⟩ := hr 2 (by omega)
  obtain rfl := ha
  obtain rfl := hb
  obtain rfl := hc
  rw [e0, e1, e2] at HO ⊢
  clear HOf hr hlt hL e0 e1 e2
  go_enter Try.func24, Try.ntmps24
  go_wp2_with fail
  refine HO.out.mono ?_
  rintro e w2 H
  obtain ⟨v2, x2, rfl⟩ := H.form
  have HQ := Lib.hid H
  clear H
  go_wp2
  go_ret2
  exact HQ.out
end Go.Proofs.Ytnjcnnjdogdbdaa
