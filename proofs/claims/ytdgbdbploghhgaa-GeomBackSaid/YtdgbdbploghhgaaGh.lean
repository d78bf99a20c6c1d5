/- The contracts of SameInts at two lists that are the same, and of the reference's Members. Conditions: as stated at each. -/
import Derived.Test.YtdgbdbploghhgaaGf
namespace Go.Proofs.Ytdgbdbploghhgaa
open Go.RowKit
theorem same_nil (w : World) : Calls Try.prog 25 #[.slice none 0 0, .slice none 0 0] w fun e w' => e = .returned (.bool true) ∧ Below w.heap.size w w' := by
  go_enter Try.func25, Try.ntmps25
  go_wp2
  refine wp_loop_rounds 1 ?_
  rw [rounds_succ]
  go_wp2
  go_returns
  refine ⟨rfl, ?_⟩
  exact Below.refl _ _
set_option maxHeartbeats 400000 in
theorem same_any (g h N c1 c2 : Nat) (f : Nat → Int) (w : World) (hN : N ≤ 1000) (hg : ∀ k, k < N → w.cell? ⟨g, k, none⟩ = some (.int .i64 (f k))) (hh : ∀ k, k < N → w.cell? ⟨h, k, none⟩ = some (.int .i64 (f k))) :
    Calls Try.prog 25 #[.slice (some ⟨g, 0, none⟩) N c1, .slice (some ⟨h, 0, none⟩) N c2] w fun e w' => e = .returned (.bool true) ∧ Below w.heap.size w w' := by
  have HG := Lib.hid hg
  have HH := Lib.hid hh
  clear hg hh
  have HT : Hid ((N : Int) = N) := rfl
  go_enter Try.func25, Try.ntmps25
  go_wp2
  go_loopw [5] (fun i wr => ∃ k n : Nat, k ≤ N ∧ i = .int .i64 k ∧ wr = w.drewN n) (fun i _ => N - (intOf i).toNat)
  case atStart => exact ⟨0, 0, Nat.zero_le _, rfl, rfl⟩
  case round =>
    obtain ⟨k, n, hk, rfl, rfl⟩ := hrel
    by_cases hlt : k < N
    · have c1 := HG.out k hlt
      have c2 := HH.out k hlt
      have i1 : (0 : Int) ≤ (k : Int) := by omega
      have i2 : (k : Int) < (N : Int) := by omega
      go_wp2
      go_quiet (fail)
      go_wp2
      go_roundw
      case rel => exact ⟨k + 1, _, by omega, by go_num, rfl⟩
      case measure => simp [intOf]; omega
    · obtain rfl : k = N := by omega
      go_wp2
      go_returns
      exact ⟨rfl, bdn (Below.refl _ _) _⟩
theorem rmembers_bad (m c s r : Int) (w : World) (h : ¬ Good m c s) :
    Calls Try.prog 18 #[G m c s, .int .i64 r] w fun e w' => e = .returned (.tuple #[.slice none 0 0, .int .i64 60]) ∧ Below w.heap.size w w' := by
  have HG := Lib.hid h
  clear h
  go_enter Try.func18, Try.ntmps18
  go_wp2_with (first | (go_at_call 17; refine (rparity_bad _ _ _ _ _ HG.out).mono ?_; rintro e w1 ⟨rfl, hb⟩))
  go_returns
  refine ⟨rfl, ?_⟩
  (repeat' (first | (with_reducible exact Below.refl _ _) | (with_reducible refine Below.setCell ?_ (by go_size) _) | (with_reducible refine bal ?_ _) | (with_reducible refine Below.drew ?_) | (with_reducible refine bdn ?_ _) | (with_reducible refine via ?_ (by with_reducible assumption))))
theorem rmembers_rangea (m c s r : Int) (w : World) (h : Good m c s) (hr : r < 0) :
    Calls Try.prog 18 #[G m c s, .int .i64 r] w fun e w' => e = .returned (.tuple #[.slice none 0 0, .int .i64 3]) ∧ Below w.heap.size w w' := by
  have HG := Lib.hid h
  clear h
  go_enter Try.func18, Try.ntmps18
  go_wp2_with (first | (go_at_call 17; refine (rparity_rangea _ _ _ _ _ HG.out hr).mono ?_; rintro e w1 ⟨rfl, hb⟩))
  go_returns
  refine ⟨rfl, ?_⟩
  (repeat' (first | (with_reducible exact Below.refl _ _) | (with_reducible refine Below.setCell ?_ (by go_size) _) | (with_reducible refine bal ?_ _) | (with_reducible refine Below.drew ?_) | (with_reducible refine bdn ?_ _) | (with_reducible refine via ?_ (by with_reducible assumption))))
theorem rmembers_rangeb (m c s r : Int) (w : World) (h : Good m c s) (hr : s * c ≤ r) :
    Calls Try.prog 18 #[G m c s, .int .i64 r] w fun e w' => e = .returned (.tuple #[.slice none 0 0, .int .i64 3]) ∧ Below w.heap.size w w' := by
  have HG := Lib.hid h
  clear h
  go_enter Try.func18, Try.ntmps18
  go_wp2_with (first | (go_at_call 17; refine (rparity_rangeb _ _ _ _ _ HG.out hr).mono ?_; rintro e w1 ⟨rfl, hb⟩))
  go_returns
  refine ⟨rfl, ?_⟩
  (repeat' (first | (with_reducible exact Below.refl _ _) | (with_reducible refine Below.setCell ?_ (by go_size) _) | (with_reducible refine bal ?_ _) | (with_reducible refine Below.drew ?_) | (with_reducible refine bdn ?_ _) | (with_reducible refine via ?_ (by with_reducible assumption))))
/-- A list of ints, of its first k the numbers f, begun by the call. -/
def memL (f : Nat → Int) (k : Nat) : List Value := (List.range k).map fun i => Value.int .i64 (f i)
theorem memL_len (f : Nat → Int) (k : Nat) : (memL f k).length = k := by simp [memL]
theorem memL_snoc (f : Nat → Int) (k : Nat) : memL f k ++ [Value.int .i64 (f k)] = memL f (k + 1) := by simp [memL, List.range_succ]
theorem memL_get (f : Nat → Int) (k j : Nat) (h : j < k) : (memL f k)[j]? = some (.int .i64 (f j)) := by simp [memL, h]
theorem own_base {w : World} {b b' : Nat} {e : TypeId} {sz : Nat} {v : Value} {n : Nat} {xs : List Value} (h : w.ownsRow b e sz v n xs) (hb : b' ≤ b) : w.ownsRow b' e sz v n xs := by
  obtain ⟨h1, h2⟩ := h
  refine ⟨h1, ?_⟩
  rcases h2 with h2 | ⟨g, cap, cur, hv, hg, r⟩
  · exact .inl h2
  · exact .inr ⟨g, cap, cur, hv, by omega, r⟩
def AppInts (w : World) (N : Nat) (f : Nat → Int) (k : IntKind) (e : Ending) (w' : World) : Prop :=
  ∃ v, e = .returned (.tuple #[v, .int k 0]) ∧ w'.ownsRow w.heap.size 3 1 v N (memL f N) ∧ Below w.heap.size w w'
set_option maxHeartbeats 800000 in
theorem rmembers_ok (N : Nat) (c s r : Int) (w : World) (h : Good (N + 1) c s) (hr0 : 0 ≤ r) (hr1 : r < s * c) :
    Calls Try.prog 18 #[G (N + 1) c s, .int .i64 r] w (AppInts w N (fun i => mem (N + 1) (r / c) i) .i64) := by
  have hst0 : 0 ≤ r / c := Int.ediv_nonneg hr0 (by have := h.c1; omega)
  have hm1 := h.m3
  have hm2 := h.m16
  have HG := Lib.hid h
  clear h
  obtain ⟨hp1, hp2⟩ := par_bd (r / c) hm1
  obtain ⟨i0, hi, hz0, hz1, hz2⟩ := info_parts Try.info3
  go_enter Try.func18, Try.ntmps18
  go_wp2_with (first | (go_at_call 17; refine (rparity_ok _ _ _ _ _ HG.out hr0 hr1).mono ?_; rintro e w1 ⟨rfl, hb⟩; obtain ⟨k0hb, f0hb, z0hb⟩ := kp hb (w.heap.size) (by go_size)))
  have cB : ∀ o, w1.cell? ⟨w.heap.size, o, none⟩ = #[.int .i64 (N + 1), .int .i64 c, .int .i64 s][o]? := fun o => (k0hb o).trans (by simp)
  have HB := Lib.hid hb
  have HC := Lib.hid cB
  clear hb cB k0hb f0hb
  go_loopw [8, 9] (fun v i wr => ∃ k : Nat, k ≤ N ∧ i = .int .i64 k ∧ wr.ownsRow (w.heap.size + 1) 3 1 v k (memL (fun i => mem (N + 1) (r / c) i) k) ∧ (∀ o, wr.cell? ⟨w.heap.size, o, none⟩ = #[.int .i64 (N + 1), .int .i64 c, .int .i64 s][o]?) ∧ Below (w.heap.size + 1) w1 wr)
    (fun _ i _ => N - (intOf i).toNat)
  case atStart => exact ⟨0, Nat.zero_le _, rfl, World.ownsRow_nil _ _ _ _, HC.out, Below.refl _ _⟩
  case round =>
    obtain ⟨k, hk, rfl, hown, hcell, hbel⟩ := hrel
    by_cases hlt : k < N
    · have t5 : (par (N + 1) (r / c) + 1 + k) % (N + 1) = mem (N + 1) (r / c) k := rfl
      have hz := hbel.size
      go_wp2_with (first | (at_builtin; refine wpList_append_own _ rfl _ _ 37 rfl (w.heap.size + 1) 3 i0 (.int .i64 0) 1 8 Try.underlying37 hi hz0 hz1 hz2 rfl (by decide) _ _ _ rfl (hown.alloc _) ⟨wr.heap.size, 0, none⟩ 1 1 [.int .i64 (mem (N + 1) (r / c) k)] rfl rfl ?c1 ?c2 ?c3 ?c4 ?c5 ?_))
      case c1 =>
        intro j u hj
        match j, hj with
        | 0, hj => simp at hj; subst hj; simp [Addr.add]
      case c2 => intro u hu; simp at hu; subst hu; rfl
      case c3 => unfold maxLen; omega
      case c4 => omega
      case c5 => simp; omega
      intro v' w' hown' hgrow _
      rw [memL_snoc (fun i => mem (N + 1) (r / c) i) k] at hown'
      have hlt2 := hown.lt
      have hb2 : Below (w.heap.size + 1) w1 w' := (hbel.alloc (by omega) _).grown hgrow (by simp; omega) (fun q hq => (hlt2 q hq).1)
      have hc2 : ∀ o, w'.cell? ⟨w.heap.size, o, none⟩ = #[.int .i64 (N + 1), .int .i64 c, .int .i64 s][o]? := fun o => (hb2.cell (p := ⟨w.heap.size, o, none⟩) (by simp)).trans (HC.out o)
      clear hown hcell hbel hgrow hlt2
      go_wp2
      go_roundw
      case rel => exact ⟨k + 1, by omega, by go_num, hown', hc2, hb2⟩
      case measure => simp [intOf]; omega
    · obtain rfl : k = N := by omega
      go_wp2
      go_ret2
      have h0 : Below w.heap.size w w1 := via (bal (Below.refl _ _) _) HB.out
      exact ⟨_, rfl, own_base hown (Nat.le_succ _), h0.trans (hbel.mono (by omega))⟩
end Go.Proofs.Ytdgbdbploghhgaa
