/- SameInts at lists that read alike; 'known' returns true. Conditions: as stated at each. -/
import Derived.Test.YtdgbdbploghhgaaGh
namespace Go.Proofs.Ytdgbdbploghhgaa
open Go.RowKit
theorem same_zero (a1 a2 : Option Addr) (c1 c2 : Nat) (w : World) : Calls Try.prog 25 #[.slice a1 0 c1, .slice a2 0 c2] w fun e w' => e = .returned (.bool true) ∧ Below w.heap.size w w' := by
  go_enter Try.func25, Try.ntmps25
  go_wp2
  refine wp_loop_rounds 1 ?_
  rw [rounds_succ]
  go_wp2
  go_returns
  refine ⟨rfl, ?_⟩
  exact Below.refl _ _
/-- A value that reads as the list of ints f 0 .. f (n - 1). -/
def IntsV (w : World) (v : Value) (n : Nat) (f : Nat → Int) : Prop :=
  ∃ a cap, v = .slice a n cap ∧ (n = 0 ∨ ∃ g, a = some ⟨g, 0, none⟩ ∧ ∀ k, k < n → w.cell? ⟨g, k, none⟩ = some (.int .i64 (f k)))
theorem IntsV.keep {w w1 : World} {v : Value} {n : Nat} {f : Nat → Int} (h : IntsV w v n f) (hb : Below w.heap.size w w1) : IntsV w1 v n f := by
  obtain ⟨a, cap, hv, h⟩ := h
  refine ⟨a, cap, hv, ?_⟩
  rcases h with h | ⟨g, ha, hc⟩
  · exact .inl h
  · refine .inr ⟨g, ha, fun k hk => ?_⟩
    rw [hb.cell (p := ⟨g, k, none⟩) (World.block_lt_of_cell? w _ (hc k hk))]
    exact hc k hk
theorem IntsV.nil (w : World) (f : Nat → Int) : IntsV w (.slice none 0 0) 0 f := ⟨none, 0, rfl, .inl rfl⟩
theorem same_V {w : World} {v1 v2 : Value} {n : Nat} {f : Nat → Int} (hn : n ≤ 1000) (h1 : IntsV w v1 n f) (h2 : IntsV w v2 n f) :
    Calls Try.prog 25 #[v1, v2] w fun e w' => e = .returned (.bool true) ∧ Below w.heap.size w w' := by
  obtain ⟨a, cap, rfl, h1⟩ := h1
  obtain ⟨a', cap', rfl, h2⟩ := h2
  rcases h1 with rfl | ⟨g, rfl, h1⟩
  · exact same_zero _ _ _ _ _
  · rcases h2 with rfl | ⟨g', rfl, h2⟩
    · exact same_zero _ _ _ _ _
    · exact same_any g g' n _ _ f w hn h1 h2
theorem fillA_full (N : Nat) (f : Nat → Int) (k : Nat) (h : k < N) : (fillA N f N)[k]? = some (.int .i64 (f k)) := by rw [fillA_get _ _ _ _ h, if_pos h]
theorem IntsIn.V {w : World} {g N cap : Nat} {f : Nat → Int} (h : IntsIn w g N f) : IntsV w (.slice (some ⟨g, 0, none⟩) N cap) N f :=
  ⟨_, _, rfl, .inr ⟨g, rfl, fun k hk => by rw [cell_of_row w g k _ 3 (0, 0) h]; exact fillA_full N f k hk⟩⟩
theorem ownsV {w : World} {b : Nat} {v : Value} {N : Nat} {f : Nat → Int} (h : w.ownsRow b 3 1 v N (memL f N)) : IntsV w v N f := by
  obtain ⟨h1, h2⟩ := h
  rcases h2 with ⟨rfl, h0⟩ | ⟨g, cap, cur, rfl, hb, hg, hn, hm, hs, ht⟩
  · subst h0; exact IntsV.nil w f
  · refine ⟨_, _, rfl, .inr ⟨g, rfl, fun k hk => ?_⟩⟩
    rw [cell_of_row w g k _ 3 (0, 0) hg]
    have := memL_get f N k hk
    rw [← ht, List.getElem?_take, if_pos (by omega)] at this
    simpa using this
theorem good425 : Good 4 2 5 := ⟨by omega, by omega, by omega, by omega, by omega, by omega⟩
theorem kn_of (w : World) : Calls Try.prog 12 #[G 4 2 5, .int .i64 29] w fun e w' => e = .returned (.tuple #[.agg #[.int .i64 4, .int .i64 9, .int .i64 2, .int .i64 3], .int .u16 0]) ∧ Below w.heap.size w w' :=
  gof_ok 4 2 5 29 w good425 (by omega) (by omega)
theorem kn_at (w : World) : Calls Try.prog 15 #[G 4 2 5, .int .i64 0, .int .i64 2] w fun e w' => e = .returned (.tuple #[.int .i64 8, .bool false, .int .u16 0]) ∧ Below w.heap.size w w' :=
  gat_blk 4 2 5 0 2 w good425 (by omega) (by omega) (by omega) (by omega) (by decide)
theorem kn_members (w : World) : Calls Try.prog 14 #[G 4 2 5, .int .i64 2] w (NewInts w 3 (fun i => mem 4 1 i) .u16) :=
  gmembers_ok 3 2 5 2 w good425 (by omega) (by omega)
theorem kn_blocks (w : World) : Calls Try.prog 23 #[G 4 2 5] w fun e w' => e = .returned (.int .i64 30) ∧ Below w.heap.size w w' :=
  gblocks_ok 4 2 5 w good425
theorem lit301 (w : World) : IntsV (w.alloc (.cells #[.int .i64 3, .int .i64 0, .int .i64 1] 3)) (.slice (some ⟨w.heap.size, 0, none⟩) 3 3) 3 (fun i => mem 4 1 i) := by
  refine ⟨_, _, rfl, .inr ⟨_, rfl, fun k hk => ?_⟩⟩
  rw [World.cell?_alloc_new]
  match k, hk with
  | 0, _ => rfl
  | 1, _ => rfl
  | 2, _ => rfl
set_option maxHeartbeats 400000 in
theorem known_true (w : World) : Calls Try.prog 26 #[] w fun e w' => e = .returned (.bool true) ∧ Below w.heap.size w w' := by
  go_enter Try.func26, Try.ntmps26
  go_wp2_with fail
  refine (kn_of _).mono ?_
  rintro e w1 ⟨rfl, hb1⟩
  obtain ⟨k1, f1, z1⟩ := kp hb1 w.heap.size (by go_size)
  go_wp2_with fail
  refine (kn_at _).mono ?_
  rintro e w2 ⟨rfl, hb2⟩
  obtain ⟨k2, f2, z2⟩ := kp hb2 w.heap.size (by go_size)
  obtain ⟨k22, f22, z22⟩ := kp hb2 w1.heap.size (by go_size)
  go_wp2_with fail
  refine (kn_members _).mono ?_
  rintro e w3 ⟨g, rfl, hge, hin, hb3⟩
  obtain ⟨k3, f3, z3⟩ := kp hb3 w.heap.size (by go_size)
  obtain ⟨k32, f32, z32⟩ := kp hb3 w1.heap.size (by go_size)
  have HV := Lib.hid (hin.V (cap := 3))
  clear hin
  go_wp2_with fail
  refine (same_V (f := fun i => mem 4 1 i) (by omega) (HV.out.keep (bal (Below.refl _ _) _)) (lit301 _)).mono ?_
  rintro e w4 ⟨rfl, hb4⟩
  obtain ⟨k4, f4, z4⟩ := kp hb4 w.heap.size (by go_size)
  go_wp2_with fail
  refine (kn_blocks _).mono ?_
  rintro e w5 ⟨rfl, hb5⟩
  go_wp2
  go_returns
  refine ⟨rfl, ?_⟩
  (repeat' (first | (with_reducible exact Below.refl _ _) | (with_reducible refine Below.setCell ?_ (by go_size) _) | (with_reducible refine bal ?_ _) | (with_reducible refine Below.drew ?_) | (with_reducible refine bdn ?_ _) | (with_reducible refine via ?_ (by with_reducible assumption))))
end Go.Proofs.Ytdgbdbploghhgaa
