/- The reference's copied: a batch with bytes of its own. Conditions: as stated at each. -/
import Derived.Test.YtgkkmdebpekckaaNd
namespace Go.Proofs.Ytgkkmdebpekckaa
open Go.RowKit
/-- Behind i rounds. -/
structure CPr (W wr : World) (s3 : Value) (i : Nat) (a : Ar) (dv : Nat → Value) : Prop where
  own : wr.ownsRow W.heap.size 47 2 s3 i (putL i a.bl dv)
  row : ∀ r, r < i → wr.ownsRow W.heap.size 5 1 (dv r) 128 (bytesL 128 (a.f r))
  ne : ∀ r, r < i → ∀ k, (dv r).ownBlock = some k → s3.ownBlock ≠ some k
  bel : Below W.heap.size W wr
theorem CPr.next {W wr w1 w' : World} {s3 v' x : Value} {i : Nat} {a : Ar} {dv : Nat → Value} {o : Obj} {s : Nat} (h : CPr W wr s3 i a dv) (hb : Below wr.heap.size wr w1) (hx : w1.ownsRow wr.heap.size 5 1 x 128 (bytesL 128 (a.f i))) (hs : w1.heap.size ≤ s)
    (hl : w'.ownsRow W.heap.size 47 2 v' (i + 1) (putL i a.bl dv ++ [.int .i64 (a.bl i), x])) (ht : Two s (w1.alloc o) s3 i 1 v' w') : CPr W w' v' (i + 1) a (putF i dv x) := by
  have hsz := h.bel.size
  have hsz1 := hb.size
  have hb1 : Below W.heap.size W w1 := h.bel.trans (hb.mono hsz)
  have hbl : ∀ k, v'.ownBlock = some k → s3.ownBlock = some k ∨ k = s := fun k hk => ht.block hk
  have hs3 : ∀ k, s3.ownBlock = some k → W.heap.size ≤ k ∧ k < wr.heap.size := h.own.lt
  refine ⟨by rw [← putL_snoc]; exact hl, fun r hr => ?_, fun r hr k hk e => ?_, ht.below (hb1.alloc hb1.size o) (by rw [World.size_alloc]; omega) fun k hk => (hs3 k hk).1⟩
  · by_cases e : r = i
    · subst e
      rw [putF_at]
      refine ht.keep ((own_base_le hx hsz).alloc _) fun k hk e => ?_
      have := (hx.lt k hk).1
      have := (hs3 k e).2
      omega
    · rw [putF_lt _ _ (by omega)]
      exact ht.keep ((own_keep hb (h.row r (by omega)) |>.alloc _)) fun k hk => h.ne r (by omega) k hk
  · have hlt : k < w1.heap.size ∧ s3.ownBlock ≠ some k := by
      by_cases e2 : r = i
      · subst e2
        rw [putF_at] at hk
        have h1 := hx.lt k hk
        exact ⟨h1.2, fun e3 => by have := (hs3 k e3).2; omega⟩
      · rw [putF_lt _ _ (by omega)] at hk
        have h1 := (h.row r (by omega)).lt k hk
        exact ⟨by omega, h.ne r (by omega) k hk⟩
    rcases hbl k e with h1 | h1
    · exact hlt.2 h1
    · omega
theorem CPr.at {W w : World} {v : Value} {a : Ar} {dv : Nat → Value} {n : Nat} (h : CPr W w v a.N a dv) (ht : a.taken n) : BatX (fun k => k < W.heap.size) w v a.bt := by
  refine ht.at (a := a) ⟨dv, ?_, fun i hi => ?_⟩
  · obtain ⟨a0, cap, rfl, hg⟩ := own_formN h.own
    refine ⟨a0, cap, rfl, ?_⟩
    rcases hg with hg | ⟨g, rfl⟩
    · exact .inl hg
    · refine .inr ⟨g, 0, rfl, fun e => by have h9 := (h.own.lt g rfl).1; omega, fun i hi => ⟨?_, ?_⟩⟩
      · rw [Nat.zero_add]; exact (own_cellN h.own (by rw [putL_get _ _ _ _ (by omega), putC_bl])).1
      · rw [Nat.zero_add]; exact (own_cellN h.own (by rw [putL_get _ _ _ _ (by omega), putC_dv])).1
  · have hr := h.row i hi
    rw [ht.len i hi]
    obtain ⟨a0, cap, e, hg⟩ := own_formN hr
    rcases hg with hg | ⟨g, rfl⟩
    · omega
    · rw [e] at hr
      exact ⟨_, _, e, .inr ⟨g, 0, rfl, fun e => by have h9 := (hr.lt g rfl).1; omega, fun k hk => by rw [Nat.zero_add]; exact (own_cellN hr (bytesL_get _ _ _ hk)).1⟩⟩
def CopP (a : Ar) (W : World) (e : Ending) (w' : World) : Prop :=
  ∃ a0 c, e = .returned (.slice a0 a.N c) ∧ BatX (fun k => k < W.heap.size) w' (.slice a0 a.N c) a.bt ∧ Below W.heap.size W w'
set_option maxRecDepth 100000 in
set_option maxHeartbeats 1000000 in
theorem copied_any (X : Nat → Prop) (v : Value) (a : Ar) (n : Nat) (W : World) (h : ArX X W v a) (ht : a.taken n) : Calls Try.prog 63 #[v] W (CopP a W) := by
  obtain ⟨dv0, ⟨aa, ac, rfl, hc⟩, hd⟩ := h
  have HC := Lib.hid hc
  have HD : Hid (∀ i, i < a.N → Bts W (dv0 i) 128 (a.f i)) := fun i hi => by have h9 := (hd i hi).bts; rwa [ht.len i hi] at h9
  have HT := Lib.hid ht
  have hN := ht.N
  obtain ⟨i1, hi1, hy0, hy1, hy2⟩ := info_parts Try.info47
  obtain ⟨i2, hi2, hz0, hz1, hz2⟩ := info_parts Try.info5
  obtain ⟨N, hNN⟩ : ∃ N, a.N = N := ⟨_, rfl⟩
  have HNN := Lib.hid hNN
  rw [hNN] at HC HD hN ⊢
  clear hc hd ht hNN
  go_enter Try.func63, Try.ntmps63
  go_wp2_with fail
  go_loopw [3, 4] (fun s3 s4 wr => ∃ (i : Nat) (dv : Nat → Value), i ≤ N ∧ s4 = .int .i64 i ∧ Hid (CPr W wr s3 i a dv)) (fun _ s4 _ => N - (intOf s4).toNat)
  case atStart => exact ⟨0, fun _ => .slice none 0 0, Nat.zero_le _, rfl, World.ownsRow_nil _ _ _ _, fun _ h => absurd h (Nat.not_lt_zero _), fun _ h => absurd h (Nat.not_lt_zero _), Below.refl _ _⟩
  case round =>
    obtain ⟨i, dv, hi, rfl, HR⟩ := hrel
    obtain ⟨la, lc, e3, -⟩ := own_formN HR.out.own
    subst e3
    by_cases hlt : i < N
    · rcases HC.out with h0 | ⟨ob, oo, rfl, -, hc⟩
      · omega
      obtain ⟨p1, p2⟩ := hc i hlt
      obtain ⟨da, dc, hdv, hdd⟩ := (HD.out i hlt).keep HR.out.bel
      rcases hdd with h0 | ⟨bd, od, rfl, hcd⟩
      · omega
      rw [hdv] at p2
      have HCD := Lib.hid hcd
      have c1 : wr.cell? ⟨ob, oo + i * 2, none⟩ = some (.int .i64 (a.bl i)) := by rw [HR.out.bel.cell (p := ⟨ob, oo + i * 2, none⟩) (World.block_lt_of_cell? W _ p1)]; exact p1
      have c2 : wr.cell? ⟨ob, oo + i * 2 + 1, none⟩ = some (.slice (some ⟨bd, od, none⟩) 128 dc) := by rw [HR.out.bel.cell (p := ⟨ob, oo + i * 2 + 1, none⟩) (World.block_lt_of_cell? W _ p2)]; exact p2
      have hobz : ob < wr.heap.size := World.block_lt_of_cell? wr _ c1
      have HSrc : Hid (∀ w', Below wr.heap.size wr w' → ∀ j u, (bytesL 128 (a.f i))[j]? = some u → w'.cell? ((⟨bd, od, none⟩ : Addr).add j) = some u) := fun w' hb j u hj => by
        by_cases hj' : j < 128
        · rw [bytesL_get _ _ _ hj'] at hj
          rw [addk, hb.cell (p := ⟨bd, od + j, none⟩) (World.block_lt_of_cell? wr _ (HCD.out j hj')), HCD.out j hj']
          exact hj
        · rw [List.getElem?_eq_none (by rw [bytesL_len]; omega)] at hj
          cases hj
      have i1' : (0 : Int) ≤ (i : Int) := by omega
      have i2' : (i : Int) < (N : Int) := by omega
      clear hc p1 p2 hdv hcd
      go_wp2_with fail
      go_region_law (first
        | (refine step_append_fresh _ rfl (.tmp 18) (.tmp 23) 25 rfl 5 i2 (.int .u8 0) 1 1 Try.underlying25 hi2 hz0 hz1 hz2 rfl none 0 [] (by simp [Act.eval]) rfl (.inl rfl) ⟨bd, od, none⟩ 128 dc (bytesL 128 (a.f i)) (by simp [Act.eval]) (by rw [bytesL_len]) (HSrc.out _ (by go_grown)) (by omega) (by unfold maxLen; omega) (by omega) ?_; intro xg xc w1 hgg hx0 hb0; have hb : Below wr.heap.size wr w1 := (show Below wr.heap.size wr _ by go_grown).trans (hb0.mono (by simp)); have hx : w1.ownsRow wr.heap.size 5 1 (.slice (some ⟨xg, 0, none⟩) 128 xc) 128 (bytesL 128 (a.f i)) := by simpa using hx0
           obtain ⟨kk, ff, zz⟩ := kp hb ob hobz; clear hgg hx0 hb0)
        | (refine step_append_two _ rfl (.tmp 12) (.tmp 26) 24 rfl W.heap.size 47 i1 (.agg #[.int .i64 0, .slice none 0 0]) 2 32 Try.underlying24 hi1 hy0 hy1 hy2 rfl (by decide) (.slice la i lc) i (putL i a.bl dv) (by simp [Act.eval]) ((own_keep hb HR.out.own).alloc _) ⟨w1.heap.size, 0, none⟩ 1 1 [.int .i64 (a.bl i), .slice (some ⟨xg, 0, none⟩) 128 xc] (by simp [Act.eval]) rfl (World.news_of_block (cs := #[.int .i64 (a.bl i), .slice (some ⟨xg, 0, none⟩) 128 xc]) (t := 47) (fr := (0, 0)) (heap_alloc_new w1 _)) (by intro u hu; simp only [List.mem_cons, List.not_mem_nil, or_false] at hu; rcases hu with rfl | rfl <;> rfl) (by omega) (by unfold maxLen; omega) (by omega) (by have := HR.out.bel.size; have := hb.size; rw [World.size_alloc]; omega) ?_; intro v' w' hown htwo))
      all_goals (
        have hnx := HR.out.next hb hx (by rw [World.size_alloc]; omega) hown htwo
        have HNx := Lib.hid hnx
        obtain ⟨lb, lc2, rfl, -⟩ := own_formN hown
        clear hown htwo hb hx hnx kk ff zz
        go_wp2
        go_roundw)
      all_goals first
        | exact ⟨i + 1, _, by omega, by go_num, HNx.out⟩
        | (simp [intOf]; omega)
    · obtain rfl : i = N := by omega
      go_wp2
      go_ret
      have hr := HR.out
      rw [← HNN.out] at hr ⊢
      exact ⟨_, _, rfl, hr.at HT.out, hr.bel⟩
end Go.Proofs.Ytgkkmdebpekckaa
