/- LentPuts: a list of puts that is lent. Conditions: as stated at each. -/
import Derived.Test.YtgkkmdebpekckaaNa
namespace Go.Proofs.Ytgkkmdebpekckaa
open Go.RowKit
/-- A row that is lent: its bytes, the two marks behind. -/
def LRow (w : World) (B : Nat) (v : Value) (n : Nat) (f : Nat → Nat) : Prop :=
  ∃ g cap, v = .slice (some ⟨g, 0, none⟩) n cap ∧ w.ownsRow B 5 1 (.slice (some ⟨g, 0, none⟩) (n + 2) cap) (n + 2) (bytesL n f ++ [.int .u8 91, .int .u8 92])
theorem LRow.block {w : World} {B : Nat} {v : Value} {n : Nat} {f : Nat → Nat} (h : LRow w B v n f) {k : Nat} (hk : v.ownBlock = some k) : B ≤ k ∧ k < w.heap.size := by
  obtain ⟨g, cap, rfl, ho⟩ := h
  exact ho.lt k hk
theorem LRow.out {S : Nat → Prop} {w w1 : World} {B : Nat} {v : Value} {n : Nat} {f : Nat → Nat} (h : LRow w B v n f) (ho : Out S w w1) (hS : ∀ k, v.ownBlock = some k → ¬ S k) : LRow w1 B v n f := by
  obtain ⟨g, cap, rfl, h⟩ := h
  exact ⟨g, cap, rfl, ho.own h fun k hk => hS k hk⟩
theorem LRow.keep {w w1 : World} {B : Nat} {v : Value} {n : Nat} {f : Nat → Nat} (h : LRow w B v n f) (hb : Below w.heap.size w w1) : LRow w1 B v n f := h.out (S := fun _ => False) (Out.of_below hb) fun _ _ => id
theorem LRow.base {w : World} {B B' : Nat} {v : Value} {n : Nat} {f : Nat → Nat} (h : LRow w B v n f) (hB : B' ≤ B) : LRow w B' v n f := by
  obtain ⟨g, cap, rfl, h⟩ := h
  exact ⟨g, cap, rfl, own_base_le h hB⟩
theorem LRow.two {s : Nat} {W w' : World} {lv lv' : Value} {N q : Nat} (ht : Two s W lv N q lv' w') {B : Nat} {v : Value} {n : Nat} {f : Nat → Nat} (h : LRow W B v n f) (hne : ∀ k, v.ownBlock = some k → lv.ownBlock ≠ some k) : LRow w' B v n f := by
  obtain ⟨g, cap, rfl, h⟩ := h
  exact ⟨g, cap, rfl, ht.keep h hne⟩
def LentX (n : Nat) (f : Nat → Nat) (w0 : World) (e : Ending) (w' : World) : Prop := ∃ g c, e = .returned (.slice (some ⟨g, 0, none⟩) n c) ∧ LRow w' w0.heap.size (.slice (some ⟨g, 0, none⟩) n c) n f ∧ Below w0.heap.size w0 w'
theorem lent_x {w0 w : World} {v : Value} {n : Nat} {f : Nat → Nat} (hn : n ≤ 140737488351232) (h : Bts w0 v n f) (hb : Below w0.heap.size w0 w) : Calls Try.prog 35 #[v] w (LentX n f w0) := by
  replace h := Bts.keep h hb
  obtain ⟨a, cap, rfl, h⟩ := h
  have fin : ∀ e w', LentP n f w e w' → LentX n f w0 e w' := fun e w' ⟨g, c, he, ho, hb2⟩ => ⟨g, c, he, ⟨g, c, rfl, own_base_le ho hb.size⟩, hb.trans (hb2.mono hb.size)⟩
  by_cases h0 : n = 0
  · subst h0
    exact (lent_nil a cap f w).mono fin
  · rcases h with h | ⟨b, o, rfl, hc⟩
    · exact absurd h h0
    · exact (lent_some b o n cap f w (by omega) hn hc).mono fin
theorem putL_snoc (N : Nat) (bl : Nat → Int) (dv : Nat → Value) (x : Value) : putL N bl dv ++ [.int .i64 (bl N), x] = putL (N + 1) bl (putF N dv x) := by
  apply List.ext_getElem?
  intro k
  by_cases h1 : k < N * 2
  · rw [List.getElem?_append_left (by rw [putL_len]; exact h1), putL_get _ _ _ _ h1, putL_get _ _ _ _ (by omega)]
    unfold putC
    by_cases h2 : k % 2 = 0
    · rw [if_pos h2, if_pos h2]
    · rw [if_neg h2, if_neg h2, putF_lt _ _ (by omega)]
  · by_cases h2 : k < (N + 1) * 2
    · rw [List.getElem?_append_right (by rw [putL_len]; omega), putL_get _ _ _ _ h2, putL_len]
      obtain rfl | rfl : k = N * 2 ∨ k = N * 2 + 1 := by omega
      · rw [Nat.sub_self, putC_bl]; rfl
      · rw [show N * 2 + 1 - N * 2 = 1 by omega, putC_dv, putF_at]; rfl
    · rw [List.getElem?_append_right (by rw [putL_len]; omega), List.getElem?_eq_none (by simp [putL_len]; omega), List.getElem?_eq_none (by rw [putL_len]; omega)]
def mark77 : List Value := [.int .i64 (-77), .slice none 0 0, .int .i64 (-77), .slice none 0 0]
/-- A list of puts that is lent, all of it in the blocks from B to E. -/
structure LPs (w : World) (B E : Nat) (g cap : Nat) (a : Ar) (dv : Nat → Value) : Prop where
  own : w.ownsRow B 47 2 (.slice (some ⟨g, 0, none⟩) (a.N + 2) cap) (a.N + 2) (putL a.N a.bl dv ++ mark77)
  row : ∀ i, i < a.N → LRow w B (dv i) (a.len i) (a.f i)
  lt : ∀ i, i < a.N → ∀ k, (dv i).ownBlock = some k → k < E ∧ k ≠ g
  gE : g < E
theorem LPs.out {S : Nat → Prop} {w w1 : World} {B E g cap : Nat} {a : Ar} {dv : Nat → Value} (h : LPs w B E g cap a dv) (ho : Out S w w1) (hS : ∀ k, B ≤ k → k < E → ¬ S k) : LPs w1 B E g cap a dv :=
  ⟨ho.own h.own fun k hk => (by cases hk; exact hS _ (h.own.lt _ rfl).1 h.gE), fun i hi => (h.row i hi).out ho fun k hk => hS k ((h.row i hi).block hk).1 (h.lt i hi k hk).1, h.lt, h.gE⟩
theorem make_puts (w : World) (N : Nat) (h : N ≤ 2000000) : ∃ cur, (Instr.makeSlice 24 (.int .i64 0) (.int .i64 (N : Int))).run Try.prog w = .ok (.slice (some ⟨w.heap.size, 0, none⟩) 0 N) (w.alloc (.cells cur 47)) ∧ cur.size = N * 2 := by
  obtain ⟨i0, hi, hz0, hz1, hz2⟩ := info_parts Try.info47
  have := run_make (P := Try.prog) w 24 47 i0 (.agg #[.int .i64 0, .slice none 0 0]) Try.underlying24 hi hz0 .i64 .i64 0 N (by omega) (by omega) (by rw [hz2]; omega) (by omega)
  rw [hz1, Int.toNat_natCast] at this
  exact ⟨_, this, by simp [madeCells]⟩
/-- Behind i rounds. -/
structure LPr (W wr : World) (s3 : Value) (i : Nat) (a : Ar) (dv : Nat → Value) : Prop where
  own : wr.ownsRow W.heap.size 47 2 s3 i (putL i a.bl dv)
  row : ∀ r, r < i → LRow wr W.heap.size (dv r) (a.len r) (a.f r)
  ne : ∀ r, r < i → ∀ k, (dv r).ownBlock = some k → s3.ownBlock ≠ some k
  bel : Below W.heap.size W wr
theorem LPr.next {W wr w1 w' : World} {s3 v' x : Value} {i : Nat} {a : Ar} {dv : Nat → Value} {o : Obj} {s : Nat} (h : LPr W wr s3 i a dv) (hb : Below wr.heap.size wr w1) (hx : LRow w1 wr.heap.size x (a.len i) (a.f i)) (hs : w1.heap.size ≤ s)
    (hl : w'.ownsRow W.heap.size 47 2 v' (i + 1) (putL i a.bl dv ++ [.int .i64 (a.bl i), x])) (ht : Two s (w1.alloc o) s3 i 1 v' w') : LPr W w' v' (i + 1) a (putF i dv x) := by
  have hsz := h.bel.size
  have hsz1 := hb.size
  have hb1 : Below W.heap.size W w1 := h.bel.trans (hb.mono hsz)
  have hbl : ∀ k, v'.ownBlock = some k → s3.ownBlock = some k ∨ k = s := fun k hk => ht.block hk
  have hs3 : ∀ k, s3.ownBlock = some k → W.heap.size ≤ k ∧ k < wr.heap.size := h.own.lt
  refine ⟨by rw [← putL_snoc]; exact hl, fun r hr => ?_, fun r hr k hk e => ?_, ht.below (hb1.alloc hb1.size o) (by rw [World.size_alloc]; omega) fun k hk => (hs3 k hk).1⟩
  · by_cases e : r = i
    · subst e
      rw [putF_at]
      refine LRow.two ht ((hx.base hsz).out ((Out.refl (fun _ => False) _).alloc _) fun _ _ => id) fun k hk e => ?_
      have := (hx.block hk).1
      have := (hs3 k e).2
      omega
    · rw [putF_lt _ _ (by omega)]
      exact LRow.two ht (((h.row r (by omega)).keep hb).out ((Out.refl (fun _ => False) _).alloc _) fun _ _ => id) fun k hk => h.ne r (by omega) k hk
  · have hlt : k < w1.heap.size ∧ s3.ownBlock ≠ some k := by
      by_cases e2 : r = i
      · subst e2
        rw [putF_at] at hk
        have h1 := hx.block hk
        exact ⟨h1.2, fun e3 => by have := (hs3 k e3).2; omega⟩
      · rw [putF_lt _ _ (by omega)] at hk
        have h1 := (h.row r (by omega)).block hk
        exact ⟨by omega, h.ne r (by omega) k hk⟩
    rcases hbl k e with h1 | h1
    · exact hlt.2 h1
    · omega
def LentPP (a : Ar) (W : World) (e : Ending) (w' : World) : Prop :=
  ∃ g cap dv, e = .returned (.slice (some ⟨g, 0, none⟩) a.N cap) ∧ LPs w' W.heap.size w'.heap.size g cap a dv ∧ Below W.heap.size W w'
set_option maxRecDepth 100000 in
set_option maxHeartbeats 1000000 in
theorem lent_puts (X : Nat → Prop) (v : Value) (a : Ar) (W : World) (h : ArX X W v a) (hN : a.N ≤ 1000000) (hl : ∀ i, i < a.N → a.len i ≤ 140737488351232) : Calls Try.prog 29 #[v] W (LentPP a W) := by
  obtain ⟨dv0, ⟨aa, ac, rfl, hc⟩, hd⟩ := h
  have HC := Lib.hid hc
  have HD := Lib.hid hd
  have HLn := Lib.hid hl
  obtain ⟨i1, hi1, hy0, hy1, hy2⟩ := info_parts Try.info47
  obtain ⟨N, hNN⟩ : ∃ N, a.N = N := ⟨_, rfl⟩
  rw [hNN] at HC HD HLn hN ⊢
  obtain ⟨cur, hmk0, hcs⟩ := make_puts W (N + 2) (by omega)
  have hmk : (Instr.makeSlice 24 (.int .i64 0) (.int .i64 ((N : Int) + 2))).run Try.prog W = .ok (.slice (some ⟨W.heap.size, 0, none⟩) 0 (N + 2)) (W.alloc (.cells cur 47)) := hmk0
  have HM := Lib.hid (World.ownsRow_made (base := W.heap.size) (e := 47) (size := 2) W cur (N + 2) (Nat.le_refl _) (by unfold maxLen; omega) hcs)
  have hwn : IntKind.i64.wrap ((N : Int) + 2) = ((N + 2 : Nat) : Int) := by go_arith
  have HNN := Lib.hid hNN
  clear hc hd hl hNN hmk0 hcs
  go_enter Try.func29, Try.ntmps29
  go_wp2_with fail
  go_loopw [3, 4] (fun s3 s4 wr => ∃ (i : Nat) (dv : Nat → Value), i ≤ N ∧ s4 = .int .i64 i ∧ Hid (LPr W wr s3 i a dv)) (fun _ s4 _ => N - (intOf s4).toNat)
  case atStart => exact ⟨0, fun _ => .slice none 0 0, Nat.zero_le _, rfl, HM.out, fun _ h => absurd h (Nat.not_lt_zero _), fun _ h => absurd h (Nat.not_lt_zero _), bal (Below.refl _ _) _⟩
  case round =>
    obtain ⟨i, dv, hi, rfl, HR⟩ := hrel
    obtain ⟨la, lc, e3, -⟩ := own_formN HR.out.own
    subst e3
    by_cases hlt : i < N
    · rcases HC.out with h0 | ⟨ob, oo, rfl, -, hc⟩
      · omega
      obtain ⟨p1, p2⟩ := hc i hlt
      obtain ⟨da, dc, hdv, hdd⟩ := HD.out i hlt
      have hbt : Bts wr (.slice da (a.len i) dc) (a.len i) (a.f i) := by
        have h1 : Bts W (dv0 i) (a.len i) (a.f i) := (HD.out i hlt).bts
        rw [hdv] at h1
        exact h1.keep HR.out.bel
      rw [hdv] at p2
      have c1 : wr.cell? ⟨ob, oo + i * 2, none⟩ = some (.int .i64 (a.bl i)) := by rw [HR.out.bel.cell (p := ⟨ob, oo + i * 2, none⟩) (World.block_lt_of_cell? W _ p1)]; exact p1
      have c2 : wr.cell? ⟨ob, oo + i * 2 + 1, none⟩ = some (.slice da (a.len i) dc) := by rw [HR.out.bel.cell (p := ⟨ob, oo + i * 2 + 1, none⟩) (World.block_lt_of_cell? W _ p2)]; exact p2
      have hobz : ob < wr.heap.size := World.block_lt_of_cell? wr _ c1
      have HX := Lib.hid (fun W' (hb : Below wr.heap.size wr W') => lent_x (HLn.out i hlt) hbt hb)
      have i1' : (0 : Int) ≤ (i : Int) := by omega
      have i2' : (i : Int) < (N : Int) := by omega
      clear hc p1 p2 hdv hdd hbt
      go_wp2_with fail
      go_region_law (first
        | (refine step_append_two _ rfl (.tmp 16) (.tmp 29) 24 rfl W.heap.size 47 i1 (.agg #[.int .i64 0, .slice none 0 0]) 2 32 Try.underlying24 hi1 hy0 hy1 hy2 rfl (by decide) (.slice la i lc) i (putL i a.bl dv) (by simp [Act.eval]) ((own_keep hb HR.out.own).alloc _) ⟨w1.heap.size, 0, none⟩ 1 1 [.int .i64 (a.bl i), .slice (some ⟨xg, 0, none⟩) (a.len i) xc] (by simp [Act.eval]) rfl (World.news_of_block (cs := #[.int .i64 (a.bl i), .slice (some ⟨xg, 0, none⟩) (a.len i) xc]) (t := 47) (fr := (0, 0)) (heap_alloc_new w1 _)) (by intro u hu; simp only [List.mem_cons, List.not_mem_nil, or_false] at hu; rcases hu with rfl | rfl <;> rfl) (by omega) (by unfold maxLen; omega) (by omega) (by have := HR.out.bel.size; have := hb.size; rw [World.size_alloc]; omega) ?_; intro v' w' hown htwo)
        | (go_simp; go_at_call 35; refine (HX.out _ (by go_grown)).mono ?_; rintro e w1 ⟨xg, xc, rfl, hx, hb⟩; obtain ⟨kk, ff, zz⟩ := kp hb ob hobz))
      all_goals (
        have hnx := HR.out.next hb hx (by rw [World.size_alloc]; omega) hown htwo
        have HNx := Lib.hid hnx
        obtain ⟨lb, lc2, rfl, -⟩ := own_formN hown
        clear hown htwo hb hx hnx kk ff zz
        go_wp2
        go_roundw)
      all_goals first
        | exact ⟨i + 1, _, by omega, by go_num, HNx.out⟩
        | (simp [intOf]; omega)
    · obtain rfl : i = N := by omega
      have hsz := HR.out.bel.size
      go_wp2_with (first | (at_builtin; refine wpList_append_two _ rfl _ _ 24 rfl W.heap.size 47 i1 (.agg #[.int .i64 0, .slice none 0 0]) 2 32 Try.underlying24 hi1 hy0 hy1 hy2 rfl (by decide) (.slice la i lc) i (putL i a.bl dv) rfl (HR.out.own.alloc _) ⟨wr.heap.size, 0, none⟩ 2 2 mark77 rfl rfl (World.news_of_block (cs := #[.int .i64 (-77), .slice none 0 0, .int .i64 (-77), .slice none 0 0]) (t := 47) (fr := (0, 0)) (heap_alloc_new wr _)) (by intro u hu; simp only [mark77, List.mem_cons, List.not_mem_nil, or_false] at hu; rcases hu with rfl | rfl | rfl | rfl <;> rfl) (by omega) (by unfold maxLen; omega) (by omega) (by rw [World.size_alloc]; omega) ?_))
      intro v' w' hown htwo
      have hbel : Below W.heap.size W w' := htwo.below (B := W.heap.size) (HR.out.bel.alloc hsz _) (by simp; omega) fun k hk => (HR.out.own.lt k hk).1
      obtain ⟨ga, gc, rfl, hgf⟩ := own_formN hown
      obtain ⟨gg, rfl⟩ := hgf.resolve_left (by omega)
      have hcap : i + 2 ≤ gc := by
        rcases hown.2 with ⟨h, _⟩ | ⟨_, _, _, h, _, _, h2, _⟩
        · cases h
        · cases h; exact h2
      have hbl : ∀ k, (Value.slice (some ⟨gg, 0, none⟩) (i + 2) gc).ownBlock = some k → (Value.slice la i lc).ownBlock = some k ∨ k = wr.heap.size + 1 := fun k hk => htwo.block hk
      have hrow : ∀ r, r < i → LRow w' W.heap.size (dv r) (a.len r) (a.f r) := fun r hr => LRow.two htwo ((HR.out.row r hr).out ((Out.refl (fun _ => False) _).alloc _) fun _ _ => id) fun k hk => HR.out.ne r hr k hk
      have hlt2 : ∀ r, r < i → ∀ k, (dv r).ownBlock = some k → k < w'.heap.size ∧ k ≠ gg := fun r hr k hk => by
        have h1 := ((HR.out.row r hr).block hk).2
        refine ⟨((hrow r hr).block hk).2, fun e => ?_⟩
        subst e
        rcases hbl k rfl with h2 | h2
        · exact HR.out.ne r hr k hk h2
        · omega
      have HLP : Hid (LPs w' W.heap.size w'.heap.size gg gc a dv) := by
        refine ⟨?_, fun r hr => hrow r (by rw [← HNN.out]; exact hr), fun r hr => hlt2 r (by rw [← HNN.out]; exact hr), (hown.lt gg rfl).2⟩
        rw [HNN.out]
        exact hown
      have HBel := Lib.hid hbel
      have hc2 : i ≤ gc := by omega
      clear hown htwo hgf hbl hrow hlt2 hbel
      go_wp2
      go_ret
      exact ⟨gg, gc, dv, by rw [HNN.out]; rfl, HLP.out, HBel.out⟩
end Go.Proofs.Ytgkkmdebpekckaa
