/- How a model lies, whole; New, Fate, Read. Conditions: as stated at each. -/
import Derived.Test.YtgkkmdebpekckaaMk2
import Derived.StillTailTactics
import Derived.BigRegion
namespace Go.Proofs.Ytgkkmdebpekckaa
open Go.RowKit Go.Shelf
/-- The blocks that a model writes into. -/
def Mx (m gS gN : Nat) (lv : Value) (k : Nat) : Prop := k = m ∨ k = gS ∨ k = gN ∨ lv.ownBlock = some k
/-- A model at block m; Z names all blocks that are its own. -/
structure Mdl (Z : Nat → Prop) (w : World) (m n : Nat) (s : St) (gS cS gN cN : Nat) (lv wv : Value) (bv : Nat → Value) : Prop where
  blk : w.heap[m]? = some (.cells #[.slice (some ⟨gS, 0, none⟩) (128 * n) cS, .slice (some ⟨gN, 0, none⟩) (128 * n) cN, .int .i64 s.many, lv, wv] 68 (0, 0))
  sure : w.ownsRow 0 5 1 (.slice (some ⟨gS, 0, none⟩) (128 * n) cS) (128 * n) (bytesL (128 * n) s.sure)
  now : w.ownsRow 0 5 1 (.slice (some ⟨gN, 0, none⟩) (128 * n) cN) (128 * n) (bytesL (128 * n) s.now)
  loose : w.ownsRow 0 24 1 lv s.L ((List.range s.L).map bv)
  bat : ∀ k, k < s.L → BatX (fun k => ¬ Z k ∨ Mx m gS gN lv k) w (bv k) (s.bt k)
  way : BatX (fun k => ¬ Z k ∨ Mx m gS gN lv k) w wv s.way
  zx : ∀ k, Mx m gS gN lv k → Z k
  zlt : ∀ k, Z k → k < w.heap.size
  d1 : m ≠ gS
  d2 : m ≠ gN
  d3 : gS ≠ gN
  d4 : ∀ k, lv.ownBlock = some k → k ≠ m ∧ k ≠ gS ∧ k ≠ gN
def MdlAt (Z : Nat → Prop) (w : World) (m n : Nat) (s : St) : Prop := ∃ gS cS gN cN lv wv bv, Mdl Z w m n s gS cS gN cN lv wv bv
theorem Mdl.out {Z S : Nat → Prop} {w w1 : World} {m n : Nat} {s : St} {gS cS gN cN : Nat} {lv wv : Value} {bv : Nat → Value} (h : Mdl Z w m n s gS cS gN cN lv wv bv) (ho : Out S w w1) (hS : ∀ k, k < w.heap.size → S k → ¬ Z k) : Mdl Z w1 m n s gS cS gN cN lv wv bv := by
  have hx : ∀ k, Mx m gS gN lv k → ¬ S k := fun k hk hs => hS k (h.zlt k (h.zx k hk)) hs (h.zx k hk)
  exact ⟨ho.heap h.blk (hx _ (.inl rfl)), ho.own h.sure (fun k hk => hx k (by cases hk; exact .inr (.inl rfl))), ho.own h.now (fun k hk => hx k (by cases hk; exact .inr (.inr (.inl rfl)))),
    ho.own h.loose (fun k hk => hx k (.inr (.inr (.inr hk)))), fun k hk => (h.bat k hk).out ho (fun b hb hs => .inl (hS b hb hs)), h.way.out ho (fun b hb hs => .inl (hS b hb hs)), h.zx, fun k hk => Nat.lt_of_lt_of_le (h.zlt k hk) ho.size, h.d1, h.d2, h.d3, h.d4⟩
theorem MdlAt.out {Z S : Nat → Prop} {w w1 : World} {m n : Nat} {s : St} (h : MdlAt Z w m n s) (ho : Out S w w1) (hS : ∀ k, k < w.heap.size → S k → ¬ Z k) : MdlAt Z w1 m n s := by
  obtain ⟨_, _, _, _, _, _, _, h⟩ := h
  exact ⟨_, _, _, _, _, _, _, h.out ho hS⟩
theorem MdlAt.keep {Z : Nat → Prop} {w w1 : World} {m n : Nat} {s : St} (h : MdlAt Z w m n s) (hb : Below w.heap.size w w1) : MdlAt Z w1 m n s :=
  h.out (Out.of_below (S := fun _ => False) hb) (fun _ _ h => h.elim)
theorem MdlAt.lt {Z : Nat → Prop} {w : World} {m n : Nat} {s : St} (h : MdlAt Z w m n s) : ∀ k, Z k → k < w.heap.size := by
  obtain ⟨_, _, _, _, _, _, _, h⟩ := h
  exact h.zlt
theorem MdlAt.mz {Z : Nat → Prop} {w : World} {m n : Nat} {s : St} (h : MdlAt Z w m n s) : Z m := by
  obtain ⟨_, _, _, _, _, _, _, h⟩ := h
  exact h.zx _ (.inl rfl)
theorem own_btsX {X : Nat → Prop} {w : World} {B n : Nat} {v : Value} {f : Nat → Nat} (h : w.ownsRow B 5 1 v n (bytesL n f)) (hX : ∀ k, v.ownBlock = some k → ¬ X k) : BtsX X w v n f := by
  obtain ⟨a, cap, rfl, hf⟩ := own_formN h
  refine ⟨_, _, rfl, ?_⟩
  rcases hf with h0 | ⟨g, rfl⟩
  · exact .inl h0
  · exact .inr ⟨g, 0, rfl, hX g rfl, fun k hk => by
      have := h.cells (g := g) rfl k _ (bytesL_get n f k hk)
      rwa [addk] at this⟩
/-- A model is read as Could reads it. -/
theorem Mdl.view {Z : Nat → Prop} {w : World} {m n : Nat} {s : St} {gS cS gN cN : Nat} {lv wv : Value} {bv : Nat → Value} (h : Mdl Z w m n s gS cS gN cN lv wv bv) :
    View (fun _ => False) w m n s gS cS (.slice (some ⟨gN, 0, none⟩) (128 * n) cN) lv wv bv := by
  refine ⟨h.blk, id, own_btsX h.sure (fun _ _ => id), own_btsX h.now (fun _ _ => id), ?_, fun k hk => (h.bat k hk).mono (fun _ _ e => e.elim), h.way.mono (fun _ _ e => e.elim)⟩
  obtain ⟨a, cap, rfl, hl, hf⟩ := own_form h.loose
  refine ⟨_, _, rfl, hl, hf.imp id ?_⟩
  rintro ⟨g, rfl⟩
  refine ⟨g, 0, rfl, id, fun k hk => ?_⟩
  have := h.loose.cells (g := g) rfl k (bv k) (by simp [hk])
  rwa [addk] at this
/-- A state that fits n blocks. -/
structure St.ok (n : Nat) (s : St) : Prop where
  sure : Lt (128 * n) s.sure
  now : Lt (128 * n) s.now
  bat : ∀ k, k < s.L → (s.bt k).ok n
  way : s.way.ok n
  nowE : ∀ k, k < 128 * n → s.now k = fate s.sure s.bt s.L k
def noBt : Bt := ⟨0, fun _ => 0, fun _ _ => 0⟩
theorem noBt_ok (n : Nat) : noBt.ok n := ⟨Nat.zero_le _, fun _ h => absurd h (Nat.not_lt_zero _), fun _ h => absurd h (Nat.not_lt_zero _)⟩
theorem noBt_at (X : Nat → Prop) (w : World) : BatX X w (.slice none 0 0) noBt := ⟨fun _ => .slice none 0 0, ⟨none, 0, rfl, .inl rfl⟩, fun _ h => absurd h (Nat.not_lt_zero _)⟩
/-- The first state, and the one behind a crash. -/
def St.start (x : Nat → Nat) : St := ⟨0, 0, fun _ => noBt, noBt, x, x⟩
theorem St.start_ok {n : Nat} {x : Nat → Nat} (h : Lt (128 * n) x) : (St.start x).ok n :=
  ⟨h, h, fun _ hk => absurd hk (Nat.not_lt_zero _), noBt_ok n, fun _ _ => rfl⟩
/-- What could be found, told over a whole state. -/
theorem could_at (Z : Nat → Prop) (m n : Nat) (s : St) (aa : Option Addr) (nA ca : Nat) (fa : Nat → Nat) (w : World) (h : MdlAt Z w m n s) (hs : s.ok n) (hn0 : 0 < n) (hn : n ≤ 61440) (hL : s.L ≤ 1000000)
    (ha : Bts w (.slice aa nA ca) nA fa) (hf : Lt nA fa) (b : Bool) (hb : b = true ↔ s.could n nA fa) :
    Calls Try.prog 13 #[.pointer (some ⟨m, 0, none⟩), .slice aa nA ca] w (CouldP b w) := by
  obtain ⟨_, _, _, _, _, _, _, h⟩ := h
  exact could_any m n s _ _ _ _ _ _ aa nA ca fa w h.view hs.sure hs.bat hs.way hn0 hn hL ha hf b hb
def FateP (s : St) (w : World) (e : Ending) (w' : World) : Prop := e = .returned (.agg #[.int .i64 s.many, .int .i64 ((s.many : Int) + s.L), .bool (decide (0 < s.way.N))]) ∧ Below w.heap.size w w'
def NewP (n : Nat) (w : World) (e : Ending) (w' : World) : Prop :=
  ∃ m Z, e = .returned (.tuple #[.pointer (some ⟨m, 0, none⟩), .int .u16 0]) ∧ MdlAt Z w' m n (St.start fun _ => 0) ∧ (∀ k, Z k → w.heap.size ≤ k) ∧ Below w.heap.size w w'
set_option maxRecDepth 100000 in
set_option maxHeartbeats 400000 in
theorem new_bad (n : Int) (w : World) (h : n < 1 ∨ 61440 < n) : Calls Try.prog 8 #[.int .i64 n] w fun e w' => e = .returned (.tuple #[.pointer none, .int .u16 1]) ∧ w = w' := by
  rcases h with h | h
  · go_enter Try.func8, Try.ntmps8
    go_wp2
    go_ret2
    exact ⟨rfl, rfl⟩
  · have h' : ¬ n < 1 := by omega
    go_enter Try.func8, Try.ntmps8
    go_wp2
    go_ret2
    exact ⟨rfl, rfl⟩
theorem below_drew {B : Nat} {w W : World} (h : Below B w W) : Below B w W.drew := h.trans ⟨rfl, rfl, rfl, Nat.le_refl _, fun _ _ => rfl⟩
theorem make_66 (w : World) (N : Nat) (h : N ≤ 281474976710656) : (Instr.makeSlice 66 (.int .i64 (N : Int)) (.int .i64 (N : Int))).run Try.prog w = .ok (.slice (some ⟨w.heap.size, 0, none⟩) N N) (w.alloc (.cells (arrB N (fun _ => 0)) 5)) := by
  obtain ⟨i0, hi, hz0, hz1, hz2⟩ := info_parts Try.info5
  have := run_make (P := Try.prog) w 66 5 i0 (.int .u8 0) Try.underlying66 hi hz0 .i64 .i64 N N (by omega) (by omega) (by rw [hz2]; omega) (by omega)
  rw [this, hz1, Nat.mul_one, ← made_zero N]
  simp
theorem own_arrB {w : World} {g L B : Nat} {f : Nat → Nat} (h : w.heap[g]? = some (.cells (arrB L f) 5 (0, 0))) (hB : B ≤ g) (hL : L ≤ maxLen) : w.ownsRow B 5 1 (.slice (some ⟨g, 0, none⟩) L L) L (bytesL L f) := by
  refine ⟨by rw [bytesL_len, Nat.mul_one], .inr ⟨g, L, _, rfl, hB, h, Nat.le_refl _, hL, by rw [arrB_size, Nat.mul_one], ?_⟩⟩
  rw [Nat.mul_one, List.take_of_length_le (by simp [arrB])]
  simp [arrB, bytesL]
theorem hn3 (w : World) (A B C : Obj) : (((w.alloc A).alloc B).alloc C).heap[w.heap.size + 2]? = some C := by
  have := heap_alloc_new ((w.alloc A).alloc B) C
  rwa [World.size_alloc, World.size_alloc] at this
/-- A fresh model: two rows and the struct behind them. -/
theorem mdl_fresh {w W : World} {n gS gN cS cN : Nat} {x : Nat → Nat} {m : Nat} (hS : W.ownsRow w.heap.size 5 1 (.slice (some ⟨gS, 0, none⟩) (128 * n) cS) (128 * n) (bytesL (128 * n) x)) (hN : W.ownsRow w.heap.size 5 1 (.slice (some ⟨gN, 0, none⟩) (128 * n) cN) (128 * n) (bytesL (128 * n) x))
    (hm : W.heap[m]? = some (.cells #[.slice (some ⟨gS, 0, none⟩) (128 * n) cS, .slice (some ⟨gN, 0, none⟩) (128 * n) cN, .int .i64 0, .slice none 0 0, .slice none 0 0] 68 (0, 0))) (d1 : m ≠ gS) (d2 : m ≠ gN) (d3 : gS ≠ gN) :
    MdlAt (fun k => k = m ∨ k = gS ∨ k = gN) W m n (St.start x) := by
  refine ⟨gS, cS, gN, cN, .slice none 0 0, .slice none 0 0, fun _ => .slice none 0 0, hm, own_base_le hS (Nat.zero_le _), own_base_le hN (Nat.zero_le _), World.ownsRow_nil _ _ _ _, fun _ h => absurd h (Nat.not_lt_zero _), noBt_at _ _, fun k hk => ?_, fun k hk => ?_, d1, d2, d3, fun k hk => by cases hk⟩
  · rcases hk with hk | hk | hk | hk
    · exact .inl hk
    · exact .inr (.inl hk)
    · exact .inr (.inr hk)
    · cases hk
  · rcases hk with rfl | rfl | rfl
    · exact (Array.getElem?_eq_some_iff.1 hm).1
    · exact (hS.lt _ rfl).2
    · exact (hN.lt _ rfl).2
set_option maxRecDepth 100000 in
set_option maxHeartbeats 400000 in
theorem new_ok (n : Nat) (w : World) (h0 : 1 ≤ n) (h : n ≤ 61440) : Calls Try.prog 8 #[.int .i64 n] w (NewP n w) := by
  have hmk := fun w => make_66 w (128 * n) (by omega)
  have h1 : ¬ (n : Int) < 1 := by omega
  have h2 : ¬ (61440 : Int) < (n : Int) := by omega
  have hw : IntKind.i64.wrap (128 * (n : Int)) = ((128 * n : Nat) : Int) := by go_arith
  have hL : 128 * n ≤ maxLen := by unfold maxLen; omega
  obtain ⟨L, hLn⟩ : ∃ L, 128 * n = L := ⟨_, rfl⟩
  rw [hLn] at hmk hw hL
  have HL := Lib.hid hLn
  clear hLn h0 h
  go_enter Try.func8, Try.ntmps8
  go_wp2
  all_goals (go_region)
  all_goals go_wp2
  · go_ret2
    refine ⟨w.heap.size + 1 + 1, _, rfl, mdl_fresh (w := w) (gS := w.heap.size) (gN := w.heap.size + 1) (cS := L) (cN := L) ?_ ?_ ?_ (by omega) (by omega) (by omega), ?_, below_drew (bal (bal (bal (Below.refl _ _) _) _) _)⟩
    · rw [HL.out]; exact own_arrB ((Below.heap_alloc _ _ _ (by simp; omega)).trans (hn1 _ _ _)) (Nat.le_refl _) hL
    · rw [HL.out]; exact own_arrB ((Below.heap_alloc _ _ _ (by simp)).trans (hn2 _ _ _)) (Nat.le_succ _) hL
    · rw [HL.out]; exact hn3 _ _ _ _
    · rintro k (rfl | rfl | rfl) <;> omega
  · go_ret2
    refine ⟨w.heap.size + 1 + 1, _, rfl, mdl_fresh (w := w) (gS := w.heap.size + 1) (gN := w.heap.size) (cS := L) (cN := L) ?_ ?_ ?_ (by omega) (by omega) (by omega), ?_, below_drew (bal (bal (bal (Below.refl _ _) _) _) _)⟩
    · rw [HL.out]; exact own_arrB ((Below.heap_alloc _ _ _ (by simp)).trans (hn2 _ _ _)) (Nat.le_succ _) hL
    · rw [HL.out]; exact own_arrB ((Below.heap_alloc _ _ _ (by simp; omega)).trans (hn1 _ _ _)) (Nat.le_refl _) hL
    · rw [HL.out]; exact hn3 _ _ _ _
    · rintro k (rfl | rfl | rfl) <;> omega
set_option maxRecDepth 100000 in
set_option maxHeartbeats 400000 in
theorem fate_any (Z : Nat → Prop) (m n : Nat) (s : St) (w : World) (h : MdlAt Z w m n s) (hm : s.many + s.L ≤ 1000000000) : Calls Try.prog 15 #[.pointer (some ⟨m, 0, none⟩)] w (FateP s w) := by
  obtain ⟨gS, cS, gN, cN, lv, wv, bv, h⟩ := h
  obtain ⟨la, lc, rfl, -⟩ := own_formN h.loose
  obtain ⟨_, ⟨wa, wc, rfl, -⟩, -⟩ := h.way
  obtain ⟨k1, f1, z1⟩ := cr h.blk
  obtain ⟨M, hM⟩ : ∃ M, s.many = M := ⟨_, rfl⟩
  obtain ⟨L, hL⟩ : ∃ L, s.L = L := ⟨_, rfl⟩
  obtain ⟨N, hN⟩ : ∃ N, s.way.N = N := ⟨_, rfl⟩
  unfold FateP
  rw [hM, hL, hN]
  rw [hM, hL] at hm
  rw [hM, hL, hN] at k1
  clear h hM hL hN
  have i1 : (0 : Int) ≤ (M : Int) := by omega
  have i2 : (0 : Int) ≤ (L : Int) := by omega
  have i3 : (M : Int) + (L : Int) ≤ 1000000000 := by omega
  go_enter Try.func15, Try.ntmps15
  go_wp2
  obtain ⟨W, hW⟩ : ∃ W, w.alloc (.cells #[.int .i64 0, .int .i64 0, .bool false] 43) = W := ⟨_, rfl⟩
  have hm1 : W.heap[m]? = w.heap[m]? := by rw [← hW]; exact Below.heap_alloc _ _ _ z1
  have hr : W.heap[w.heap.size]? = some (.cells #[.int .i64 0, .int .i64 0, .bool false] 43 (0, 0)) := by rw [← hW]; exact heap_alloc_new _ _
  have k1 : ∀ o, W.cell? ⟨m, o, none⟩ = w.cell? ⟨m, o, none⟩ := fun o => World.cell?_of_block hm1
  obtain ⟨r1, fr1, zr1⟩ := cr hr
  have hB : Below w.heap.size w W := by rw [← hW]; exact bal (Below.refl _ _) _
  have HB := Lib.hid hB
  rw [hW]
  have HR := Lib.hid hr
  clear hW hB hr hm1
  go_region
  go_wp2
  have h3 : ((((W.setCell ⟨w.heap.size, 0, none⟩ (.int .i64 M)).setCell ⟨w.heap.size, 1, none⟩ (.int .i64 ((M : Int) + L))).setCell ⟨w.heap.size, 2, none⟩ (.bool (decide (0 < N)))).drew).heap[w.heap.size]? = some (.cells #[.int .i64 M, .int .i64 ((M : Int) + L), .bool (decide (0 < N))] 43 (0, 0)) := by
    have e1 := heap_setCell_same W w.heap.size 0 _ 43 (.int .i64 M) HR.out
    have e2 := heap_setCell_same _ w.heap.size 1 _ 43 (.int .i64 ((M : Int) + L)) e1
    exact heap_setCell_same _ w.heap.size 2 _ 43 (.bool (decide (0 < N))) e2
  have hb3 : Below w.heap.size w ((((W.setCell ⟨w.heap.size, 0, none⟩ (.int .i64 M)).setCell ⟨w.heap.size, 1, none⟩ (.int .i64 ((M : Int) + L))).setCell ⟨w.heap.size, 2, none⟩ (.bool (decide (0 < N)))).drew) :=
    below_drew (((HB.out.setCell (p := ⟨w.heap.size, 0, none⟩) (Nat.le_refl _) _).setCell (p := ⟨w.heap.size, 1, none⟩) (Nat.le_refl _) _).setCell (p := ⟨w.heap.size, 2, none⟩) (Nat.le_refl _) _)
  revert h3 hb3
  generalize ((((W.setCell ⟨w.heap.size, 0, none⟩ (.int .i64 M)).setCell ⟨w.heap.size, 1, none⟩ (.int .i64 ((M : Int) + L))).setCell ⟨w.heap.size, 2, none⟩ (.bool (decide (0 < N)))).drew) = W3
  intro h3 hb3
  obtain ⟨q1, q2, q3⟩ := cr h3
  clear h3
  exact bodyPost_ret (v := .agg #[.int .i64 M, .int .i64 ((M : Int) + L), .bool (decide (0 < N))]) (by simp [results, Try.results15, go_sem, q1]) rfl ⟨rfl, hb3⟩
def ReadP (s : St) (b k : Nat) (w : World) (e : Ending) (w' : World) : Prop :=
  ∃ v, e = .returned (.tuple #[v, .int .u16 0]) ∧ w'.ownsRow w.heap.size 5 1 v (128 * k) (bytesL (128 * k) fun j => s.now (128 * b + j)) ∧ Below w.heap.size w w'
def ReadBad (w : World) (e : Ending) (w' : World) : Prop := e = .returned (.tuple #[.slice none 0 0, .int .u16 3]) ∧ Below w.heap.size w w'
def inRange (n : Nat) (b k : Int) : Prop := 0 ≤ k ∧ 0 ≤ b ∧ b ≤ n ∧ k ≤ n - b
set_option maxRecDepth 100000 in
set_option maxHeartbeats 800000 in
theorem read_ok (Z : Nat → Prop) (m n : Nat) (s : St) (b k : Nat) (w : World) (h : MdlAt Z w m n s) (hn : n ≤ 61440) (hb : b + k ≤ n) : Calls Try.prog 11 #[.pointer (some ⟨m, 0, none⟩), .int .i64 b, .int .i64 k] w (ReadP s b k w) := by
  obtain ⟨gS, cS, gN, cN, lv, wv, bv, h⟩ := h
  obtain ⟨k1, f1, z1⟩ := cr h.blk
  have hcap : 128 * n ≤ cN := by
    rcases h.now.2 with ⟨h, _⟩ | ⟨_, _, _, h, _, _, h2, _⟩
    · cases h
    · cases h; exact h2
  have hcl := Lib.hid (clone21_any gN (128 * b) (128 * k) (cN - 128 * b) (fun j => s.now (128 * b + j)) w (fun q hq => by
    have := h.now.cells (g := gN) rfl (128 * b + q) _ (bytesL_get _ _ _ (by omega))
    rwa [addk, Nat.zero_add] at this) (by omega))
  clear h
  obtain ⟨L, hL⟩ : ∃ L, 128 * n = L := ⟨_, rfl⟩
  obtain ⟨B, hB⟩ : ∃ B, 128 * b = B := ⟨_, rfl⟩
  obtain ⟨E, hE⟩ : ∃ E, 128 * (b + k) = E := ⟨_, rfl⟩
  obtain ⟨K, hK⟩ : ∃ K, 128 * k = K := ⟨_, rfl⟩
  unfold ReadP
  rw [hL] at k1 hcap
  rw [hB, hK] at hcl ⊢
  have q1 : (L : Int).tdiv 128 = (n : Int) := by rw [Int.tdiv_eq_ediv_of_nonneg (by omega)]; omega
  have q2 : IntKind.i64.wrap (128 * (b : Int)) = (B : Int) := by subst hB; go_arith
  have q3 : IntKind.i64.wrap (128 * ((b : Int) + k)) = (E : Int) := by subst hE; go_arith
  have j1 : (0 : Int) ≤ (k : Int) := by omega
  have j2 : (0 : Int) ≤ (b : Int) := by omega
  have j3 : (b : Int) ≤ (n : Int) := by omega
  have j4 : (k : Int) ≤ (n : Int) - (b : Int) := by omega
  have j5 : B ≤ E := by omega
  have j6 : E ≤ L := by omega
  have j7 : E - B = K := by omega
  have j8 : (n : Int) ≤ 61440 := by omega
  clear hb hL hB hE hK hn
  by_cases hcB : cN = B
  · subst hcB
    obtain rfl : K = 0 := by omega
    have hcl2 := Lib.hid (clone21_any gN 0 0 0 (fun j => s.now (cN + j)) w (fun q hq => absurd hq (Nat.not_lt_zero _)) (by omega))
    go_enter Try.func11, Try.ntmps11
    go_wp2_with (first | (go_at_call 21; refine hcl2.out.mono ?_; rintro e w1 ⟨v, rfl, ho, hb⟩; have HO := Lib.hid ho; have HB := Lib.hid hb; clear ho hb))
    all_goals (go_ret2; exact ⟨_, rfl, HO.out, HB.out⟩)
  · go_enter Try.func11, Try.ntmps11
    go_wp2_with (first | (go_at_call 21; refine hcl.out.mono ?_; rintro e w1 ⟨v, rfl, ho, hb⟩; have HO := Lib.hid ho; have HB := Lib.hid hb; clear ho hb))
    all_goals (go_ret2; exact ⟨_, rfl, HO.out, HB.out⟩)
set_option maxRecDepth 100000 in
set_option maxHeartbeats 800000 in
theorem read_bad (Z : Nat → Prop) (m n : Nat) (s : St) (b k : Int) (w : World) (h : MdlAt Z w m n s) (hn : n ≤ 61440) (hb : ¬ inRange n b k) : Calls Try.prog 11 #[.pointer (some ⟨m, 0, none⟩), .int .i64 b, .int .i64 k] w (ReadBad w) := by
  obtain ⟨gS, cS, gN, cN, lv, wv, bv, h⟩ := h
  obtain ⟨k1, f1, z1⟩ := cr h.blk
  clear h
  obtain ⟨L, hL⟩ : ∃ L, 128 * n = L := ⟨_, rfl⟩
  rw [hL] at k1
  have q1 : (L : Int).tdiv 128 = (n : Int) := by rw [Int.tdiv_eq_ediv_of_nonneg (by omega)]; omega
  unfold inRange at hb
  have j8 : (n : Int) ≤ 61440 := by omega
  have j9 : (0 : Int) ≤ n := by omega
  clear hL hn
  by_cases h1 : k < 0
  · clear hb
    go_enter Try.func11, Try.ntmps11
    go_wp2
    all_goals (go_ret2; exact ⟨rfl, Below.refl _ _⟩)
  by_cases h2 : b < 0
  · clear hb
    go_enter Try.func11, Try.ntmps11
    go_wp2
    all_goals (go_ret2; exact ⟨rfl, Below.refl _ _⟩)
  by_cases h3 : (n : Int) < b
  · clear hb
    go_enter Try.func11, Try.ntmps11
    go_wp2
    all_goals (go_ret2; exact ⟨rfl, Below.refl _ _⟩)
  have h4 : (n : Int) - b < k := by omega
  clear hb
  have h1' : 0 ≤ k := by omega
  have h2' : 0 ≤ b := by omega
  have h3' : b ≤ n := by omega
  clear h1 h2 h3
  go_enter Try.func11, Try.ntmps11
  go_wp2
  all_goals (go_ret2; exact ⟨rfl, Below.refl _ _⟩)
end Go.Proofs.Ytgkkmdebpekckaa
