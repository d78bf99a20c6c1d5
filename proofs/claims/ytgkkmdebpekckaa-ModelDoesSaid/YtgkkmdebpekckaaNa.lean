/- Bytes that are lent: LentBytes, WholeBytes, SpoilBytes. Conditions: as stated at each. -/
import Derived.Test.YtgkkmdebpekckaaMt
import Derived.Test.YtgkkmdebpekckaaBm
import Derived.Lib.AppendZeros
namespace Go.Proofs.Ytgkkmdebpekckaa
open Go.RowKit
theorem lt_of_block' {w : World} {b : Nat} {o : Obj} (h : w.heap[b]? = some o) : b < w.heap.size := (Array.getElem?_eq_some_iff.1 h).1
theorem make_cap (w : World) (N : Nat) (h : N ≤ 281474976710656) : (Instr.makeSlice 25 (.int .i64 0) (.int .i64 (N : Int))).run Try.prog w = .ok (.slice (some ⟨w.heap.size, 0, none⟩) 0 N) (w.alloc (.cells (arrB N (fun _ => 0)) 5)) := by
  obtain ⟨i0, hi, hz0, hz1, hz2⟩ := info_parts Try.info5
  have := run_make (P := Try.prog) w 25 5 i0 (.int .u8 0) Try.underlying25 hi hz0 .i64 .i64 0 N (by omega) (by omega) (by rw [hz2]; omega) (by omega)
  rw [hz1, Nat.mul_one, Int.toNat_natCast] at this
  rw [this, made_zero N]
  rfl
def LentP (n : Nat) (f : Nat → Nat) (w : World) (e : Ending) (w' : World) : Prop :=
  ∃ g cap, e = .returned (.slice (some ⟨g, 0, none⟩) n cap) ∧ w'.ownsRow w.heap.size 5 1 (.slice (some ⟨g, 0, none⟩) (n + 2) cap) (n + 2) (bytesL n f ++ [.int .u8 91, .int .u8 92]) ∧ Below w.heap.size w w'
set_option maxRecDepth 100000 in
theorem run_append_empty (w : World) (b : Addr) (n cap : Nat) (h : n ≤ cap) (a : Option Addr) (c : Nat) : (Builtin.append_ #[25, 25] 25 #[.slice (some b) n cap, .slice a 0 c]).run Try.prog w = .ok (.slice (some b) n cap) w := by
  obtain ⟨i0, hi, hz0, hz1, hz2⟩ := info_parts Try.info5
  cases a with
  | none => simp [Builtin.append_, run_underlying Try.underlying25, sizeOf, typeInfo, hi, Builtin.lenOf, Builtin.firstCells, h, storeCells]
  | some a => simp [Builtin.append_, run_underlying Try.underlying25, sizeOf, typeInfo, hi, Builtin.lenOf, Builtin.firstCells, loadCells, loadCellsFrom, h, storeCells]
set_option maxRecDepth 100000 in
set_option maxHeartbeats 400000 in
theorem lent_nil (a : Option Addr) (cap : Nat) (f : Nat → Nat) (w : World) : Calls Try.prog 35 #[.slice a 0 cap] w (LentP 0 f w) := by
  obtain ⟨i0, hi, hz0, hz1, hz2⟩ := info_parts Try.info5
  have hmk : ∀ w, (Instr.makeSlice 25 (.int .i64 0) (.int .i64 2)).run Try.prog w = .ok (.slice (some ⟨w.heap.size, 0, none⟩) 0 2) (w.alloc (.cells (arrB 2 (fun _ => 0)) 5)) := fun w => make_cap w 2 (by omega)
  go_enter Try.func35, Try.ntmps35
  have HM := Lib.hid (World.ownsRow_made (base := w.heap.size) (e := 5) (size := 1) w (arrB 2 (fun _ => 0)) 2 (Nat.le_refl _) (by decide) (arrB_size _ _))
  go_wp2_with (first | (at_builtin; refine Lib.wpList_append_run _ rfl _ _ 25 25 rfl (.slice (some ⟨w.heap.size, 0, none⟩) 0 2) (.slice a 0 cap) rfl rfl _ _ (run_append_empty _ ⟨w.heap.size, 0, none⟩ 0 2 (by omega) a cap) ?_) | (at_builtin; refine wpList_append_own _ rfl _ _ 25 rfl w.heap.size 5 i0 (.int .u8 0) 1 1 Try.underlying25 hi hz0 hz1 hz2 rfl (by decide) _ 0 [] rfl (HM.out.alloc _) ⟨w.heap.size + 1, 0, none⟩ 2 2 [.int .u8 91, .int .u8 92] rfl rfl ?c1 ?c2 ?c3 ?c4 ?c5 ?_))
  case c1 =>
    intro q u hq
    have e : (⟨w.heap.size + 1, 0, none⟩ : Addr).add q = ⟨w.heap.size + 1, q, none⟩ := by unfold Addr.add; split <;> simp_all
    rw [e, ← World.size_alloc w (.cells (arrB 2 (fun _ => 0)) 5), cell_of_row _ _ _ _ 5 (0, 0) (heap_alloc_new _ _)]
    simpa using hq
  case c2 =>
    intro u hu
    simp only [List.mem_cons, List.not_mem_nil, or_false] at hu
    rcases hu with rfl | rfl <;> rfl
  case c3 => unfold maxLen; omega
  case c4 => omega
  case c5 => simp; omega
  intro v' w' hown hgr _
  obtain ⟨g, cp, rfl, hg, hlt⟩ := hown.form (by omega)
  have hbel : Below w.heap.size w w' := (bal (bal (Below.refl _ _) _) _).grown hgr (by simp; omega) (fun k hk => by simp [Value.ownBlock] at hk; omega)
  have HO := Lib.hid hown
  have HB := Lib.hid hbel
  clear hown hgr hbel
  go_wp2
  go_ret
  exact ⟨g, cp, rfl, HO.out, HB.out⟩
set_option maxRecDepth 100000 in
set_option maxHeartbeats 400000 in
theorem lent_some (b o n cap : Nat) (f : Nat → Nat) (w : World) (h0 : 0 < n) (hn : n ≤ 140737488351232) (hc : ∀ k, k < n → w.cell? ⟨b, o + k, none⟩ = some (.int .u8 (f k))) : Calls Try.prog 35 #[.slice (some ⟨b, o, none⟩) n cap] w (LentP n f w) := by
  obtain ⟨i0, hi, hz0, hz1, hz2⟩ := info_parts Try.info5
  have HC := Lib.hid hc
  clear hc
  have hwn : IntKind.i64.wrap ((n : Int) + 2) = ((n + 2 : Nat) : Int) := by go_arith
  have hmk : ∀ w, (Instr.makeSlice 25 (.int .i64 0) (.int .i64 ((n : Int) + 2))).run Try.prog w = .ok (.slice (some ⟨w.heap.size, 0, none⟩) 0 (n + 2)) (w.alloc (.cells (arrB (n + 2) (fun _ => 0)) 5)) := fun w => make_cap w (n + 2) (by omega)
  have HM := Lib.hid (World.ownsRow_made (base := w.heap.size) (e := 5) (size := 1) w (arrB (n + 2) (fun _ => 0)) (n + 2) (Nat.le_refl _) (by unfold maxLen; omega) (by rw [arrB_size, Nat.mul_one]))
  go_enter Try.func35, Try.ntmps35
  go_wp2_with (first | (at_builtin; refine wpList_append_own _ rfl _ _ 25 rfl w.heap.size 5 i0 (.int .u8 0) 1 1 Try.underlying25 hi hz0 hz1 hz2 rfl (by decide) _ 0 [] rfl HM.out ⟨b, o, none⟩ n cap (bytesL n f) rfl (by rw [bytesL_len, Nat.mul_one]) ?c1 ?c2 ?c3 ?c4 ?c5 ?_))
  case c1 =>
    intro q u hq
    by_cases hlt : q < n
    · rw [bytesL_get _ _ _ hlt] at hq
      have e : (⟨b, o, none⟩ : Addr).add q = ⟨b, o + q, none⟩ := by unfold Addr.add; split <;> simp_all
      rw [e, World.cell?_alloc_lt _ _ _ (World.block_lt_of_cell? w _ (HC.out q hlt)), HC.out q hlt]
      exact hq
    · rw [List.getElem?_eq_none (by rw [bytesL_len]; omega)] at hq
      cases hq
  case c2 =>
    intro u hu
    simp only [bytesL, List.mem_map] at hu
    obtain ⟨q, _, rfl⟩ := hu
    rfl
  case c3 => unfold maxLen; omega
  case c4 => omega
  case c5 => simp
  intro v1 w1 hown hgr _
  have hb1 : Below w.heap.size w w1 := (bal (Below.refl _ _) _).grown hgr (by simp) (fun k hk => by simp [Value.ownBlock] at hk; omega)
  have hown1 : w1.ownsRow w.heap.size 5 1 v1 n (bytesL n f) := by
    have e := hown
    first | exact e | (rw [Nat.zero_add] at e; exact e)
  obtain ⟨g1, cp1, rfl, hg1, hlt1⟩ := hown1.form h0
  have HO1 := Lib.hid hown1
  have HB1 := Lib.hid hb1
  clear hown hgr hb1 hown1 HM
  go_wp2_with (first | (at_builtin; refine wpList_append_own _ rfl _ _ 25 rfl w.heap.size 5 i0 (.int .u8 0) 1 1 Try.underlying25 hi hz0 hz1 hz2 rfl (by decide) _ n (bytesL n f) rfl (HO1.out.alloc _) ⟨w1.heap.size, 0, none⟩ 2 2 [.int .u8 91, .int .u8 92] rfl rfl ?c1 ?c2 ?c3 ?c4 ?c5 ?_))
  case c1 =>
    intro q u hq
    have e : (⟨w1.heap.size, 0, none⟩ : Addr).add q = ⟨w1.heap.size, q, none⟩ := by unfold Addr.add; split <;> simp_all
    rw [e, cell_of_row _ _ _ _ 5 (0, 0) (heap_alloc_new _ _)]
    simpa using hq
  case c2 =>
    intro u hu
    simp only [List.mem_cons, List.not_mem_nil, or_false] at hu
    rcases hu with rfl | rfl <;> rfl
  case c3 => unfold maxLen; omega
  case c4 => omega
  case c5 => have := HB1.out.size; simp; omega
  intro v' w' hown hgr _
  obtain ⟨g, cp, rfl, hg, hlt⟩ := hown.form (by omega)
  have hbel : Below w.heap.size w w' := (HB1.out.alloc HB1.out.size _).grown hgr (by have := HB1.out.size; simp; omega) (fun k hk => by simp [Value.ownBlock] at hk; omega)
  obtain ⟨hcap⟩ : Nonempty (n + 2 ≤ cp) := by
    rcases hown.2 with ⟨h, _⟩ | ⟨_, _, _, h, _, _, h2, _⟩
    · cases h
    · cases h; exact ⟨h2⟩
  have hcap2 : n ≤ cp := by omega
  have HO := Lib.hid hown
  have HB := Lib.hid hbel
  clear hown hgr hbel
  go_wp2
  go_ret
  exact ⟨g, cp, rfl, HO.out, HB.out⟩
/-- A list that was lent: its bytes, and the two marks behind. -/
structure Lent (w : World) (g n cap : Nat) (f : Nat → Nat) : Prop where
  c : ∀ k, k < n → w.cell? ⟨g, k, none⟩ = some (.int .u8 (f k))
  m0 : w.cell? ⟨g, n, none⟩ = some (.int .u8 91)
  m1 : w.cell? ⟨g, n + 1, none⟩ = some (.int .u8 92)
  cap : n + 2 ≤ cap
theorem Lent.of {w : World} {B g n cap : Nat} {f : Nat → Nat} (h : w.ownsRow B 5 1 (.slice (some ⟨g, 0, none⟩) (n + 2) cap) (n + 2) (bytesL n f ++ [.int .u8 91, .int .u8 92])) : Lent w g n cap f := by
  have hc : ∀ j u, (bytesL n f ++ [Value.int .u8 91, .int .u8 92])[j]? = some u → w.cell? ⟨g, j, none⟩ = some u := fun j u hj => by
    have := h.cells (g := g) rfl j u hj
    have e : (⟨g, 0, none⟩ : Addr).add j = ⟨g, j, none⟩ := by unfold Addr.add; split <;> simp_all
    rwa [e] at this
  refine ⟨fun k hk => hc k _ ?_, hc n _ ?_, hc (n + 1) _ ?_, ?_⟩
  · rw [List.getElem?_append_left (by rw [bytesL_len]; exact hk), bytesL_get _ _ _ hk]
  · rw [List.getElem?_append_right (by rw [bytesL_len]; exact Nat.le_refl _), bytesL_len]; simp
  · rw [List.getElem?_append_right (by rw [bytesL_len]; omega), bytesL_len]; simp
  · rcases h.2 with ⟨h, _⟩ | ⟨_, _, _, h, _, _, h2, _⟩
    · cases h
    · cases h; exact h2
theorem Lent.keep {w w1 : World} {g n cap : Nat} {f : Nat → Nat} (h : Lent w g n cap f) (hb : Below w.heap.size w w1) : Lent w1 g n cap f :=
  have k : ∀ j u, w.cell? ⟨g, j, none⟩ = some u → w1.cell? ⟨g, j, none⟩ = some u := fun j u hj => by
    rw [hb.cell (p := ⟨g, j, none⟩) (World.block_lt_of_cell? w _ hj)]; exact hj
  ⟨fun j hj => k _ _ (h.c j hj), k _ _ h.m0, k _ _ h.m1, h.cap⟩
theorem Lent.bts {w : World} {g n cap : Nat} {f : Nat → Nat} (h : Lent w g n cap f) : Bts w (.slice (some ⟨g, 0, none⟩) n cap) n f :=
  ⟨_, _, rfl, .inr ⟨g, 0, rfl, fun k hk => by rw [Nat.zero_add]; exact h.c k hk⟩⟩
set_option maxRecDepth 100000 in
set_option maxHeartbeats 400000 in
theorem whole_bytes (g n cap : Nat) (f : Nat → Nat) (va : Value) (w : World) (hn : n ≤ 140737488351232) (hl : Lent w g n cap f) (ha : Bts w va n f) :
    Calls Try.prog 36 #[.slice (some ⟨g, 0, none⟩) n cap, va] w fun e w' => e = .returned (.bool true) ∧ Below w.heap.size w w' := by
  obtain ⟨aa, ca, rfl, -⟩ := id ha
  have HA := Lib.hid ha
  have HB := Lib.hid hl.bts
  have c0 := hl.m0
  have c1 := hl.m1
  have c2 := hl.cap
  clear hl ha
  have hw2 : IntKind.i64.wrap ((n : Int) + 2) = ((n + 2 : Nat) : Int) := by go_arith
  have hw1 : IntKind.i64.wrap ((n : Int) + 1) = ((n + 1 : Nat) : Int) := by go_arith
  have h3 : ¬ cap < n + 2 := by omega
  go_enter Try.func36, Try.ntmps36
  go_wp2_with (first | (go_at_call 14; refine (same_V _ _ n n f f _ HB.out HA.out (by omega)).mono ?_; rintro e w1 ⟨rfl, hb⟩; rw [eqB_true (fun _ _ => rfl)]; have HW := Lib.hid hb; clear hb))
  go_ret
  exact ⟨rfl, HW.out⟩
/-- A block of c cells of the type T. -/
def Blk (w : World) (g c : Nat) (T : TypeId) : Prop := ∃ cur, w.heap[g]? = some (.cells cur T (0, 0)) ∧ cur.size = c
theorem Blk.set {w : World} {g c : Nat} {T : TypeId} (h : Blk w g c T) (b o : Nat) (u : Value) : Blk (w.setCell ⟨b, o, none⟩ u) g c T := by
  obtain ⟨cur, h1, h2⟩ := h
  by_cases e : g = b
  · subst e
    exact ⟨_, heap_setCell_same w g o cur T u h1, by simpa using h2⟩
  · exact ⟨cur, by rw [heap_setCell_other _ _ _ _ e]; exact h1, h2⟩
theorem Blk.alloc {w : World} {g c : Nat} {T : TypeId} (h : Blk w g c T) (o : Obj) : Blk (w.alloc o) g c T := by
  obtain ⟨cur, h1, h2⟩ := h
  exact ⟨cur, (Below.heap_alloc _ _ _ (lt_of_block' h1)).trans h1, h2⟩
theorem Blk.cell {w : World} {g c : Nat} {T : TypeId} (h : Blk w g c T) {k : Nat} (hk : k < c) : (∃ u, w.cell? ⟨g, k, none⟩ = some u) ∧ w.frozen? ⟨g, k, none⟩ = false := by
  obtain ⟨cur, h1, h2⟩ := h
  exact ⟨⟨cur[k]'(by omega), by rw [(cr h1).1]; exact Array.getElem?_eq_getElem _⟩, (cr h1).2.1 k⟩
theorem own_blk {w : World} {base : Nat} {e : TypeId} {g n cap : Nat} {xs : List Value} (h : w.ownsRow base e 1 (.slice (some ⟨g, 0, none⟩) n cap) n xs) : Blk w g cap e ∧ n ≤ cap ∧ cap ≤ maxLen := by
  rcases h.2 with ⟨hv, _⟩ | ⟨_, _, cur, hv, _, hg, h1, h2, h3, _⟩
  · cases hv
  · cases hv; exact ⟨⟨cur, hg, by omega⟩, h1, h2⟩
def SpoilP (g c : Nat) (w : World) (e : Ending) (w' : World) : Prop := e = .returned (.tuple #[]) ∧ Blk w' g c 5 ∧ Out (fun k => k = g) w w'
set_option maxRecDepth 100000 in
set_option maxHeartbeats 1000000 in
theorem spoil_bytes (g n c : Nat) (w : World) (hb : Blk w g c 5) (hc : c ≤ maxLen) :
    Calls Try.prog 40 #[.slice (some ⟨g, 0, none⟩) n c] w (SpoilP g c w) := by
  have HB := Lib.hid hb
  unfold maxLen at hc
  clear hb
  go_enter Try.func40, Try.ntmps40
  go_wp2
  go_loopw [3] (fun s3 wr => ∃ k : Nat, k ≤ c ∧ s3 = .int .i64 k ∧ Blk wr g c 5 ∧ Out (fun k => k = g) w wr) (fun s3 _ => c - (intOf s3).toNat)
  case atStart => exact ⟨0, by omega, rfl, HB.out, Out.refl _ _⟩
  case round =>
    obtain ⟨k, hk, rfl, hb, ho⟩ := hrel
    have HB2 := Lib.hid hb
    have HO := Lib.hid ho
    by_cases hlt : k < c
    · obtain ⟨⟨u, d1⟩, d2⟩ := hb.cell hlt
      clear hb ho
      go_wp2
      go_roundw
      case rel => exact ⟨k + 1, by omega, by go_num, HB2.out.set _ _ _, HO.out.setCell (fun _ => rfl) _⟩
      case measure => simp [intOf]; omega
    · clear hb ho
      go_wp2
      go_end0
      exact ⟨rfl, HB2.out, HO.out⟩
def LentQ (n : Nat) (f : Nat → Nat) (w : World) (e : Ending) (w' : World) : Prop :=
  ∃ g cap, e = .returned (.slice (some ⟨g, 0, none⟩) n cap) ∧ Lent w' g n cap f ∧ Blk w' g cap 5 ∧ cap ≤ maxLen ∧ w.heap.size ≤ g ∧ g < w'.heap.size ∧ Below w.heap.size w w'
theorem lent_any {w : World} {v : Value} {n : Nat} {f : Nat → Nat} (hn : n ≤ 140737488351232) (h : Bts w v n f) : Calls Try.prog 35 #[v] w (LentQ n f w) := by
  obtain ⟨a, cap, rfl, h⟩ := h
  have fin : ∀ e w', LentP n f w e w' → LentQ n f w e w' := fun e w' ⟨g, c, he, ho, hb⟩ => by
    obtain ⟨h1, h2, h3⟩ := own_blk ho
    exact ⟨g, c, he, Lent.of ho, h1, h3, (ho.lt g rfl).1, (ho.lt g rfl).2, hb⟩
  by_cases h0 : n = 0
  · subst h0
    exact (lent_nil a cap f w).mono fin
  · rcases h with h | ⟨b, o, rfl, hc⟩
    · omega
    · exact (lent_some b o n cap f w (by omega) hn hc).mono fin
end Go.Proofs.Ytgkkmdebpekckaa
