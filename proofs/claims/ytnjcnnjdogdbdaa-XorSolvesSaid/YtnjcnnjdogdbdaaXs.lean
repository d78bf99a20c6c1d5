/- LentRows: a list of rows that is lent. Conditions: as stated at each. -/
import Derived.Test.YtnjcnnjdogdbdaaXr
namespace Go.Proofs.Ytnjcnnjdogdbdaa
open Go.RowKit
/-- A row that is lent: its bytes, the two marks behind. -/
def LRow (w : World) (B : Nat) (v : Value) (n : Nat) (f : Nat → Nat) : Prop :=
  ∃ g cap, v = .slice (some ⟨g, 0, none⟩) n cap ∧ w.ownsRow B 5 1 (.slice (some ⟨g, 0, none⟩) (n + 2) cap) (n + 2) (bytesL n f ++ [.int .u8 91, .int .u8 92])
theorem LRow.bts {w : World} {B : Nat} {v : Value} {n : Nat} {f : Nat → Nat} (h : LRow w B v n f) : Bts w v n f := by
  obtain ⟨g, cap, rfl, ho⟩ := h
  exact (Lent.of ho).bts
theorem LRow.block {w : World} {B : Nat} {v : Value} {n : Nat} {f : Nat → Nat} (h : LRow w B v n f) {k : Nat} (hk : v.ownBlock = some k) : B ≤ k ∧ k < w.heap.size := by
  obtain ⟨g, cap, rfl, ho⟩ := h
  exact ho.lt k hk
theorem LRow.out {S : Nat → Prop} {w w1 : World} {B : Nat} {v : Value} {n : Nat} {f : Nat → Nat} (h : LRow w B v n f) (ho : Out S w w1) (hS : ∀ k, v.ownBlock = some k → ¬ S k) : LRow w1 B v n f := by
  obtain ⟨g, cap, rfl, h⟩ := h
  exact ⟨g, cap, rfl, ho.own h fun k hk => hS k hk⟩
theorem LRow.keep {w w1 : World} {B : Nat} {v : Value} {n : Nat} {f : Nat → Nat} (h : LRow w B v n f) (hb : Below w.heap.size w w1) : LRow w1 B v n f := h.out (S := fun _ => False) (Out.of_below hb) fun _ _ => id
theorem LRow.base {w : World} {B B' : Nat} {v : Value} {n : Nat} {f : Nat → Nat} (h : LRow w B v n f) (hB : B' ≤ B) : LRow w B' v n f := by
  obtain ⟨g, cap, rfl, h⟩ := h
  exact ⟨g, cap, rfl, own_base h hB⟩
theorem LRow.two {s : Nat} {W w' : World} {lv lv' : Value} {N q : Nat} (ht : Two s W lv N q lv' w') {B : Nat} {v : Value} {n : Nat} {f : Nat → Nat} (h : LRow W B v n f) (hne : ∀ k, v.ownBlock = some k → lv.ownBlock ≠ some k) : LRow w' B v n f := by
  obtain ⟨g, cap, rfl, h⟩ := h
  exact ⟨g, cap, rfl, ht.keep h hne⟩
def LentX (n : Nat) (f : Nat → Nat) (w : World) (e : Ending) (w' : World) : Prop := ∃ v, e = .returned v ∧ LRow w' w.heap.size v n f ∧ Below w.heap.size w w'
theorem lent_x {w : World} {v : Value} {n : Nat} {f : Nat → Nat} (hn : n ≤ 140737488351232) (h : Bts w v n f) : Calls Try.prog 27 #[v] w (LentX n f w) := by
  obtain ⟨a, cap, rfl, h⟩ := h
  have fin : ∀ e w', LentP n f w e w' → LentX n f w e w' := fun e w' ⟨g, c, he, ho, hb⟩ => ⟨_, he, ⟨g, c, rfl, ho⟩, hb⟩
  by_cases h0 : n = 0
  · subst h0
    exact (lent_nil a cap f w).mono fin
  · rcases h with h | ⟨b, o, rfl, hc⟩
    · exact absurd h h0
    · exact (lent_some b o n cap f w (by omega) hn hc).mono fin
def mark77 (w : World) (p : Nat) : Prop := w.heap[p]? = some (.cells #[.int .u8 77, .int .u8 78] 5 (0, 0))
/-- A list of rows that is lent, all of it in the blocks from B to E. -/
structure LentR (w : World) (B E : Nat) (xv : Value) (N : Nat) (rv : Nat → Value) (n : Nat → Nat) (h : Nat → Nat → Nat) : Prop where
  l : ∃ gx cx p1 p2, xv = .slice (some ⟨gx, 0, none⟩) N cx ∧ w.ownsRow B 25 1 (.slice (some ⟨gx, 0, none⟩) (N + 2) cx) (N + 2) ((List.range N).map rv ++ [.slice (some ⟨p1, 0, none⟩) 2 2, .slice (some ⟨p2, 0, none⟩) 2 2]) ∧
    mark77 w p1 ∧ mark77 w p2 ∧ p1 ≠ gx ∧ p2 ≠ gx ∧ B ≤ p1 ∧ B ≤ p2 ∧ p1 < E ∧ p2 < E ∧ gx < E ∧ ∀ i, i < N → (rv i).ownBlock ≠ some gx
  row : ∀ i, i < N → LRow w B (rv i) (n i) (h i)
  lt : ∀ i, i < N → ∀ k, (rv i).ownBlock = some k → k < E
theorem LentR.out {S : Nat → Prop} {w w1 : World} {B E : Nat} {xv : Value} {N : Nat} {rv : Nat → Value} {n : Nat → Nat} {h : Nat → Nat → Nat} (H : LentR w B E xv N rv n h) (ho : Out S w w1) (hS : ∀ k, B ≤ k → k < E → ¬ S k) : LentR w1 B E xv N rv n h := by
  obtain ⟨⟨gx, cx, p1, p2, h1, h2, h3, h4, h5, h6, h7, h8, h9, h10, h11, h12⟩, hr, hl⟩ := H
  refine ⟨⟨gx, cx, p1, p2, h1, ho.own h2 fun k hk => ?_, ho.heap h3 (hS _ h7 h9), ho.heap h4 (hS _ h8 h10), h5, h6, h7, h8, h9, h10, h11, h12⟩, fun i hi => (hr i hi).out ho fun k hk => hS k ((hr i hi).block hk).1 (hl i hi k hk), hl⟩
  have := (h2.lt k hk).1
  simp [Value.ownBlock] at hk
  subst hk
  exact hS _ this h11
theorem LentR.keep {w w1 : World} {B E : Nat} {xv : Value} {N : Nat} {rv : Nat → Value} {n : Nat → Nat} {h : Nat → Nat → Nat} (H : LentR w B E xv N rv n h) (hb : Below w.heap.size w w1) : LentR w1 B E xv N rv n h := H.out (S := fun _ => False) (Out.of_below hb) fun _ _ _ => id
theorem LentR.rows {w : World} {B E : Nat} {xv : Value} {N : Nat} {rv : Nat → Value} {n : Nat → Nat} {h : Nat → Nat → Nat} (H : LentR w B E xv N rv n h) (hlt : ∀ i, i < N → ∀ k, k < n i → h i k < 256) : Rows2 w xv N rv n h := by
  obtain ⟨⟨gx, cx, p1, p2, rfl, h2, _⟩, hr, hl⟩ := H
  exact ⟨⟨_, _, rfl, .inr ⟨gx, 0, rfl, fun i hi => by rw [Nat.zero_add]; exact (own_cell h2 (by rw [List.getElem?_append_left (by simpa using hi)]; simp [hi])).1⟩⟩, fun i hi => (hr i hi).bts, hlt⟩
def LentRP (N : Nat) (n : Nat → Nat) (h : Nat → Nat → Nat) (w : World) (e : Ending) (w' : World) : Prop := ∃ xv rv, e = .returned xv ∧ LentR w' w.heap.size w'.heap.size xv N rv n h ∧ Below w.heap.size w w'
theorem make_rows (w : World) (N : Nat) (h : N ≤ 200000) : ∃ cur, (Instr.makeSlice 22 (.int .i64 0) (.int .i64 (N : Int))).run Try.prog w = .ok (.slice (some ⟨w.heap.size, 0, none⟩) 0 N) (w.alloc (.cells cur 25)) ∧ cur.size = N := by
  obtain ⟨i0, hi, hz0, hz1, hz2⟩ := info_parts Try.info25
  have := run_make (P := Try.prog) w 22 25 i0 (.slice none 0 0) Try.underlying22 hi hz0 .i64 .i64 0 N (by omega) (by omega) (by rw [hz2]; omega) (by omega)
  rw [hz1, Nat.mul_one, Int.toNat_natCast] at this
  exact ⟨_, this, by simp [madeCells]⟩
theorem new_cells (w : World) (xs : List Value) (T : TypeId) : ∀ j u, xs[j]? = some u → (w.alloc (.cells xs.toArray T)).cell? ((⟨w.heap.size, 0, none⟩ : Addr).add j) = some u := fun j u hj => by
  have e : (⟨w.heap.size, 0, none⟩ : Addr).add j = ⟨w.heap.size, j, none⟩ := by unfold Addr.add; split <;> simp_all
  rw [e, cell_of_row _ _ _ _ T (0, 0) (heap_alloc_new _ _)]
  simpa using hj
theorem one_cell {x : Value} (hx : x.oneCell' = true) : ∀ u ∈ [x], u.oneCell' = true := fun u hu => by rw [List.mem_singleton.1 hu]; exact hx
theorem two_cells {x y : Value} (hx : x.oneCell' = true) (hy : y.oneCell' = true) : ∀ u ∈ [x, y], u.oneCell' = true := fun u hu => by
  simp only [List.mem_cons, List.not_mem_nil, or_false] at hu
  rcases hu with rfl | rfl
  · exact hx
  · exact hy
theorem info25_again : (Try.prog.info? 25).map (fun i => (i.zero, i.size, i.bytes)) = some (some (.slice none 0 0), 1, 24) := Try.info25
set_option maxRecDepth 100000 in
set_option maxHeartbeats 1000000 in
theorem lent_rows (v : Value) (N : Nat) (rv0 : Nat → Value) (n : Nat → Nat) (h : Nat → Nat → Nat) (W : World) (hr : Rows2 W v N rv0 n h) (hN : N ≤ 100000) (hn : ∀ i, i < N → n i ≤ 200000) :
    Calls Try.prog 13 #[v] W (LentRP N n h W) := by
  obtain ⟨i1, hi1, hy0, hy1, hy2⟩ := info_parts Try.info25
  have HR := Lib.hid hr
  obtain ⟨a, cap, rfl, hl⟩ := hr.l
  have HL := Lib.hid hl
  have HN := Lib.hid hn
  obtain ⟨cur, hmk0, hcs⟩ := make_rows W (N + 2) (by omega)
  have hmk : (Instr.makeSlice 22 (.int .i64 0) (.int .i64 ((N : Int) + 2))).run Try.prog W = .ok (.slice (some ⟨W.heap.size, 0, none⟩) 0 (N + 2)) (W.alloc (.cells cur 25)) := hmk0
  have HM := Lib.hid (World.ownsRow_made (base := W.heap.size) (e := 25) (size := 1) W cur (N + 2) (Nat.le_refl _) (by unfold maxLen; omega) (by omega))
  have hwn : IntKind.i64.wrap ((N : Int) + 2) = ((N + 2 : Nat) : Int) := by go_arith
  clear hr hl hn hcs hmk0
  go_enter Try.func13, Try.ntmps13
  go_wp2
  go_loopw [3, 4] (fun s3 s4 wr => ∃ (i : Nat) (rv : Nat → Value), i ≤ N ∧ s4 = .int .i64 i ∧ wr.ownsRow W.heap.size 25 1 s3 i ((List.range i).map rv) ∧ (∀ r, r < i → LRow wr W.heap.size (rv r) (n r) (h r)) ∧ (∀ r, r < i → ∀ k, (rv r).ownBlock = some k → s3.ownBlock ≠ some k) ∧ Below W.heap.size W wr) (fun _ s4 _ => N - (intOf s4).toNat)
  case atStart => exact ⟨0, fun _ => .slice none 0 0, by omega, rfl, HM.out, fun _ h => by omega, fun _ h => by omega, by go_grown⟩
  case round =>
    obtain ⟨i, rv, hi, rfl, ho, hrow, hne, hb⟩ := hrel
    have HO := Lib.hid ho
    have HRow := Lib.hid hrow
    have HNe := Lib.hid hne
    have HB := Lib.hid hb
    clear ho hrow hne hb
    by_cases hlt : i < N
    · rcases HL.out with h0 | ⟨b, o, rfl, hc⟩
      · omega
      have hcell : wr.cell? ⟨b, o + i, none⟩ = some (rv0 i) := by
        rw [HB.out.cell (p := ⟨b, o + i, none⟩) (World.block_lt_of_cell? W _ (hc i hlt))]; exact hc i hlt
      have hbt := (HR.out.b i hlt).keep HB.out
      obtain ⟨av, capv, hv, -⟩ := HR.out.b i hlt
      rw [hv] at hcell hbt
      have HBt := Lib.hid hbt
      have nb := HN.out i hlt
      clear hc hv hbt
      go_wp2_with fail
      refine (lent_x (by omega) HBt.out).mono ?_
      rintro e w1 ⟨x, rfl, hx, hb⟩
      have hxb : ∀ k, x.ownBlock = some k → wr.heap.size ≤ k := fun k hk => (hx.block hk).1
      have hlvlt : ∀ k, u3.ownBlock = some k → k < wr.heap.size := fun k hk => (HO.out.lt k hk).2
      have HX := Lib.hid (hx.base (B' := W.heap.size) HB.out.size)
      have HXB := Lib.hid hxb
      have HLV := Lib.hid hlvlt
      have HO1 := Lib.hid (own_keep hb HO.out)
      have HRow1 := Lib.hid (show ∀ r, r < i → LRow w1 W.heap.size (rv r) (n r) (h r) from fun r hr => (HRow.out r hr).keep hb)
      have HRl := Lib.hid (show ∀ r, r < i → ∀ k, (rv r).ownBlock = some k → k < wr.heap.size from fun r hr k hk => ((HRow.out r hr).block hk).2)
      have HB1 := Lib.hid (via HB.out hb)
      have HS1 := Lib.hid hb.size
      obtain ⟨xg, xc, rfl, -⟩ := HX.out
      clear hx hb hxb hlvlt
      go_wp2_with (first | (at_builtin; refine wpList_append_two _ rfl _ _ 22 rfl W.heap.size 25 i1 (.slice none 0 0) 1 24 Try.underlying22 hi1 hy0 hy1 hy2 rfl (by decide) _ i _ rfl (HO1.out.alloc _) ⟨w1.heap.size, 0, none⟩ 1 1 [.slice (some ⟨xg, 0, none⟩) (n i) xc] rfl rfl ?c1 ?c2 ?c3 ?c4 ?c5 ?c6 ?_))
      case c1 => exact new_cells _ _ _
      case c2 => exact one_cell rfl
      case c3 => omega
      case c4 => unfold maxLen; omega
      case c5 => omega
      case c6 => have h1 := HB1.out.size; simp; omega
      intro v' w' hown ht
      have hbel : Below W.heap.size W w' := ht.below (HB1.out.alloc HB1.out.size _) (by have h1 := HB1.out.size; simp; omega) fun k hk => (HO1.out.lt k hk).1
      have hrows : ∀ r, r < i + 1 → LRow w' W.heap.size (put i rv (.slice (some ⟨xg, 0, none⟩) (n i) xc) r) (n r) (h r) := fun r hr => by
        by_cases e : r = i
        · subst e
          rw [put_at]
          refine LRow.two ht (HX.out.out ((Out.refl (fun _ => False) _).alloc _) fun _ _ => id) fun k hk e => ?_
          have := HXB.out k hk
          have := HLV.out k e
          omega
        · rw [put_lt _ _ (by omega)]
          exact LRow.two ht ((HRow1.out r (by omega)).out ((Out.refl (fun _ => False) _).alloc _) fun _ _ => id) fun k hk => HNe.out r (by omega) k hk
      have hne : ∀ r, r < i + 1 → ∀ k, (put i rv (.slice (some ⟨xg, 0, none⟩) (n i) xc) r).ownBlock = some k → v'.ownBlock ≠ some k := fun r hr k hk e2 => by
        have hz := HS1.out
        by_cases e : r = i
        · subst e
          rw [put_at] at hk
          have h1 := HXB.out k hk
          have h3 := (HX.out.block hk).2
          rcases ht.block e2 with h2 | h2
          · have := HLV.out k h2; omega
          · omega
        · rw [put_lt _ _ (by omega)] at hk
          have h3 := HRl.out r (by omega) k hk
          rcases ht.block e2 with h2 | h2
          · exact HNe.out r (by omega) k hk h2
          · omega
      rw [← map_put] at hown
      have HO2 := Lib.hid hown
      have HB2 := Lib.hid hbel
      have HR2 := Lib.hid hrows
      have HNe2 := Lib.hid hne
      clear hown ht hbel hrows hne
      go_wp2
      go_roundw
      case rel => exact ⟨i + 1, _, by omega, by go_num, HO2.out, HR2.out, HNe2.out, HB2.out⟩
      case measure => simp [intOf]; omega
    · obtain rfl : i = N := by omega
      go_wp2_with (first | (at_builtin; refine wpList_append_two _ rfl _ _ 22 rfl W.heap.size 25 i1 (.slice none 0 0) 1 24 Try.underlying22 hi1 hy0 hy1 hy2 rfl (by decide) _ i _ rfl (((HO.out.alloc _).alloc _).alloc _) ⟨wr.heap.size + 2, 0, none⟩ 2 2 [.slice (some ⟨wr.heap.size, 0, none⟩) 2 2, .slice (some ⟨wr.heap.size + 1, 0, none⟩) 2 2] rfl rfl ?d1 ?d2 ?d3 ?d4 ?d5 ?d6 ?_))
      case d1 =>
        have := new_cells ((wr.alloc (.cells #[.int .u8 77, .int .u8 78] 5)).alloc (.cells #[.int .u8 77, .int .u8 78] 5)) [.slice (some ⟨wr.heap.size, 0, none⟩) 2 2, .slice (some ⟨wr.heap.size + 1, 0, none⟩) 2 2] 25
        simp only [World.size_alloc] at this
        exact this
      case d2 => exact two_cells rfl rfl
      case d3 => omega
      case d4 => unfold maxLen; omega
      case d5 => omega
      case d6 => have h1 := HB.out.size; simp; omega
      intro v' w' hown ht
      have hz := HB.out.size
      have hbel : Below W.heap.size W w' := ht.below (((HB.out.alloc HB.out.size _).alloc (by simp; omega) _).alloc (by simp; omega) _) (by simp; omega) fun k hk => (HO.out.lt k hk).1
      have hlv : ∀ k, u3.ownBlock = some k → k < wr.heap.size := fun k hk => (HO.out.lt k hk).2
      have hm1 : mark77 w' wr.heap.size := ht.heap ((Below.heap_alloc _ _ _ (by simp; omega)).trans (hn1 _ _ _)) fun e => by have := hlv _ e; omega
      have hm2 : mark77 w' (wr.heap.size + 1) := ht.heap ((Below.heap_alloc _ _ _ (by simp)).trans (hn2 _ _ _)) fun e => by have := hlv _ e; omega
      have hrows : ∀ r, r < i → LRow w' W.heap.size (rv r) (n r) (h r) := fun r hr =>
        LRow.two ht ((HRow.out r hr).out ((((Out.refl (fun _ => False) _).alloc _).alloc _).alloc _) fun _ _ => id) fun k hk => HNe.out r hr k hk
      obtain ⟨xa, cx, rfl, hcx, hxa⟩ := own_form hown
      rcases hxa with h0 | ⟨gx, rfl⟩
      · omega
      have hgx := hown.lt gx rfl
      have hfin : LentR w' W.heap.size w'.heap.size (.slice (some ⟨gx, 0, none⟩) i cx) i rv n h := by
        refine ⟨⟨gx, cx, wr.heap.size, wr.heap.size + 1, rfl, hown, hm1, hm2, fun e => ?_, fun e => ?_, hz, by omega, lt_of_block hm1, lt_of_block hm2, hgx.2, fun r hr e => ?_⟩, hrows, fun r hr k hk => ((hrows r hr).block hk).2⟩
        · rcases ht.block (k := gx) rfl with h2 | h2
          · have := hlv _ h2; omega
          · omega
        · rcases ht.block (k := gx) rfl with h2 | h2
          · have := hlv _ h2; omega
          · omega
        · rcases ht.block (k := gx) rfl with h2 | h2
          · exact HNe.out r hr gx e h2
          · have := ((HRow.out r hr).block e).2; omega
      have HF := Lib.hid hfin
      have HB2 := Lib.hid hbel
      have hc2 : i ≤ cx := by omega
      clear hown ht hbel hlv hm1 hm2 hrows hgx hfin
      go_wp2
      go_ret
      exact ⟨_, rv, rfl, HF.out, HB2.out⟩
end Go.Proofs.Ytnjcnnjdogdbdaa
