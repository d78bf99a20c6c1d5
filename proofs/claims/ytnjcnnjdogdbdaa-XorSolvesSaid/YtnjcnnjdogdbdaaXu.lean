/- SpoilBytes, SpoilRows. Conditions: as stated at each. -/
import Derived.Test.YtnjcnnjdogdbdaaXt
namespace Go.Proofs.Ytnjcnnjdogdbdaa
open Go.RowKit
/-- A block of c cells of the type T. -/
def Blk (w : World) (g c : Nat) (T : TypeId) : Prop := ∃ cur, w.heap[g]? = some (.cells cur T (0, 0)) ∧ cur.size = c
theorem Blk.set {w : World} {g c : Nat} {T : TypeId} (h : Blk w g c T) (b o : Nat) (u : Value) : Blk (w.setCell ⟨b, o, none⟩ u) g c T := by
  obtain ⟨cur, h1, h2⟩ := h
  by_cases e : g = b
  · subst e
    exact ⟨_, heap_setCell_same w g o cur T u h1, by simpa using h2⟩
  · exact ⟨cur, by rw [heap_setCell_other _ _ _ _ e]; exact h1, h2⟩
theorem Blk.alloc {w : World} {g c : Nat} {T : TypeId} (h : Blk w g c T) (o : Obj) : Blk (w.alloc o) g c T := by
  obtain ⟨cur, h1, h2⟩ := h
  exact ⟨cur, (Below.heap_alloc _ _ _ (lt_of_block h1)).trans h1, h2⟩
theorem Blk.cell {w : World} {g c : Nat} {T : TypeId} (h : Blk w g c T) {k : Nat} (hk : k < c) : (∃ u, w.cell? ⟨g, k, none⟩ = some u) ∧ w.frozen? ⟨g, k, none⟩ = false := by
  obtain ⟨cur, h1, h2⟩ := h
  exact ⟨⟨cur[k]'(by omega), by rw [(cr h1).1]; exact Array.getElem?_eq_getElem _⟩, (cr h1).2.1 k⟩
theorem own_blk {w : World} {base : Nat} {e : TypeId} {g n cap : Nat} {xs : List Value} (h : w.ownsRow base e 1 (.slice (some ⟨g, 0, none⟩) n cap) n xs) : Blk w g cap e ∧ n ≤ cap ∧ cap ≤ maxLen := by
  rcases h.2 with ⟨hv, _⟩ | ⟨_, _, cur, hv, _, hg, h1, h2, h3, _⟩
  · cases hv
  · cases hv; exact ⟨⟨cur, hg, by omega⟩, h1, h2⟩
def SpoilP (g c : Nat) (w : World) (e : Ending) (w' : World) : Prop := e = .returned (.tuple #[]) ∧ Blk w' g c 5 ∧ Out (fun k => k = g) w w'
set_option maxRecDepth 100000 in
set_option maxHeartbeats 1000000 in
theorem spoil_bytes (g n c : Nat) (w : World) (hb : Blk w g c 5) (hc : c ≤ maxLen) :
    Calls Try.prog 35 #[.slice (some ⟨g, 0, none⟩) n c] w (SpoilP g c w) := by
  have HB := Lib.hid hb
  unfold maxLen at hc
  clear hb
  go_enter Try.func35, Try.ntmps35
  go_wp2
  go_loopw [3] (fun s3 wr => ∃ k : Nat, k ≤ c ∧ s3 = .int .i64 k ∧ Blk wr g c 5 ∧ Out (fun k => k = g) w wr) (fun s3 _ => c - (intOf s3).toNat)
  case atStart => exact ⟨0, by omega, rfl, HB.out, Out.refl _ _⟩
  case round =>
    obtain ⟨k, hk, rfl, hb, ho⟩ := hrel
    have HB2 := Lib.hid hb
    have HO := Lib.hid ho
    by_cases hlt : k < c
    · obtain ⟨⟨u, d1⟩, d2⟩ := hb.cell hlt
      clear hb ho
      go_wp2
      go_roundw
      case rel => exact ⟨k + 1, by omega, by go_num, HB2.out.set _ _ _, HO.out.setCell (fun _ => rfl) _⟩
      case measure => simp [intOf]; omega
    · clear hb ho
      go_wp2
      go_end0
      exact ⟨rfl, HB2.out, HO.out⟩
def SpoilRP (B E : Nat) (w : World) (e : Ending) (w' : World) : Prop := e = .returned (.tuple #[]) ∧ Out (fun k => B ≤ k ∧ k < E) w w'
set_option maxRecDepth 100000 in
set_option maxHeartbeats 1000000 in
theorem spoil_rows (xv : Value) (N : Nat) (rv : Nat → Value) (n : Nat → Nat) (h : Nat → Nat → Nat) (B E : Nat) (w : World) (hx : LentR w B E xv N rv n h) (hN : N ≤ 100000) :
    Calls Try.prog 17 #[xv] w (SpoilRP B E w) := by
  obtain ⟨gx, cx, p1, p2, rfl, ho, -, -, -, -, -, -, -, -, hgE, hne⟩ := hx.l
  obtain ⟨hbx, hcx, hmx⟩ := own_blk ho
  unfold maxLen at hmx
  have hgB := (ho.lt gx rfl).1
  have hrow : ∀ i, i < N → ∃ g c, rv i = .slice (some ⟨g, 0, none⟩) (n i) c ∧ n i ≤ c ∧ c ≤ maxLen ∧ B ≤ g ∧ g < E ∧ g ≠ gx ∧ Blk w g c 5 := fun i hi => by
    obtain ⟨g, c, e, ho2⟩ := hx.row i hi
    obtain ⟨h1, h2, h3⟩ := own_blk ho2
    have h4 := hx.lt i hi g (by rw [e]; rfl)
    exact ⟨g, c, e, by omega, h3, (ho2.lt g rfl).1, h4, fun e2 => hne i hi (by rw [e, ← e2]; rfl), h1⟩
  have hcell : ∀ i, i < N → w.cell? ⟨gx, i, none⟩ = some (rv i) := fun i hi => (own_cell ho (by rw [List.getElem?_append_left (by simpa using hi)]; simp [hi])).1
  have HR := Lib.hid hrow
  have HC := Lib.hid hcell
  have HX := Lib.hid hbx
  have HgB := Lib.hid (And.intro hgB hgE)
  clear hx ho hne hbx hrow hcell hgB hgE
  go_enter Try.func17, Try.ntmps17
  go_wp2
  go_loopw [2] (fun s2 wr => ∃ i : Nat, i ≤ N ∧ s2 = .int .i64 i ∧ (∀ r g c, r < N → rv r = .slice (some ⟨g, 0, none⟩) (n r) c → Blk wr g c 5) ∧ Out (fun k => B ≤ k ∧ k < E ∧ k ≠ gx) w wr) (fun s2 _ => N - (intOf s2).toNat)
  case atStart =>
    refine ⟨0, by omega, rfl, fun r g c hr e => ?_, Out.refl _ _⟩
    obtain ⟨g2, c2, e2, _, _, _, _, _, hb⟩ := HR.out r hr
    rw [e] at e2
    cases e2
    exact hb
  case round =>
    obtain ⟨i, hi, rfl, hbl, hout⟩ := hrel
    have HBl := Lib.hid hbl
    have HO := Lib.hid hout
    clear hbl hout
    by_cases hlt : i < N
    · have hcell : wr.cell? ⟨gx, i, none⟩ = some (rv i) := by
        rw [World.cell?_of_block (HO.out.block gx (World.block_lt_of_cell? w _ (HC.out i hlt)) fun ⟨_, _, e⟩ => e rfl)]; exact HC.out i hlt
      obtain ⟨g, c, e, h1, h2, h3, h4, h5, _⟩ := HR.out i hlt
      have hb := HBl.out i g c hlt e
      rw [e] at hcell
      have HBb := Lib.hid hb
      have HG := Lib.hid (show B ≤ g ∧ g < E ∧ g ≠ gx from ⟨h3, h4, h5⟩)
      clear e hb h3 h4 h5
      go_wp2_with fail
      refine (spoil_bytes g (n i) c _ HBb.out h2).mono ?_
      rintro e w1 ⟨rfl, hb, ho⟩
      have HB1 := Lib.hid hb
      have HO1 := Lib.hid ho
      clear hb ho
      go_wp2
      go_roundw
      case rel =>
        refine ⟨i + 1, by omega, by go_num, fun r g' c' hr e => ?_, HO.out.tr (HO1.out.mono fun k _ e => e ▸ HG.out)⟩
        by_cases e2 : g' = g
        · subst e2
          obtain ⟨cur, q1, q2⟩ := HBl.out r g' c' hr e
          obtain ⟨cur2, q3, q4⟩ := HBb.out
          rw [q1] at q3
          cases q3
          rw [← q2, q4]
          exact HB1.out
        · obtain ⟨cur, q1, q2⟩ := HBl.out r g' c' hr e
          exact ⟨cur, HO1.out.heap q1 e2, q2⟩
      case measure => simp [intOf]; omega
    · obtain rfl : i = N := by omega
      obtain ⟨curx, q1, q2⟩ := HX.out
      have hbx2 : Blk wr gx cx 25 := ⟨curx, HO.out.heap q1 fun ⟨_, _, e⟩ => e rfl, q2⟩
      have HX2 := Lib.hid hbx2
      have HO2 := Lib.hid (show Out (fun k => B ≤ k ∧ k < E) w wr from HO.out.mono fun _ _ h => ⟨h.1, h.2.1⟩)
      clear q1 q2 hbx2
      go_wp2
      go_loopw [4] (fun s4 wr => ∃ k : Nat, k ≤ cx ∧ s4 = .int .i64 k ∧ Blk wr gx cx 25 ∧ Out (fun k => B ≤ k ∧ k < E) w wr) (fun s4 _ => cx - (intOf s4).toNat)
      case atStart => exact ⟨0, by omega, rfl, HX2.out, HO2.out⟩
      case round =>
        obtain ⟨k, hk, rfl, hb, ho⟩ := hrel
        have HB2 := Lib.hid hb
        have HO := Lib.hid ho
        by_cases hlt : k < cx
        · obtain ⟨⟨u, d1⟩, d2⟩ := hb.cell hlt
          have hz : gx < wr.heap.size := by obtain ⟨_, h, _⟩ := hb; exact lt_of_block h
          clear hb ho
          go_wp2
          go_roundw
          case rel => exact ⟨k + 1, by omega, by go_num, (HB2.out.set _ _ _).alloc _, (HO.out.setCell (fun _ => HgB.out) _).alloc _⟩
          case measure => simp [intOf]; omega
        · clear hb ho
          go_wp2
          go_end0
          exact ⟨rfl, HO.out⟩
end Go.Proofs.Ytnjcnnjdogdbdaa
