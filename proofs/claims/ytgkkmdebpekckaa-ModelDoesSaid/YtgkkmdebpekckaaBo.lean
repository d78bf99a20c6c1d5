/- The contract of Book.Own: all lists that were put in are their owner's. Conditions: as stated at each. -/
import Derived.Test.YtgkkmdebpekckaaBk
namespace Go.Proofs.Ytgkkmdebpekckaa
open Go.RowKit
def BOwnQ (w : World) (N : Nat) (v : Nat → Value) (e : Ending) (w' : World) : Prop := e = .returned (.bool true) ∧ Out (fun k => ∃ r, r < N ∧ (v r).ownBlock = some k) w w'
theorem own_list {w : World} {bk N : Nat} {lv : Value} {v : Nat → Value} {n : Nat → Nat} {F : Nat → Nat → Int} (h : BookS w bk lv N v n F) (hN : N ≤ 1000000) (hn : ∀ r, r < N → n r ≤ 1099511627776) :
    Calls Try.prog 43 #[lv] w (BOwnQ w N v) := by
  obtain ⟨a, cap, rfl, -, ha⟩ := own_form h.long
  rcases ha with h0 | ⟨g, rfl⟩
  · subst h0
    exact (own43_zero a cap w).mono fun e w' ⟨he, hb⟩ => ⟨he, Out.of_below hb⟩
  · by_cases h0 : N = 0
    · subst h0
      exact (own43_zero _ cap w).mono fun e w' ⟨he, hb⟩ => ⟨he, Out.of_below hb⟩
    · exact own43_any g N cap v n F w (by omega) hN (fun i hi => (own_cell h.long (by simp [hi])).1) (fun r hr e => (h.lb g rfl).2 r hr e) h.rows h.dis hn
set_option maxRecDepth 100000 in
set_option maxHeartbeats 2000000 in
theorem book_own (bk N : Nat) (lv : Value) (v : Nat → Value) (n : Nat → Nat) (F : Nat → Nat → Int) (w : World) (h : BookS w bk lv N v n F) (hN : N ≤ 1000000) (hn : ∀ r, r < N → n r ≤ 1099511627776) :
    Calls Try.prog 20 #[.pointer (some ⟨bk, 0, none⟩)] w (BOwnQ w N v) := by
  have HB0 := Lib.hid h
  have HN0 := Lib.hid hn
  have HNb := Lib.hid h.nb
  obtain ⟨la, lc, rfl, -, -⟩ := own_form h.long
  have hh : w.heap[bk]? = some (.cells (bkCells (.slice la N lc)) 64 (0, 0)) := h.hb
  have hO : Out (fun k => ∃ r, r < N ∧ (v r).ownBlock = some k) w w := Out.refl _ _
  have HH0 := Lib.hid hh
  have HO0 := Lib.hid hO
  have c1 : w.cell? ⟨bk, 0, none⟩ = some (.slice la N lc) := by rw [cell_of_row _ bk 0 _ 64 (0, 0) hh]; rfl
  have z1 : bk < w.heap.size := h.lt.1
  clear h hn hh hO
  go_enter Try.func20, Try.ntmps20
  go_wp2_with fail
  refine (own_list (HB0.out) hN HN0.out).mono ?_
  rintro e w1 ⟨rfl, hb⟩
  have hO : Out (fun k => ∃ r, r < N ∧ (v r).ownBlock = some k) w w1 := HO0.out.tr hb
  have hh : w1.heap[bk]? = some (.cells (bkCells (.slice la N lc)) 64 (0, 0)) := hb.heap HH0.out fun ⟨r, hr, e⟩ => HNb.out r hr e
  have HO1 := Lib.hid hO
  have HH1 := Lib.hid hh
  clear c1 z1
  have c1 : w1.cell? ⟨bk, 1, none⟩ = some (.slice none 0 0) := by rw [cell_of_row _ bk 1 _ 64 (0, 0) hh]; rfl
  have z1 : bk < w1.heap.size := lt_of_block hh
  clear hb hO hh HO0 HH0
  go_wp2_with fail
  refine (own44_zero _ _ _).mono ?_
  rintro e w2 ⟨rfl, hb⟩
  have hO : Out (fun k => ∃ r, r < N ∧ (v r).ownBlock = some k) w w2 := HO1.out.then hb
  have hh : w2.heap[bk]? = some (.cells (bkCells (.slice la N lc)) 64 (0, 0)) := (hb.block _ z1).trans HH1.out
  have HO2 := Lib.hid hO
  have HH2 := Lib.hid hh
  clear c1 z1
  have c1 : w2.cell? ⟨bk, 2, none⟩ = some (.slice none 0 0) := by rw [cell_of_row _ bk 2 _ 64 (0, 0) hh]; rfl
  have z1 : bk < w2.heap.size := lt_of_block hh
  clear hb hO hh HO1 HH1
  go_wp2_with fail
  refine (own45_zero _ _ _).mono ?_
  rintro e w3 ⟨rfl, hb⟩
  have hO : Out (fun k => ∃ r, r < N ∧ (v r).ownBlock = some k) w w3 := HO2.out.then hb
  have hh : w3.heap[bk]? = some (.cells (bkCells (.slice la N lc)) 64 (0, 0)) := (hb.block _ z1).trans HH2.out
  have HO3 := Lib.hid hO
  have HH3 := Lib.hid hh
  clear c1 z1
  have c1 : w3.cell? ⟨bk, 3, none⟩ = some (.slice none 0 0) := by rw [cell_of_row _ bk 3 _ 64 (0, 0) hh]; rfl
  have z1 : bk < w3.heap.size := lt_of_block hh
  clear hb hO hh HO2 HH2
  go_wp2_with fail
  refine (own46_zero _ _ _).mono ?_
  rintro e w4 ⟨rfl, hb⟩
  have hO : Out (fun k => ∃ r, r < N ∧ (v r).ownBlock = some k) w w4 := HO3.out.then hb
  have hh : w4.heap[bk]? = some (.cells (bkCells (.slice la N lc)) 64 (0, 0)) := (hb.block _ z1).trans HH3.out
  have HO4 := Lib.hid hO
  have HH4 := Lib.hid hh
  clear c1 z1
  have c1 : w4.cell? ⟨bk, 4, none⟩ = some (.slice none 0 0) := by rw [cell_of_row _ bk 4 _ 64 (0, 0) hh]; rfl
  have z1 : bk < w4.heap.size := lt_of_block hh
  clear hb hO hh HO3 HH3
  go_wp2_with fail
  refine (own47_zero _ _ _).mono ?_
  rintro e w5 ⟨rfl, hb⟩
  have hO : Out (fun k => ∃ r, r < N ∧ (v r).ownBlock = some k) w w5 := HO4.out.then hb
  have hh : w5.heap[bk]? = some (.cells (bkCells (.slice la N lc)) 64 (0, 0)) := (hb.block _ z1).trans HH4.out
  have HO5 := Lib.hid hO
  have HH5 := Lib.hid hh
  clear c1 z1
  have c1 : w5.cell? ⟨bk, 5, none⟩ = some (.slice none 0 0) := by rw [cell_of_row _ bk 5 _ 64 (0, 0) hh]; rfl
  have z1 : bk < w5.heap.size := lt_of_block hh
  clear hb hO hh HO4 HH4
  go_wp2_with fail
  refine (own48_zero _ _ _).mono ?_
  rintro e w6 ⟨rfl, hb⟩
  have hO : Out (fun k => ∃ r, r < N ∧ (v r).ownBlock = some k) w w6 := HO5.out.then hb
  have hh : w6.heap[bk]? = some (.cells (bkCells (.slice la N lc)) 64 (0, 0)) := (hb.block _ z1).trans HH5.out
  have HO6 := Lib.hid hO
  have HH6 := Lib.hid hh
  clear c1 z1
  have c1 : w6.cell? ⟨bk, 6, none⟩ = some (.slice none 0 0) := by rw [cell_of_row _ bk 6 _ 64 (0, 0) hh]; rfl
  have z1 : bk < w6.heap.size := lt_of_block hh
  clear hb hO hh HO5 HH5
  go_wp2_with fail
  refine (own49_zero _ _ _).mono ?_
  rintro e w7 ⟨rfl, hb⟩
  have hO : Out (fun k => ∃ r, r < N ∧ (v r).ownBlock = some k) w w7 := HO6.out.then hb
  have hh : w7.heap[bk]? = some (.cells (bkCells (.slice la N lc)) 64 (0, 0)) := (hb.block _ z1).trans HH6.out
  have HO7 := Lib.hid hO
  have HH7 := Lib.hid hh
  clear c1 z1
  have c1 : w7.cell? ⟨bk, 7, none⟩ = some (.slice none 0 0) := by rw [cell_of_row _ bk 7 _ 64 (0, 0) hh]; rfl
  have z1 : bk < w7.heap.size := lt_of_block hh
  clear hb hO hh HO6 HH6
  go_wp2_with fail
  refine (own50_zero _ _ _).mono ?_
  rintro e w8 ⟨rfl, hb⟩
  have hO : Out (fun k => ∃ r, r < N ∧ (v r).ownBlock = some k) w w8 := HO7.out.then hb
  have hh : w8.heap[bk]? = some (.cells (bkCells (.slice la N lc)) 64 (0, 0)) := (hb.block _ z1).trans HH7.out
  have HO8 := Lib.hid hO
  have HH8 := Lib.hid hh
  clear c1 z1
  have c1 : w8.cell? ⟨bk, 8, none⟩ = some (.slice none 0 0) := by rw [cell_of_row _ bk 8 _ 64 (0, 0) hh]; rfl
  have z1 : bk < w8.heap.size := lt_of_block hh
  clear hb hO hh HO7 HH7
  go_wp2_with fail
  refine (own51_zero _ _ _).mono ?_
  rintro e w9 ⟨rfl, hb⟩
  have hO : Out (fun k => ∃ r, r < N ∧ (v r).ownBlock = some k) w w9 := HO8.out.then hb
  have hh : w9.heap[bk]? = some (.cells (bkCells (.slice la N lc)) 64 (0, 0)) := (hb.block _ z1).trans HH8.out
  have HO9 := Lib.hid hO
  have HH9 := Lib.hid hh
  clear c1 z1
  have c1 : w9.cell? ⟨bk, 9, none⟩ = some (.slice none 0 0) := by rw [cell_of_row _ bk 9 _ 64 (0, 0) hh]; rfl
  have z1 : bk < w9.heap.size := lt_of_block hh
  clear hb hO hh HO8 HH8
  go_wp2_with fail
  refine (own52_zero _ _ _).mono ?_
  rintro e w10 ⟨rfl, hb⟩
  have hO : Out (fun k => ∃ r, r < N ∧ (v r).ownBlock = some k) w w10 := HO9.out.then hb
  have hh : w10.heap[bk]? = some (.cells (bkCells (.slice la N lc)) 64 (0, 0)) := (hb.block _ z1).trans HH9.out
  have HO10 := Lib.hid hO
  have HH10 := Lib.hid hh
  clear c1 z1
  have c1 : w10.cell? ⟨bk, 10, none⟩ = some (.slice none 0 0) := by rw [cell_of_row _ bk 10 _ 64 (0, 0) hh]; rfl
  have z1 : bk < w10.heap.size := lt_of_block hh
  clear hb hO hh HO9 HH9
  go_wp2_with fail
  refine (own53_zero _ _ _).mono ?_
  rintro e w11 ⟨rfl, hb⟩
  have hO : Out (fun k => ∃ r, r < N ∧ (v r).ownBlock = some k) w w11 := HO10.out.then hb
  have hh : w11.heap[bk]? = some (.cells (bkCells (.slice la N lc)) 64 (0, 0)) := (hb.block _ z1).trans HH10.out
  have HO11 := Lib.hid hO
  have HH11 := Lib.hid hh
  clear c1 z1
  have c1 : w11.cell? ⟨bk, 11, none⟩ = some (.slice none 0 0) := by rw [cell_of_row _ bk 11 _ 64 (0, 0) hh]; rfl
  have z1 : bk < w11.heap.size := lt_of_block hh
  clear hb hO hh HO10 HH10
  go_wp2_with fail
  refine (own54_zero _ _ _).mono ?_
  rintro e w12 ⟨rfl, hb⟩
  have hO : Out (fun k => ∃ r, r < N ∧ (v r).ownBlock = some k) w w12 := HO11.out.then hb
  have hh : w12.heap[bk]? = some (.cells (bkCells (.slice la N lc)) 64 (0, 0)) := (hb.block _ z1).trans HH11.out
  have HO12 := Lib.hid hO
  have HH12 := Lib.hid hh
  clear c1 z1
  clear hb hO hh HO11 HH11
  go_wp2
  go_ret
  exact ⟨rfl, HO12.out⟩
end Go.Proofs.Ytgkkmdebpekckaa
