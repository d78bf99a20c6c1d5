/- Missing, the program's and the reference's. Conditions: as stated at each. -/
import Derived.Test.YtnjcnnjdogdbdaaXv
namespace Go.Proofs.Ytnjcnnjdogdbdaa
open Go.RowKit
set_option maxHeartbeats 400000 in
theorem refmissing_bad (v : Value) (N : Nat) (rv : Nat → Value) (n : Nat → Nat) (h : Nat → Nat → Nat) (w : World) (hr : Rows2 w v N rv n h) (a : Int) (ha : a < 0 ∨ (N : Int) ≤ a ∨ N < 2) :
    Calls Try.prog 26 #[v, .int .i64 a] w (BadP w 1) := by
  obtain ⟨av, cap, rfl, -⟩ := hr.l
  clear hr
  go_enter Try.func26, Try.ntmps26
  by_cases h0 : a < 0
  · go_wp2
    go_ret2
    exact ⟨rfl, Below.refl _ _⟩
  · by_cases h1 : (N : Int) ≤ a
    · go_wp2
      go_ret2
      exact ⟨rfl, Below.refl _ _⟩
    · have h2 : (N : Int) < 2 := by omega
      go_wp2
      go_ret2
      exact ⟨rfl, Below.refl _ _⟩
/-- How many of the first i places are not a. -/
def cnt (a i : Nat) : Nat := if i ≤ a then i else i - 1
theorem cnt_snoc {a i : Nat} (hne : i ≠ a) (rv : Nat → Value) : ((List.range (cnt a i)).map (but a rv)) ++ [rv i] = (List.range (cnt a (i + 1))).map (but a rv) := by
  have e1 : cnt a (i + 1) = cnt a i + 1 := by unfold cnt; split <;> split <;> omega
  have e2 : but a rv (cnt a i) = rv i := by
    unfold but cnt
    by_cases h : i ≤ a
    · rw [if_pos h, if_pos (by omega)]
    · rw [if_neg h, if_neg (by omega)]
      congr 1
      omega
  rw [e1, List.range_succ, List.map_append, List.map_singleton, e2]
theorem cnt_same {a i : Nat} (h : i = a) : cnt a (i + 1) = cnt a i := by unfold cnt; split <;> split <;> omega
theorem cnt_end {a N : Nat} (h : a < N) : cnt a N = N - 1 := by unfold cnt; rw [if_neg (by omega)]
theorem cnt_succ {a i : Nat} (hne : i ≠ a) : cnt a i + 1 = cnt a (i + 1) := by unfold cnt; split <;> split <;> omega
theorem cnt_le (a i : Nat) : cnt a i ≤ i := by unfold cnt; split <;> omega
set_option maxRecDepth 100000 in
set_option maxHeartbeats 1000000 in
theorem refmissing_any (v : Value) (N : Nat) (rv : Nat → Value) (n : Nat → Nat) (h : Nat → Nat → Nat) (w : World) (hr : Rows2 w v N rv n h) (a : Nat) (ha : a < N) (h2 : 2 ≤ N) (hL : ∀ i, i < N → n i ≤ 200000) (hN : N ≤ 200000) :
    Calls Try.prog 26 #[v, .int .i64 a] w (OfP (N - 1) (but a n) (but a h) w) := by
  have HR := Lib.hid hr
  obtain ⟨i1, hi1, hy0, hy1, hy2⟩ := info_parts Try.info25
  obtain ⟨av, cap, rfl, hl⟩ := hr.l
  rcases hl with hl | ⟨b, o, rfl, hc⟩
  · omega
  have HC := Lib.hid hc
  have HL := Lib.hid hL
  clear hr hc hL
  have t1 : ¬ (a : Int) < 0 := by omega
  have t2 : ¬ (N : Int) ≤ a := by omega
  have t3 : ¬ (N : Int) < 2 := by omega
  go_enter Try.func26, Try.ntmps26
  go_wp2
  go_loopw [6, 7] (fun s6 s7 wr => ∃ i : Nat, i ≤ N ∧ s7 = .int .i64 i ∧ wr.ownsRow w.heap.size 25 1 s6 (cnt a i) ((List.range (cnt a i)).map (but a rv)) ∧ Below w.heap.size w wr) (fun _ s7 _ => N - (intOf s7).toNat)
  case atStart => exact ⟨0, by omega, rfl, World.ownsRow_nil _ _ _ _, Below.refl _ _⟩
  case round =>
    obtain ⟨i, hi, rfl, ho, hb⟩ := hrel
    have HO := Lib.hid ho
    have HB := Lib.hid hb
    have hcl := cnt_le a i
    clear ho hb
    by_cases hlt : i < N
    · have hce : wr.cell? ⟨b, o + i, none⟩ = some (rv i) := by
        rw [HB.out.cell (p := ⟨b, o + i, none⟩) (World.block_lt_of_cell? w _ (HC.out i hlt))]; exact HC.out i hlt
      obtain ⟨ar, cr', hrv, -⟩ := HR.out.b i hlt
      rw [hrv] at hce
      have HRV := Lib.hid hrv
      clear hrv
      by_cases hia : i = a
      · have hne : ((i : Int) != (a : Int)) = false := by simp [hia]
        have HIA := Lib.hid hia
        clear hia
        go_wp2
        go_roundw
        case rel => exact ⟨i + 1, by omega, by go_num, by rw [cnt_same HIA.out]; exact HO.out, HB.out⟩
        case measure => simp [intOf]; omega
      · have hne : ((i : Int) != (a : Int)) = true := by rw [bne_iff_ne]; omega
        go_wp2_with (first | (at_builtin; refine wpList_append_own _ rfl _ _ 22 rfl w.heap.size 25 i1 (.slice none 0 0) 1 24 Try.underlying22 hi1 hy0 hy1 hy2 rfl (by decide) _ (cnt a i) _ rfl (HO.out.alloc _) ⟨wr.heap.size, 0, none⟩ 1 1 [.slice ar (n i) cr'] rfl rfl ?c1 ?c2 ?c4 ?c5 ?c6 ?_))
        case c1 => exact new_cells _ _ _
        case c2 => exact one_cell rfl
        case c4 => unfold maxLen; omega
        case c5 => omega
        case c6 => have h1 := HB.out.size; simp; omega
        intro v' w' hown hgr _
        have hbel : Below w.heap.size w w' := (HB.out.alloc HB.out.size _).grown hgr (by have h1 := HB.out.size; simp; omega) fun k hk => (HO.out.lt k hk).1
        rw [← HRV.out, cnt_snoc hia, cnt_succ hia] at hown
        have HO2 := Lib.hid hown
        have HB2 := Lib.hid hbel
        clear hown hgr hbel
        go_wp2
        go_roundw
        case rel => exact ⟨i + 1, by omega, by go_num, HO2.out, HB2.out⟩
        case measure => simp [intOf]; omega
    · obtain rfl : i = N := by omega
      have ho := HO.out
      rw [cnt_end ha] at ho
      have hR : Rows2 wr u6 (i - 1) (but a rv) (but a n) (but a h) := ⟨ownRws ho fun j hj => by simp [hj], fun j hj => by
        unfold but; split
        · exact (HR.out.b _ (by omega)).keep HB.out
        · exact (HR.out.b _ (by omega)).keep HB.out, fun j hj => by
        unfold but; split
        · exact HR.out.lt _ (by omega)
        · exact HR.out.lt _ (by omega)⟩
      have HOf := Lib.hid ((refof_any u6 (i - 1) _ _ _ _ hR (fun j hj => by unfold but; split; exact HL.out _ (by omega); exact HL.out _ (by omega)) (by omega)).mono fun e w' H => H.back HB.out)
      obtain ⟨xa, xc, rfl, -⟩ := own_form ho
      clear ho hR
      go_wp2_with fail
      refine HOf.out.mono ?_
      rintro e w2 H
      obtain ⟨v2, x2, rfl⟩ := H.form
      have HQ := Lib.hid H
      clear H
      go_wp2
      go_ret2
      exact HQ.out
def mer (N : Nat) (n : Nat → Nat) (a : Int) : Int := if 0 ≤ a ∧ a < N then er (N - 1) (but a.toNat n) else 1
def mln (N : Nat) (n : Nat → Nat) (a : Int) : Nat := if 0 ≤ a ∧ a < N then ln (N - 1) (but a.toNat n) else 0
def mF (N : Nat) (h : Nat → Nat → Nat) (a : Int) : Nat → Nat := acc (fun _ => 0) (but a.toNat h) (N - 1)
theorem mln_le {N : Nat} {n : Nat → Nat} {B : Nat} (h : ∀ i, i < N → n i ≤ B) (a : Int) : mln N n a ≤ B := by
  unfold mln
  split
  · exact ln_le fun i hi => by unfold but; split; exact h _ (by omega); exact h _ (by omega)
  · exact Nat.zero_le _
theorem BadP.q {x : Int} {F : Nat → Nat} {w : World} {e : Ending} {w' : World} (H : BadP w x e w') : OfQ x 0 F w e w' := ⟨_, H.1, World.ownsRow_nil _ _ _ _, H.2⟩
theorem miss_q (b o N cap : Nat) (rv : Nat → Value) (n : Nat → Nat) (h : Nat → Nat → Nat) (w : World) (hr : Rows2 w (.slice (some ⟨b, o, none⟩) N cap) N rv n h) (a : Int) (hcap : N ≤ cap) (hL : ∀ i, i < N → n i ≤ 200000) (hN : N ≤ 200000) :
    Calls Try.prog 25 #[.slice (some ⟨b, o, none⟩) N cap, .int .i64 a] w (OfQ (mer N n a) (mln N n a) (mF N h a) w) := by
  unfold mer mln mF
  by_cases ha : 0 ≤ a ∧ a < N
  · rw [if_pos ha, if_pos ha]
    obtain ⟨k, rfl⟩ := Int.eq_ofNat_of_zero_le ha.1
    exact (missing_any b o N cap rv n h w hr k (by omega) hcap hL hN).mono fun e w' H => H.q
  · rw [if_neg ha, if_neg ha]
    exact (missing_bad _ N rv n h w hr a (by omega)).mono fun e w' H => H.q
theorem refmiss_q (v : Value) (N : Nat) (rv : Nat → Value) (n : Nat → Nat) (h : Nat → Nat → Nat) (w : World) (hr : Rows2 w v N rv n h) (a : Int) (hL : ∀ i, i < N → n i ≤ 200000) (hN : N ≤ 200000) :
    Calls Try.prog 26 #[v, .int .i64 a] w (OfQ (mer N n a) (mln N n a) (mF N h a) w) := by
  unfold mer mln mF
  by_cases ha : 0 ≤ a ∧ a < N
  · rw [if_pos ha, if_pos ha]
    obtain ⟨k, rfl⟩ := Int.eq_ofNat_of_zero_le ha.1
    by_cases h2 : 2 ≤ N
    · exact (refmissing_any v N rv n h w hr k (by omega) h2 hL hN).mono fun e w' H => H.q
    · have e1 : N - 1 = 0 := by omega
      have e2 : ln (N - 1) (but (k : Int).toNat n) = 0 := by unfold ln; rw [e1, er_zero]; rfl
      rw [e2, e1, er_zero]
      exact (refmissing_bad v N rv n h w hr k (.inr (.inr (by omega)))).mono fun e w' H => H.q
  · rw [if_neg ha, if_neg ha]
    exact (refmissing_bad v N rv n h w hr a (by omega)).mono fun e w' H => H.q
end Go.Proofs.Ytnjcnnjdogdbdaa
