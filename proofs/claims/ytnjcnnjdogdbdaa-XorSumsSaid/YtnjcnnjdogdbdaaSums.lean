/- XorSums: the walk and the row. Conditions: as stated at each. -/
import Derived.Test.YtnjcnnjdogdbdaaBm
import Derived.Test.YtnjcnnjdogdbdaaXv
namespace Go.Proofs.Ytnjcnnjdogdbdaa.Sums
open Go.ChangeShapes Go.WideShapes Go.ChangeAt Go.RowKit
open Go.Proofs.Ytnjcnnjdogdbdaa
set_option maxRecDepth 100000 in
set_option maxHeartbeats 4000000 in
theorem walk (v0 : Value) (N : Nat) (rv0 : Nat → Value) (n : Nat → Nat) (h : Nat → Nat → Nat) (W : World) (hm : CameM W v0 N rv0 n h) (bN : (N : Int) ≤ 140737488351232) (bn : ∀ i, i < N → (n i : Int) ≤ 140737488351232) :
    Calls Try.prog 3 #[v0] W fun e w' => e = .returned (.bool true) ∧ Below W.heap.size W w' := by
  have HR := Lib.hid hm.rows
  obtain ⟨av, cv, rfl, -⟩ := hm.rows.l
  have HBn := Lib.hid bn
  have HLt := Lib.hid (show ∀ i, i < N → ∀ k, k < n i → h i k < 256 from hm.lt)
  clear hm bn
  go_enter Try.func3, Try.ntmps3
  go_wp2_with fail
  refine (much_any _ N _ n h _ HR.out bN HBn.out).mono ?_
  rintro e w1 ⟨bl, rfl, hbl, hb⟩
  have HW1 := Lib.hid hb
  have HR1 := Lib.hid (HR.out.keep hb)
  have HBl := Lib.hid hbl
  clear hb hbl HR HBn
  cases bl with
  | true =>
    go_wp2
    go_ret
    exact ⟨rfl, HW1.out⟩
  | false =>
    have htot := HBl.out rfl
    have hN : N ≤ 100000 := by have := tot_ge N n N; omega
    have HL := Lib.hid (show ∀ i, i < N → n i ≤ 100000 from fun i hi => by have := tot_each N n (j := N) hi; omega)
    have HL2 := Lib.hid (show ∀ i, i < N → n i ≤ 200000 from fun i hi => by have := HL.out i hi; omega)
    obtain ⟨X, hX⟩ : ∃ X, er N n = X := ⟨_, rfl⟩
    obtain ⟨L, hL⟩ : ∃ L, ln N n = L := ⟨_, rfl⟩
    obtain ⟨F, hF⟩ : ∃ F, acc (fun _ => 0) h N = F := ⟨_, rfl⟩
    obtain ⟨E, hE⟩ : ∃ E, ev N n h = E := ⟨_, rfl⟩
    have hLb : L ≤ 100000 := by rw [← hL]; exact ln_le HL.out
    have HXX := Lib.hid hX
    have HLL := Lib.hid hL
    have HFF := Lib.hid hF
    have HEE := Lib.hid hE
    clear HBl bN htot hX hL hF hE
    go_wp2_with fail
    refine (lent_rows _ N _ n h _ HR1.out (by omega) HL2.out).mono ?_
    rintro e w2 ⟨xv, rv, rfl, hx, hb⟩
    have HX2 := Lib.hid hx
    have HV2 := Lib.hid hb
    have HS1 := Lib.hid hb.size
    obtain ⟨gx, cx, p1, p2, rfl, -⟩ := hx.l
    clear hx hb
    go_wp2_with fail
    refine (of_any _ N _ n h _ (HX2.out.rows HLt.out) HL2.out (by omega)).mono ?_
    rintro e w3 H
    obtain ⟨va, rfl, hown, hb⟩ := H.q
    rw [HXX.out]
    rw [HLL.out, HFF.out] at hown
    have HaS := Lib.hid (show ∀ k, va.ownBlock = some k → w2.heap.size ≤ k ∧ k < w3.heap.size from hown.lt)
    have HA3 := Lib.hid hown
    have HX3 := Lib.hid (HX2.out.keep hb)
    have HV3 := Lib.hid (via HV2.out hb)
    have HS2 := Lib.hid hb.size
    clear HX2 HV2 hb H hown
    go_wp2_with fail
    refine (of_any _ N _ n h _ (HX3.out.rows HLt.out) HL2.out (by omega)).mono ?_
    rintro e w4 H
    obtain ⟨vb, rfl, hown, hb⟩ := H.q
    rw [HXX.out]
    rw [HLL.out, HFF.out] at hown
    have HbS := Lib.hid (show ∀ k, vb.ownBlock = some k → w3.heap.size ≤ k ∧ k < w4.heap.size from hown.lt)
    have HB4 := Lib.hid hown
    have HX4 := Lib.hid (HX3.out.keep hb)
    have HA4 := Lib.hid (own_keep hb HA3.out)
    have HV4 := Lib.hid (via HV3.out hb)
    have HS3 := Lib.hid hb.size
    clear HX3 HA3 HV3 hb H hown
    go_wp2_with fail
    refine (even_any _ N _ n h _ (HX4.out.rows HLt.out) HL2.out (by omega)).mono ?_
    rintro e w5 H
    obtain ⟨rfl, hb⟩ := H.q
    rw [HXX.out, HEE.out]
    have HX5 := Lib.hid (HX4.out.keep hb)
    have HA5 := Lib.hid (own_keep hb HA4.out)
    have HB5 := Lib.hid (own_keep hb HB4.out)
    have HV5 := Lib.hid (via HV4.out hb)
    have HS4 := Lib.hid hb.size
    clear HX4 HA4 HB4 HV4 hb H
    go_wp2_with fail
    refine (whole_rows _ _ N rv _ n h _ _ _ HX5.out (HR1.out.keep HV5.out) (by omega) HL2.out).mono ?_
    rintro e w6 ⟨rfl, hb⟩
    have HX6 := Lib.hid (HX5.out.keep hb)
    have HA6 := Lib.hid (own_keep hb HA5.out)
    have HB6 := Lib.hid (own_keep hb HB5.out)
    have HV6 := Lib.hid (via HV5.out hb)
    have HS5 := Lib.hid hb.size
    clear HX5 HA5 HB5 HV5 hb
    go_wp2_with fail
    refine (spoil_rows _ N rv n h _ _ _ HX6.out (by omega)).mono ?_
    rintro e w7 ⟨rfl, ho⟩
    have HA7 := Lib.hid (ho.own HA6.out fun k hk hS => by have := HaS.out k hk; omega)
    have HB7 := Lib.hid (ho.own HB6.out fun k hk hS => by have := HbS.out k hk; have s2 := HS2.out; have s3 := HS3.out; have s4 := HS4.out; have s5 := HS5.out; omega)
    have HV7 := Lib.hid (HV6.out.trans (ho.below (fun _ _ h => h.1) HV6.out.size))
    have HS6 := Lib.hid ho.size
    clear HX6 HA6 HB6 HV6 ho
    go_wp2_with fail
    refine (of_any _ N _ n h _ (HR1.out.keep HV7.out) HL2.out (by omega)).mono ?_
    rintro e w8 H
    obtain ⟨vd, rfl, hown, hb⟩ := H.q
    rw [HXX.out]
    rw [HLL.out, HFF.out] at hown
    have HdS := Lib.hid (show ∀ k, vd.ownBlock = some k → w7.heap.size ≤ k ∧ k < w8.heap.size from hown.lt)
    have HD8 := Lib.hid hown
    have HA8 := Lib.hid (own_keep hb HA7.out)
    have HB8 := Lib.hid (own_keep hb HB7.out)
    have HV8 := Lib.hid (via HV7.out hb)
    have HS7 := Lib.hid hb.size
    clear HA7 HB7 HV7 hb H hown
    go_wp2_with fail
    refine (refof_any _ N _ n h _ (HR1.out.keep HV8.out) HL2.out (by omega)).mono ?_
    rintro e w9 H
    obtain ⟨vw, rfl, hown, hb⟩ := H.q
    rw [HXX.out]
    rw [HLL.out, HFF.out] at hown
    have HwS := Lib.hid (show ∀ k, vw.ownBlock = some k → w8.heap.size ≤ k ∧ k < w9.heap.size from hown.lt)
    have HW9 := Lib.hid hown
    have HA9 := Lib.hid (own_keep hb HA8.out)
    have HB9 := Lib.hid (own_keep hb HB8.out)
    have HD9 := Lib.hid (own_keep hb HD8.out)
    have HV9 := Lib.hid (via HV8.out hb)
    have HS8 := Lib.hid hb.size
    clear HA8 HB8 HD8 HV8 hb H hown
    go_wp2_with fail
    refine (refeven_any _ N _ n h _ (HR1.out.keep HV9.out) HL2.out (by omega)).mono ?_
    rintro e w10 H
    obtain ⟨rfl, hb⟩ := H.q
    rw [HXX.out, HEE.out]
    have HA10 := Lib.hid (own_keep hb HA9.out)
    have HB10 := Lib.hid (own_keep hb HB9.out)
    have HD10 := Lib.hid (own_keep hb HD9.out)
    have HW10 := Lib.hid (own_keep hb HW9.out)
    have HV10 := Lib.hid (via HV9.out hb)
    have HS9 := Lib.hid hb.size
    clear HA9 HB9 HD9 HW9 HV9 hb H
    go_wp2_with fail
    refine (known_true _).mono ?_
    rintro e w11 ⟨rfl, hb⟩
    have HA11 := Lib.hid (own_keep hb HA10.out)
    have HB11 := Lib.hid (own_keep hb HB10.out)
    have HD11 := Lib.hid (own_keep hb HD10.out)
    have HW11 := Lib.hid (own_keep hb HW10.out)
    have HV11 := Lib.hid (via HV10.out hb)
    have HS10 := Lib.hid hb.size
    clear HA10 HB10 HD10 HW10 HV10 hb
    have hk : Bk (w11.alloc (.cells (bkCells (.slice none 0 0)) 50)) w11.heap.size 0 (fun _ => False) (fun _ => False) := Bk.start (heap_alloc_new _ _)
    have hal : Below w11.heap.size w11 (w11.alloc (.cells (bkCells (.slice none 0 0)) 50)) := (Below.refl _ _).alloc (Nat.le_refl _) _
    have HK := Lib.hid hk
    have HAL := Lib.hid hal
    clear hk hal
    go_wp2_with fail
    refine (bk_put (G := fun k => (F k : Int)) HK.out (own_keep HAL.out HA11.out) (by omega) (fun k hk => ⟨?_, id, id⟩) (by omega)).mono ?_
    · have h1 := HaS.out k hk; have s2 := HS2.out; have s3 := HS3.out; have s4 := HS4.out; have s5 := HS5.out; have s6 := HS6.out; have s7 := HS7.out; have s8 := HS8.out; have s9 := HS9.out; have s10 := HS10.out; omega
    rintro e w12 ⟨rfl, hk, ho⟩
    have hsz : w11.heap.size + 1 ≤ w12.heap.size := by have h1 := ho.size; simp at h1; exact h1
    have HQ := Lib.hid (show ∀ k, (False ∨ (w11.alloc (.cells (bkCells (.slice none 0 0)) 50)).heap.size ≤ k) → w11.heap.size < k from fun k h => h.elim False.elim fun h => by simp at h; exact h)
    have hb := HAL.out.trans (ho.below (B := w11.heap.size) (fun k _ h => h.elim (fun h => by omega) False.elim) (by simp))
    have HK12 := Lib.hid hk
    have HA12 := Lib.hid (own_keep hb HA11.out)
    have HB12 := Lib.hid (own_keep hb HB11.out)
    have HD12 := Lib.hid (own_keep hb HD11.out)
    have HW12 := Lib.hid (own_keep hb HW11.out)
    have HV12 := Lib.hid (via HV11.out hb)
    have HS11 := Lib.hid hb.size
    clear HA11 HB11 HD11 HW11 HV11 hb hk ho HK HAL
    go_wp2_with fail
    refine (bk_put (G := fun k => (F k : Int)) HK12.out HB12.out (by omega) (fun k hk => ⟨?_, fun h => ?_, fun h => ?_⟩) (by omega)).mono ?_
    · have h1 := HbS.out k hk; have s2 := HS2.out; have s3 := HS3.out; have s4 := HS4.out; have s5 := HS5.out; have s6 := HS6.out; have s7 := HS7.out; have s8 := HS8.out; have s9 := HS9.out; have s10 := HS10.out; have s11 := HS11.out; omega
    · have h1 := HbS.out k hk; have s2 := HS2.out; have s3 := HS3.out; have s4 := HS4.out; have s5 := HS5.out; have s6 := HS6.out; have s7 := HS7.out; have s8 := HS8.out; have s9 := HS9.out; have s10 := HS10.out; have s11 := HS11.out
      rcases h with h | h
      · exact h
      · have h2 := HaS.out k h; omega
    · have h1 := HbS.out k hk; have s2 := HS2.out; have s3 := HS3.out; have s4 := HS4.out; have s5 := HS5.out; have s6 := HS6.out; have s7 := HS7.out; have s8 := HS8.out; have s9 := HS9.out; have s10 := HS10.out; have s11 := HS11.out
      have h0 := HQ.out k h
      omega
    rintro e w13 ⟨rfl, hk, ho⟩
    have hO : Out (fun k => w11.heap.size ≤ k) w12 w13 := ho.mono fun k _ h => by
      have s2 := HS2.out; have s3 := HS3.out; have s4 := HS4.out; have s5 := HS5.out; have s6 := HS6.out; have s7 := HS7.out; have s8 := HS8.out; have s9 := HS9.out; have s10 := HS10.out; have s11 := HS11.out
      rcases h with h | h
      · omega
      · have := HQ.out k h; omega
    have HK13 := Lib.hid hk
    clear hk ho
    have HA13 := Lib.hid (hO.own HA12.out fun k hk h => by have h1 := HaS.out k hk; have s2 := HS2.out; have s3 := HS3.out; have s4 := HS4.out; have s5 := HS5.out; have s6 := HS6.out; have s7 := HS7.out; have s8 := HS8.out; have s9 := HS9.out; have s10 := HS10.out; have s11 := HS11.out; omega)
    have HB13 := Lib.hid (hO.own HB12.out fun k hk h => by have h1 := HbS.out k hk; have s2 := HS2.out; have s3 := HS3.out; have s4 := HS4.out; have s5 := HS5.out; have s6 := HS6.out; have s7 := HS7.out; have s8 := HS8.out; have s9 := HS9.out; have s10 := HS10.out; have s11 := HS11.out; omega)
    have HD13 := Lib.hid (hO.own HD12.out fun k hk h => by have h1 := HdS.out k hk; have s2 := HS2.out; have s3 := HS3.out; have s4 := HS4.out; have s5 := HS5.out; have s6 := HS6.out; have s7 := HS7.out; have s8 := HS8.out; have s9 := HS9.out; have s10 := HS10.out; have s11 := HS11.out; omega)
    have HW13 := Lib.hid (hO.own HW12.out fun k hk h => by have h1 := HwS.out k hk; have s2 := HS2.out; have s3 := HS3.out; have s4 := HS4.out; have s5 := HS5.out; have s6 := HS6.out; have s7 := HS7.out; have s8 := HS8.out; have s9 := HS9.out; have s10 := HS10.out; have s11 := HS11.out; omega)
    have HV13 := Lib.hid (HV12.out.trans (hO.below (B := w1.heap.size) (fun k _ h => by have h1 := HV12.out.size; have h2 := HS1.out; have s2 := HS2.out; have s3 := HS3.out; have s4 := HS4.out; have s5 := HS5.out; have s6 := HS6.out; have s7 := HS7.out; have s8 := HS8.out; have s9 := HS9.out; have s10 := HS10.out; have s11 := HS11.out; omega) HV12.out.size))
    have HS12 := Lib.hid hO.size
    clear HA12 HB12 HD12 HW12 HV12 hO HK12
    go_wp2_with fail
    refine (bk_put (G := fun k => (F k : Int)) HK13.out HD13.out (by omega) (fun k hk => ⟨?_, fun h => ?_, fun h => ?_⟩) (by omega)).mono ?_
    · have h1 := HdS.out k hk; have s2 := HS2.out; have s3 := HS3.out; have s4 := HS4.out; have s5 := HS5.out; have s6 := HS6.out; have s7 := HS7.out; have s8 := HS8.out; have s9 := HS9.out; have s10 := HS10.out; have s11 := HS11.out; have s12 := HS12.out; omega
    · have h1 := HdS.out k hk; have s2 := HS2.out; have s3 := HS3.out; have s4 := HS4.out; have s5 := HS5.out; have s6 := HS6.out; have s7 := HS7.out; have s8 := HS8.out; have s9 := HS9.out; have s10 := HS10.out; have s11 := HS11.out; have s12 := HS12.out
      rcases h with (h | h) | h
      · exact h
      · have h2 := HaS.out k h; omega
      · have h2 := HbS.out k h; omega
    · have h1 := HdS.out k hk; have s2 := HS2.out; have s3 := HS3.out; have s4 := HS4.out; have s5 := HS5.out; have s6 := HS6.out; have s7 := HS7.out; have s8 := HS8.out; have s9 := HS9.out; have s10 := HS10.out; have s11 := HS11.out; have s12 := HS12.out
      rcases h with h | h
      · have h0 := HQ.out k h
        omega
      · omega
    rintro e w14 ⟨rfl, hk, ho⟩
    have hO : Out (fun k => w11.heap.size ≤ k) w13 w14 := ho.mono fun k _ h => by
      have s2 := HS2.out; have s3 := HS3.out; have s4 := HS4.out; have s5 := HS5.out; have s6 := HS6.out; have s7 := HS7.out; have s8 := HS8.out; have s9 := HS9.out; have s10 := HS10.out; have s11 := HS11.out; have s12 := HS12.out
      rcases h with h | h
      · omega
      · rcases h with h | h
        · have := HQ.out k h; omega
        · omega
    have HK14 := Lib.hid hk
    clear hk ho
    have HA14 := Lib.hid (hO.own HA13.out fun k hk h => by have h1 := HaS.out k hk; have s2 := HS2.out; have s3 := HS3.out; have s4 := HS4.out; have s5 := HS5.out; have s6 := HS6.out; have s7 := HS7.out; have s8 := HS8.out; have s9 := HS9.out; have s10 := HS10.out; have s11 := HS11.out; have s12 := HS12.out; omega)
    have HB14 := Lib.hid (hO.own HB13.out fun k hk h => by have h1 := HbS.out k hk; have s2 := HS2.out; have s3 := HS3.out; have s4 := HS4.out; have s5 := HS5.out; have s6 := HS6.out; have s7 := HS7.out; have s8 := HS8.out; have s9 := HS9.out; have s10 := HS10.out; have s11 := HS11.out; have s12 := HS12.out; omega)
    have HD14 := Lib.hid (hO.own HD13.out fun k hk h => by have h1 := HdS.out k hk; have s2 := HS2.out; have s3 := HS3.out; have s4 := HS4.out; have s5 := HS5.out; have s6 := HS6.out; have s7 := HS7.out; have s8 := HS8.out; have s9 := HS9.out; have s10 := HS10.out; have s11 := HS11.out; have s12 := HS12.out; omega)
    have HW14 := Lib.hid (hO.own HW13.out fun k hk h => by have h1 := HwS.out k hk; have s2 := HS2.out; have s3 := HS3.out; have s4 := HS4.out; have s5 := HS5.out; have s6 := HS6.out; have s7 := HS7.out; have s8 := HS8.out; have s9 := HS9.out; have s10 := HS10.out; have s11 := HS11.out; have s12 := HS12.out; omega)
    have HV14 := Lib.hid (HV13.out.trans (hO.below (B := w1.heap.size) (fun k _ h => by have h1 := HV13.out.size; have h2 := HS1.out; have s2 := HS2.out; have s3 := HS3.out; have s4 := HS4.out; have s5 := HS5.out; have s6 := HS6.out; have s7 := HS7.out; have s8 := HS8.out; have s9 := HS9.out; have s10 := HS10.out; have s11 := HS11.out; have s12 := HS12.out; omega) HV13.out.size))
    have HS13 := Lib.hid hO.size
    clear HA13 HB13 HD13 HW13 HV13 hO HK13
    have HB14' := Lib.hid (HK14.out.mono (P' := fun k => w1.heap.size ≤ k) (Q' := fun _ => True) (fun k _ h => by
      have h2 := HS1.out; have s2 := HS2.out; have s3 := HS3.out; have s4 := HS4.out; have s5 := HS5.out; have s6 := HS6.out; have s7 := HS7.out; have s8 := HS8.out; have s9 := HS9.out; have s10 := HS10.out; have s11 := HS11.out; have s12 := HS12.out; have s13 := HS13.out
      rcases h with ((h | h) | h) | h
      · exact h.elim
      · have := HaS.out k h; omega
      · have := HbS.out k h; omega
      · have := HdS.out k h; omega) fun _ _ _ => trivial)
    clear HK14 HQ HaS HbS HdS HwS
    have HK14 := Lib.hid HB14'.out
    clear HB14'
    clear HS2
    clear HS3
    clear HS4
    clear HS5
    clear HS6
    clear HS7
    clear HS8
    clear HS9
    clear HS10
    clear HS11
    clear HS12
    clear HS13
    go_wp2_with fail
    refine (same_V (by omega) (ownBts HA14.out) (ownBts HW14.out)).mono ?_
    rintro e w15 ⟨rfl, hb⟩
    have HB15 := Lib.hid (own_keep hb HB14.out)
    have HD15 := Lib.hid (own_keep hb HD14.out)
    have HW15 := Lib.hid (own_keep hb HW14.out)
    have HK15 := Lib.hid (HK14.out.keep hb)
    have HV15 := Lib.hid (via HV14.out hb)
    have HS14 := Lib.hid hb.size
    clear HA14 HB14 HD14 HW14 HK14 HV14 hb
    go_wp2_with fail
    refine (same_V (by omega) (ownBts HB15.out) (ownBts HW15.out)).mono ?_
    rintro e w16 ⟨rfl, hb⟩
    have HD16 := Lib.hid (own_keep hb HD15.out)
    have HW16 := Lib.hid (own_keep hb HW15.out)
    have HK16 := Lib.hid (HK15.out.keep hb)
    have HV16 := Lib.hid (via HV15.out hb)
    have HS15 := Lib.hid hb.size
    clear HB15 HD15 HW15 HK15 HV15 hb
    go_wp2_with fail
    refine (same_V (by omega) (ownBts HD16.out) (ownBts HW16.out)).mono ?_
    rintro e w17 ⟨rfl, hb⟩
    have HW17 := Lib.hid (own_keep hb HW16.out)
    have HK17 := Lib.hid (HK16.out.keep hb)
    have HV17 := Lib.hid (via HV16.out hb)
    have HS16 := Lib.hid hb.size
    clear HD16 HW16 HK16 HV16 hb
    go_wp2_with fail
    refine (bk_own HK17.out (by omega)).mono ?_
    rintro e w18 ⟨rfl, ho⟩
    have HZ := Lib.hid (HW1.out.trans ((HV17.out.trans (ho.below (fun _ _ h => h) HV17.out.size)).mono HW1.out.size))
    clear ho HK17 HV17 HW17
    go_wp2
    go_ret
    exact ⟨rfl, HZ.out⟩
theorem kinds3 : ∀ t ∈ Try.f3.params.toList, Try.prog.readableRec t = true ∧ t < Try.prog.types.size := by
  rw [Try.params3]
  intro t ht
  simp only [List.mem_cons, List.not_mem_nil, or_false] at ht
  subst ht
  all_goals exact ⟨by kernel_rfl, of_decide_eq_true (by kernel_rfl)⟩
set_option maxRecDepth 100000 in
theorem lifted (os : Os) (started : os.Started) (H : Type) (enc : TypeId × Value → H) :
    ReturnsInHanded {} Try.checked os 3 .any (Rows.xorSumsSpec.pre6 enc Try.prog Try.f3 Rows.xorSumsRow.domain false) (Rows.xorSumsSpec.post enc Try.prog Try.f3 false true false false) := by
  refine returnsInHanded_of_change_sized (C := Try.checked) own started (by kernel_rfl) Try.func3
    (ChangeSpec.witness6 (enc := enc) (C := Try.checked) false ⟨#[], #[.slice none 0 0], []⟩ 8 (by kernel_rfl) (by kernel_rfl) (by kernel_rfl) (by kernel_rfl)) ?_
  intro W base args ds gs before hval0 hW hcnd hsz0 _
  have hval : ∀ (j : Nat) t v, Try.f3.params[j]? = some t → args[j]? = some v → Value.okWide Try.prog W .any base t v := hval0
  have hW' := hW
  obtain ⟨p, q, hA0, hV, rfl, hfz, hnd⟩ := hW
  have hA : DataW.TrodAll enc Try.prog W 0 (fun _ => true) true Try.f3.params.toList args.toList ds p := hA0
  have hA1 := hA
  have hsz : (DataW.weightsEach Try.prog (Try.f3.params.toList ++ []) (ds ++ gs)).all (· ≤ reachBytes) = true := hsz0
  rw [Try.params3] at hA hval hsz
  obtain ⟨v0, vs0, d0, ds0, p0, q0, hargs, rfl, rfl, h0, r0⟩ := trodAll_cons hA
  obtain ⟨rfl, rfl, rfl⟩ := trodAll_nil r0
  obtain rfl : args = #[v0] := by cases args; simp_all
  obtain ⟨rfl, rfl⟩ := trodVars_none hV
  obtain ⟨N0, rv0, n0, f0, c0, e0⟩ := open_mat (hval 0 22 v0 rfl rfl) h0
  have b0 := bndM hsz (j := 0) rfl rfl e0
  clear hval0 hsz0
  refine (walk v0 N0 rv0 n0 f0 W c0 b0.1 b0.2).mono fun e W' ⟨he, bel⟩ => ?_
  subst he
  exact ⟨_, rfl, _, _, _, [], _, [], hW', trodAll_mk1 (shut_bool Try.underlying4 _), carryAll laidOut bel _ _ _ _ kinds3 hA1 (fun x hx => hW'.lt x (List.mem_append.2 (.inl hx))), rfl, bel.frame _, fun h => by cases h⟩
theorem proved : Rows.XorSumsSaid :=
  OpenClaim.holds_of_wide 3 Try.f3 rfl rfl rfl rfl rfl rfl rfl ⟨rfl, rfl, rfl, rfl, rfl⟩ rfl rfl rfl rfl rfl (by kernel_rfl) Try.func3 (by kernel_rfl)
    (of_decide_eq_true (by kernel_rfl)) (by unfold Func.isWrapper; first | (rw [if_pos (by decide +kernel)]; kernel_rfl) | (rw [if_neg (by decide +kernel)]; exact ⟨rfl, rfl⟩))
    (fun os started H enc _ => lifted os started H enc)
#print axioms proved
end Go.Proofs.Ytnjcnnjdogdbdaa.Sums
