/- XorPatches: the walk and the row. Conditions: as stated at each. -/
import Derived.Test.YtnjcnnjdogdbdaaBm
import Derived.Test.YtnjcnnjdogdbdaaXv
namespace Go.Proofs.Ytnjcnnjdogdbdaa.Patches
open Go.ChangeShapes Go.WideShapes Go.ChangeAt Go.RowKit
open Go.Proofs.Ytnjcnnjdogdbdaa
theorem er3 (a b c : Nat) : er 3 (sel3 a b c) = if b = a ∧ c = a then 0 else 4 := by
  by_cases h : b = a ∧ c = a
  · rw [if_pos h]
    exact er_ok (by omega) (three rfl h.1 h.2)
  · rw [if_neg h]
    by_cases h1 : b = a
    · exact er_bad (j := 2) (by omega) fun e => h ⟨h1, e⟩
    · exact er_bad (j := 1) (by omega) h1
theorem er3_turn (a b c : Nat) : er 3 (sel3 c a b) = er 3 (sel3 a b c) := by
  rw [er3, er3]
  by_cases h : b = a ∧ c = a
  · rw [if_pos h, if_pos (by omega)]
  · rw [if_neg h, if_neg (by omega)]
theorem ln3_turn (a b c : Nat) : ln 3 (sel3 c a b) = ln 3 (sel3 a b c) := by
  refine ln_congr (er3_turn a b c) fun h => ?_
  rw [er3] at h
  by_cases h1 : a = c ∧ b = c
  · exact h1.1.symm
  · rw [if_neg h1] at h; cases h
theorem acc3_turn (f g h : Nat → Nat) : acc (fun _ => 0) (sel3 h f g) 3 = acc (fun _ => 0) (sel3 f g h) 3 := by
  rw [acc3, acc3]
  funext k
  simp only [xo]
  rw [Nat.xor_comm (h k), Nat.xor_assoc, Nat.xor_comm (h k), ← Nat.xor_assoc]
set_option maxRecDepth 100000 in
set_option maxHeartbeats 2000000 in
theorem walk (va vb vc : Value) (na nb nc : Nat) (fa fb fc : Nat → Nat) (W : World) (ha : Came W va na fa) (hb : Came W vb nb fb) (hc : Came W vc nc fc) (la : Lt na fa) (lb : Lt nb fb) (lc : Lt nc fc) (ba : (na : Int) ≤ 140737488351232) (bb : (nb : Int) ≤ 140737488351232) (bc : (nc : Int) ≤ 140737488351232) :
    Calls Try.prog 4 #[va, vb, vc] W fun e w' => e = .returned (.bool true) ∧ Below W.heap.size W w' := by
  obtain ⟨aa, ca, rfl, -⟩ := ha.form
  obtain ⟨ab, cb, rfl, -⟩ := hb.form
  obtain ⟨ac, cc, rfl, -⟩ := hc.form
  have HR := Lib.hid (rows3 W _ _ _ na nb nc fa fb fc ha.bts hb.bts hc.bts la lb lc)
  obtain ⟨n, hn⟩ : ∃ n, n = sel3 na nb nc := ⟨_, rfl⟩
  obtain ⟨h, hh⟩ : ∃ h, h = sel3 fa fb fc := ⟨_, rfl⟩
  have HT := Lib.hid (show ∀ bl, (bl = false → tot 3 (sel3 na nb nc) 3 ≤ 100000) → bl = false → ∀ i, i < 3 → n i ≤ 100000 from fun bl hbl hf i hi => by
    have := tot_each 3 (sel3 na nb nc) (j := 3) hi
    have := hbl hf
    rw [hn]; omega)
  have HN := Lib.hid hn
  have HH := Lib.hid hh
  clear ha hb hc la lb lc
  go_enter Try.func4, Try.ntmps4
  go_wp2_with fail
  have hc := much_any _ 3 _ _ _ _ HR.out (by omega) (le3 ba bb bc)
  refine hc.mono ?_
  clear hc
  rintro e w1 ⟨bl, rfl, hbl, hb⟩
  have HW1 := Lib.hid (via (bal (Below.refl W.heap.size W) _) hb)
  have HR1 := Lib.hid (HR.out.keep hb)
  have HBl := Lib.hid (HT.out bl hbl)
  clear hb hbl HR HT hn hh
  cases bl with
  | true =>
    go_wp2
    go_ret
    exact ⟨rfl, HW1.out⟩
  | false =>
    have HL := Lib.hid (HBl.out rfl)
    rw [← HN.out, ← HH.out] at HR1
    clear HBl ba bb bc
    go_wp2_with fail
    refine (lent_rows _ 3 _ n h _ HR1.out (by omega) fun i hi => by have := HL.out i hi; omega).mono ?_
    rintro e w2 ⟨xv, rv, rfl, hx, hb⟩
    have HX2 := Lib.hid hx
    have HV2 := Lib.hid hb
    obtain ⟨gx, cx, p1, p2, rfl, ho, -⟩ := hx.l
    have hcell : ∀ i, i < 3 → w2.cell? ⟨gx, i, none⟩ = some (rv i) := fun i hi => (own_cell ho (by rw [List.getElem?_append_left (by simpa using hi)]; simp [hi])).1
    have k0 := hcell 0 (by omega)
    have k1 := hcell 1 (by omega)
    have k2 := hcell 2 (by omega)
    have HLt := Lib.hid (show ∀ i, i < 3 → ∀ k, k < n i → h i k < 256 from HR1.out.lt)
    have H24 := Lib.hid (show ∀ w', Below w2.heap.size w2 w' → Calls Try.prog 24 #[rv 0, rv 1, rv 2] w' (OfQ (er 3 n) (ln 3 n) (acc (fun _ => 0) h 3) w') from fun w' hb =>
      (patch_any _ _ _ rv n h w' rfl rfl rfl (fun i hi => ((hx.row i hi).keep hb).bts) HLt.out (fun i hi => by have := HL.out i hi; omega)).mono fun e w'' H => H.q)
    have H24b := Lib.hid (show ∀ w', Below w2.heap.size w2 w' → Calls Try.prog 24 #[rv 2, rv 0, rv 1] w' (OfQ (er 3 n) (ln 3 n) (acc (fun _ => 0) h 3) w') from fun w' hb =>
      (patch_any _ _ _ (sel3 (rv 2) (rv 0) (rv 1)) (sel3 (n 2) (n 0) (n 1)) (sel3 (h 2) (h 0) (h 1)) w' rfl rfl rfl (three ((hx.row 2 (by omega)).keep hb).bts ((hx.row 0 (by omega)).keep hb).bts ((hx.row 1 (by omega)).keep hb).bts)
        (three (HLt.out 2 (by omega)) (HLt.out 0 (by omega)) (HLt.out 1 (by omega))) (three (by have := HL.out 2 (by omega); show n 2 ≤ _; omega) (by have := HL.out 0 (by omega); show n 0 ≤ _; omega) (by have := HL.out 1 (by omega); show n 1 ≤ _; omega))).mono fun e w'' H => by
          have H := H.q
          have e1 : er 3 (sel3 (n 2) (n 0) (n 1)) = er 3 n := by rw [HN.out]; exact er3_turn _ _ _
          have e2 : ln 3 (sel3 (n 2) (n 0) (n 1)) = ln 3 n := by rw [HN.out]; exact ln3_turn _ _ _
          have e3 : acc (fun _ => 0) (sel3 (h 2) (h 0) (h 1)) 3 = acc (fun _ => 0) h 3 := by rw [HH.out]; exact acc3_turn _ _ _
          rw [e1, e2, e3] at H
          exact H)
    obtain ⟨g0, c0, e0, -⟩ := hx.row 0 (by omega)
    obtain ⟨g1, c1, e1, -⟩ := hx.row 1 (by omega)
    obtain ⟨g2, c2, e2, -⟩ := hx.row 2 (by omega)
    obtain ⟨X, hX⟩ : ∃ X, er 3 n = X := ⟨_, rfl⟩
    obtain ⟨L, hL⟩ : ∃ L, ln 3 n = L := ⟨_, rfl⟩
    obtain ⟨F, hF⟩ : ∃ F, acc (fun _ => 0) h 3 = F := ⟨_, rfl⟩
    have hLb : L ≤ 100000 := by rw [← hL]; exact ln_le HL.out
    have HXX := Lib.hid hX
    have HLL := Lib.hid hL
    have HFF := Lib.hid hF
    rw [e0, e1, e2, hX, hL, hF] at H24
    rw [e0, e1, e2, hX, hL, hF] at H24b
    rw [e0] at k0
    rw [e1] at k1
    rw [e2] at k2
    have z2 : gx < w2.heap.size := (ho.lt gx rfl).2
    clear hx hb ho hcell e0 e1 e2 hX hL hF
    go_wp2_with fail
    go_region_held3 (fun w' => w'.cell? ⟨gx, 0, none⟩ = some (.slice (some ⟨g0, 0, none⟩) (n 0) c0) ∧ w'.cell? ⟨gx, 1, none⟩ = some (.slice (some ⟨g1, 0, none⟩) (n 1) c1) ∧ w'.cell? ⟨gx, 2, none⟩ = some (.slice (some ⟨g2, 0, none⟩) (n 2) c2)) ((simp [*, go_sem]; done)) (first | (go_at_call 24; refine (H24.out _ (by go_grown)).mono ?_; rintro e w3 ⟨va', rfl, hown, hb3⟩; obtain ⟨q3, f3, z3⟩ := kp hb3 gx (by go_size)))
    have hown3 : w3.ownsRow w2.heap.size 5 1 va' L (bytesL L F) := hown
    have hb23 : Below w2.heap.size w2 w3 := via ((Below.refl _ _).drew) hb3
    rename_i hHeld
    obtain ⟨m0, m1, m2⟩ := hHeld
    have HA3 := Lib.hid hown3
    have HB23 := Lib.hid hb23
    have HX3 := Lib.hid (HX2.out.keep hb23)
    have HV3 := Lib.hid (via HV2.out hb23)
    have HS12 := Lib.hid HV2.out.size
    clear hown hb3 hown3 hb23 HX2 HV2 k0 k1 k2 H24 q3 f3
    go_wp2_with fail
    go_region_held3 (fun w' => w'.cell? ⟨gx, 0, none⟩ = some (.slice (some ⟨g0, 0, none⟩) (n 0) c0) ∧ w'.cell? ⟨gx, 1, none⟩ = some (.slice (some ⟨g1, 0, none⟩) (n 1) c1) ∧ w'.cell? ⟨gx, 2, none⟩ = some (.slice (some ⟨g2, 0, none⟩) (n 2) c2)) ((simp [*, go_sem]; done)) (first | (go_at_call 24; refine (H24b.out _ (via HB23.out ((Below.refl _ _).drew))).mono ?_; rintro e w4 ⟨vb', rfl, hown, hb4⟩; obtain ⟨q4, f4, z4⟩ := kp hb4 gx (by go_size)))
    have hown4 : w4.ownsRow w3.heap.size 5 1 vb' L (bytesL L F) := hown
    have hb34 : Below w3.heap.size w3 w4 := via ((Below.refl _ _).drew) hb4
    rename_i hHeld
    clear hHeld
    have HB4 := Lib.hid hown4
    have HA4 := Lib.hid (own_keep hb34 HA3.out)
    have HX4 := Lib.hid (HX3.out.keep hb34)
    have HV4 := Lib.hid (via HV3.out hb34)
    have HaS := Lib.hid (show ∀ k, va'.ownBlock = some k → w2.heap.size ≤ k ∧ k < w3.heap.size from HA3.out.lt)
    have HbS := Lib.hid (show ∀ k, vb'.ownBlock = some k → w3.heap.size ≤ k ∧ k < w4.heap.size from hown4.lt)
    have HS23 := Lib.hid HB23.out.size
    have HS34 := Lib.hid hb34.size
    clear hown hb4 hown4 hb34 HX3 HV3 HA3 m0 m1 m2 H24b HB23 z3 q4 f4 z4
    go_wp2_with fail
    refine (whole_rows _ _ 3 rv _ n h _ _ _ HX4.out (HR1.out.keep HV4.out) (by omega) fun i hi => by have := HL.out i hi; omega).mono ?_
    rintro e w5 ⟨rfl, hb⟩
    have HB5 := Lib.hid (own_keep hb HB4.out)
    have HA5 := Lib.hid (own_keep hb HA4.out)
    have HX5 := Lib.hid (HX4.out.keep hb)
    have HV5 := Lib.hid (via HV4.out hb)
    have HS45 := Lib.hid hb.size
    clear hb HX4 HV4 HA4 HB4
    go_wp2_with fail
    refine (spoil_rows _ 3 rv n h _ _ _ HX5.out (by omega)).mono ?_
    rintro e w6 ⟨rfl, ho⟩
    have HB6 := Lib.hid (ho.own HB5.out fun k hk hS => by have := HbS.out k hk; have := HS23.out; omega)
    have HA6 := Lib.hid (ho.own HA5.out fun k hk hS => by have := HaS.out k hk; omega)
    have HV6 := Lib.hid (HV5.out.trans (ho.below (fun _ _ h => h.1) HV5.out.size))
    have HS56 := Lib.hid ho.size
    clear ho HX5 HV5 HA5 HB5
    go_wp2_with fail
    refine (refof_any _ 3 _ n h _ (HR1.out.keep HV6.out) (fun i hi => by have := HL.out i hi; omega) (by omega)).mono ?_
    rintro e w7 H
    obtain ⟨vw, rfl, hw, hb⟩ := H.q
    rw [HXX.out]
    rw [HLL.out, HFF.out] at hw
    have HB7 := Lib.hid (own_keep hb HB6.out)
    have HA7 := Lib.hid (own_keep hb HA6.out)
    have HD7 := Lib.hid hw
    have HdS := Lib.hid (show ∀ k, vw.ownBlock = some k → k < w7.heap.size from fun k hk => (hw.lt k hk).2)
    have HV7 := Lib.hid (via HV6.out hb)
    have HS67 := Lib.hid hb.size
    clear hb H hw HV6 HA6 HB6
    have hk : Bk (w7.alloc (.cells (bkCells (.slice none 0 0)) 50)) w7.heap.size 0 (fun _ => False) (fun _ => False) := Bk.start (heap_alloc_new _ _)
    have hal : Below w7.heap.size w7 (w7.alloc (.cells (bkCells (.slice none 0 0)) 50)) := (Below.refl _ _).alloc (Nat.le_refl _) _
    have HK := Lib.hid hk
    have HAL := Lib.hid hal
    clear hk hal
    go_wp2_with fail
    refine (bk_put (G := fun k => (F k : Int)) HK.out (own_keep HAL.out HA7.out) (by omega) (fun k hk => ⟨?_, id, id⟩) (by omega)).mono ?_
    · have h1 := HaS.out k hk; have h2 := HS34.out; have h3 := HS45.out; have h4 := HS56.out; have h5 := HS67.out; omega
    rintro e w8 ⟨rfl, hk, ho⟩
    have hsz : w7.heap.size + 1 ≤ w8.heap.size := by have h1 := ho.size; simp at h1; exact h1
    have hQ : ∀ k, (False ∨ (w7.alloc (.cells (bkCells (.slice none 0 0)) 50)).heap.size ≤ k) → w7.heap.size < k := fun k h => h.elim False.elim fun h => by simp at h; exact h
    have HQ := Lib.hid hQ
    have hb78 : Below w7.heap.size w7 w8 := HAL.out.trans (ho.below (fun k _ h => h.elim (fun h => by omega) False.elim) (by simp))
    have HK8 := Lib.hid hk
    have HB8 := Lib.hid (own_keep hb78 HB7.out)
    have HA8 := Lib.hid (own_keep hb78 HA7.out)
    have HD8 := Lib.hid (own_keep hb78 HD7.out)
    have HV8 := Lib.hid (via HV7.out hb78)
    clear hk ho hQ hb78 HA7 HB7 HD7 HK HAL
    go_wp2_with fail
    refine (bk_put (G := fun k => (F k : Int)) HK8.out HB8.out (by omega) (fun k hk => ⟨?_, fun h => ?_, fun h => ?_⟩) (by omega)).mono ?_
    · have h1 := HbS.out k hk; have h3 := HS45.out; have h4 := HS56.out; have h5 := HS67.out; omega
    · rcases h with h | h
      · exact h
      · have h1 := HbS.out k hk; have h2 := HaS.out k h; omega
    · have h0 := HQ.out k h
      have h1 := HbS.out k hk; have h3 := HS45.out; have h4 := HS56.out; have h5 := HS67.out; omega
    rintro e w9 ⟨rfl, hk, ho⟩
    have HO := Lib.hid (show Out (fun k => w7.heap.size ≤ k) w8 w9 from ho.mono fun k _ h => h.elim (fun h => by omega) fun h => by have := HQ.out k h; omega)
    have HK9 := Lib.hid (hk.mono (P' := fun k => w1.heap.size ≤ k) (Q' := fun _ => True) (fun k _ h => by
      have h6 := HS12.out; have h7 := HS23.out
      rcases h with (h | h) | h
      · exact h.elim
      · have := HaS.out k h; omega
      · have := HbS.out k h; omega) fun _ _ _ => trivial)
    have hz := HO.out.size
    have HB9 := Lib.hid (HO.out.own HB8.out fun k hk h => by have h1 := HbS.out k hk; have h3 := HS45.out; have h4 := HS56.out; have h5 := HS67.out; omega)
    have HA9 := Lib.hid (HO.out.own HA8.out fun k hk h => by have h1 := HaS.out k hk; have h2 := HS34.out; have h3 := HS45.out; have h4 := HS56.out; have h5 := HS67.out; omega)
    have HD9 := Lib.hid (HO.out.own HD8.out fun k hk h => by have h1 := HdS.out k hk; omega)
    have HV9 := Lib.hid (HV8.out.trans (HO.out.below (B := w1.heap.size) (fun k _ h => by have h1 := HV7.out.size; omega) HV8.out.size))
    clear hk ho hz HA8 HB8 HD8 HV8 HK8 HQ HO hsz HV7 HS12 HS23 HS34 HS45 HS56 HS67 HaS HbS HdS
    go_wp2_with fail
    refine (known_true _).mono ?_
    rintro e w10 ⟨rfl, hb⟩
    have HB10 := Lib.hid (own_keep hb HB9.out)
    have HA10 := Lib.hid (own_keep hb HA9.out)
    have HD10 := Lib.hid (own_keep hb HD9.out)
    have HK10 := Lib.hid (HK9.out.keep hb)
    have HV10 := Lib.hid (via HV9.out hb)
    clear hb HA9 HB9 HD9 HK9 HV9
    go_wp2_with fail
    refine (same_V (by omega) (ownBts HA10.out) (ownBts HD10.out)).mono ?_
    rintro e w11 ⟨rfl, hb⟩
    have HB11 := Lib.hid (own_keep hb HB10.out)
    have HD11 := Lib.hid (own_keep hb HD10.out)
    have HK11 := Lib.hid (HK10.out.keep hb)
    have HV11 := Lib.hid (via HV10.out hb)
    clear hb HA10 HB10 HD10 HK10 HV10
    go_wp2_with fail
    refine (same_V (by omega) (ownBts HB11.out) (ownBts HD11.out)).mono ?_
    rintro e w12 ⟨rfl, hb⟩
    have HK12 := Lib.hid (HK11.out.keep hb)
    have HV12 := Lib.hid (via HV11.out hb)
    clear hb HB11 HD11 HK11 HV11
    go_wp2_with fail
    refine (bk_own HK12.out (by omega)).mono ?_
    rintro e w13 ⟨rfl, ho⟩
    have HV13 := Lib.hid (HW1.out.trans ((HV12.out.trans (ho.below (fun _ _ h => h) HV12.out.size)).mono HW1.out.size))
    clear ho HK12 HV12
    go_wp2
    go_ret
    exact ⟨rfl, HV13.out⟩
theorem kinds4 : ∀ t ∈ Try.f4.params.toList, Try.prog.readableRec t = true ∧ t < Try.prog.types.size := by
  rw [Try.params4]
  intro t ht
  simp only [List.mem_cons, List.not_mem_nil, or_false] at ht
  rcases ht with rfl | rfl | rfl
  all_goals exact ⟨by kernel_rfl, of_decide_eq_true (by kernel_rfl)⟩
set_option maxRecDepth 100000 in
theorem lifted (os : Os) (started : os.Started) (H : Type) (enc : TypeId × Value → H) :
    ReturnsInHanded {} Try.checked os 4 .any (Rows.xorPatchesSpec.pre6 enc Try.prog Try.f4 Rows.xorPatchesRow.domain false) (Rows.xorPatchesSpec.post enc Try.prog Try.f4 false true false false) := by
  refine returnsInHanded_of_change_sized (C := Try.checked) own started (by kernel_rfl) Try.func4
    (ChangeSpec.witness6 (enc := enc) (C := Try.checked) false ⟨#[], #[.slice none 0 0, .slice none 0 0, .slice none 0 0], []⟩ 8 (by kernel_rfl) (by kernel_rfl) (by kernel_rfl) (by kernel_rfl)) ?_
  intro W base args ds gs before hval0 hW hcnd hsz0 _
  have hval : ∀ (j : Nat) t v, Try.f4.params[j]? = some t → args[j]? = some v → Value.okWide Try.prog W .any base t v := hval0
  have hW' := hW
  obtain ⟨p, q, hA0, hV, rfl, hfz, hnd⟩ := hW
  have hA : DataW.TrodAll enc Try.prog W 0 (fun _ => true) true Try.f4.params.toList args.toList ds p := hA0
  have hA1 := hA
  have hsz : (DataW.weightsEach Try.prog (Try.f4.params.toList ++ []) (ds ++ gs)).all (· ≤ reachBytes) = true := hsz0
  rw [Try.params4] at hA hval hsz
  obtain ⟨v0, vs0, d0, ds0, p0, q0, hargs, rfl, rfl, h0, r0⟩ := trodAll_cons hA
  obtain ⟨v1, vs1, d1, ds1, p1, q1, rfl, rfl, rfl, h1, r1⟩ := trodAll_cons r0
  obtain ⟨v2, vs2, d2, ds2, p2, q2, rfl, rfl, rfl, h2, r2⟩ := trodAll_cons r1
  obtain ⟨rfl, rfl, rfl⟩ := trodAll_nil r2
  obtain rfl : args = #[v0, v1, v2] := by cases args; simp_all
  obtain ⟨rfl, rfl⟩ := trodVars_none hV
  obtain ⟨n0, f0, c0, l0, e0⟩ := open_bts (hval 0 25 v0 rfl rfl) h0
  have b0 := bnd hsz (j := 0) rfl rfl e0
  obtain ⟨n1, f1, c1, l1, e1⟩ := open_bts (hval 1 25 v1 rfl rfl) h1
  have b1 := bnd hsz (j := 1) rfl rfl e1
  obtain ⟨n2, f2, c2, l2, e2⟩ := open_bts (hval 2 25 v2 rfl rfl) h2
  have b2 := bnd hsz (j := 2) rfl rfl e2
  clear hval0 hsz0
  refine (walk v0 v1 v2 n0 n1 n2 f0 f1 f2 W c0 c1 c2 l0 l1 l2 b0 b1 b2).mono fun e W' ⟨he, bel⟩ => ?_
  subst he
  exact ⟨_, rfl, _, _, _, [], _, [], hW', trodAll_mk1 (shut_bool Try.underlying4 _), carryAll laidOut bel _ _ _ _ kinds4 hA1 (fun x hx => hW'.lt x (List.mem_append.2 (.inl hx))), rfl, bel.frame _, fun h => by cases h⟩
theorem proved : Rows.XorPatchesSaid :=
  OpenClaim.holds_of_wide 4 Try.f4 rfl rfl rfl rfl rfl rfl rfl ⟨rfl, rfl, rfl, rfl, rfl⟩ rfl rfl rfl rfl rfl (by kernel_rfl) Try.func4 (by kernel_rfl)
    (of_decide_eq_true (by kernel_rfl)) (by unfold Func.isWrapper; first | (rw [if_pos (by decide +kernel)]; kernel_rfl) | (rw [if_neg (by decide +kernel)]; exact ⟨rfl, rfl⟩))
    (fun os started H enc _ => lifted os started H enc)
#print axioms proved
end Go.Proofs.Ytnjcnnjdogdbdaa.Patches
