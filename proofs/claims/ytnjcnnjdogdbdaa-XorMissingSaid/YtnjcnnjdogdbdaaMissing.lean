/- XorMissing: the walk and the row. Conditions: as stated at each. -/
import Derived.Test.YtnjcnnjdogdbdaaBm
import Derived.Test.YtnjcnnjdogdbdaaXx
namespace Go.Proofs.Ytnjcnnjdogdbdaa.Missing
open Go.ChangeShapes Go.WideShapes Go.ChangeAt Go.RowKit
open Go.Proofs.Ytnjcnnjdogdbdaa
set_option maxRecDepth 100000 in
set_option maxHeartbeats 4000000 in
theorem walk (v0 : Value) (N : Nat) (rv0 : Nat → Value) (n : Nat → Nat) (h : Nat → Nat → Nat) (a : Int) (W : World) (hm : CameM W v0 N rv0 n h) (bN : (N : Int) ≤ 140737488351232) (bn : ∀ i, i < N → (n i : Int) ≤ 140737488351232) :
    Calls Try.prog 5 #[v0, .int .i64 a] W fun e w' => e = .returned (.bool true) ∧ Below W.heap.size W w' := by
  have HR := Lib.hid hm.rows
  obtain ⟨av, cv, rfl, -⟩ := hm.rows.l
  have HBn := Lib.hid bn
  have HLt := Lib.hid (show ∀ i, i < N → ∀ k, k < n i → h i k < 256 from hm.lt)
  clear hm bn
  go_enter Try.func5, Try.ntmps5
  go_wp2_with fail
  refine (much_any _ N _ n h _ HR.out bN HBn.out).mono ?_
  rintro e w1 ⟨bl, rfl, hbl, hb⟩
  have HW1 := Lib.hid hb
  have HR1 := Lib.hid (HR.out.keep hb)
  have HBl := Lib.hid hbl
  clear hb hbl HR HBn
  cases bl with
  | true =>
    go_wp2
    go_ret
    exact ⟨rfl, HW1.out⟩
  | false =>
    have htot := HBl.out rfl
    have hN : N ≤ 100000 := by have := tot_ge N n N; omega
    have hN2 : N ≤ 200000 := by omega
    have HL := Lib.hid (show ∀ i, i < N → n i ≤ 200000 from fun i hi => by have := tot_each N n (j := N) hi; omega)
    clear HBl bN htot
    go_wp2_with fail
    refine (known_true _).mono ?_
    rintro e w2 ⟨rfl, hb⟩
    have HV2 := Lib.hid hb
    have HS12 := Lib.hid hb.size
    clear hb
    have hk : Bk (w2.alloc (.cells (bkCells (.slice none 0 0)) 50)) w2.heap.size 0 (fun _ => False) (fun _ => False) := Bk.start (heap_alloc_new _ _)
    have hal : Below w2.heap.size w2 (w2.alloc (.cells (bkCells (.slice none 0 0)) 50)) := (Below.refl _ _).alloc (Nat.le_refl _) _
    have HK := Lib.hid hk
    have HAL := Lib.hid hal
    clear hk hal
    go_wp2_with fail
    refine (lent_rows _ N _ n h _ ((HR1.out.keep HV2.out).keep HAL.out) (by omega) HL.out).mono ?_
    rintro e w3 ⟨xv, rv, rfl, hx, hb⟩
    have hsz : w2.heap.size + 1 ≤ w3.heap.size := by have h1 := hb.size; simp at h1; exact h1
    obtain ⟨B, hB⟩ : ∃ B, (w2.alloc (.cells (bkCells (.slice none 0 0)) 50)).heap.size = B := ⟨_, rfl⟩
    have hB2 : B = w2.heap.size + 1 := by rw [← hB]; simp
    obtain ⟨E, hE⟩ : ∃ E, w3.heap.size = E := ⟨_, rfl⟩
    have hx2 := hx
    have hE2 : LentR w3 B E xv N rv n h := by rw [← hB, ← hE]; exact hx
    have HX3 := Lib.hid hE2
    have HK3 := Lib.hid ((HK.out.keep hb).mono (P' := fun k => E ≤ k ∧ k < w3.heap.size) (Q' := fun k => E ≤ k ∧ k < w3.heap.size) (fun _ _ h => h.elim) (fun _ _ h => h.elim))
    have HV3 := Lib.hid (via (via HV2.out HAL.out) hb)
    have HSE := Lib.hid (show E ≤ w3.heap.size from by omega)
    have HSb := Lib.hid (show w1.heap.size ≤ w2.heap.size ∧ w2.heap.size < B ∧ B ≤ E from ⟨HS12.out, by omega, by omega⟩)
    obtain ⟨gx, cx, p1, p2, rfl, ho, -⟩ := hx2.l
    have hcx : N ≤ cx := by have := (own_blk ho).2.1; omega
    clear hx hx2 hb hB hB2 hE hE2 ho HK HAL HV2 HS12 hsz
    go_wp2
    go_loopw [7] (fun s7 wr => ∃ j : Nat, j ≤ 22 ∧ j ≤ N + 3 ∧ s7 = .int .i64 ((j : Int) - 1) ∧ LentR wr B E (.slice (some ⟨gx, 0, none⟩) N cx) N rv n h ∧ Bk wr w2.heap.size j (fun k => E ≤ k ∧ k < wr.heap.size) (fun k => E ≤ k ∧ k < wr.heap.size) ∧ Below w1.heap.size w1 wr ∧ E ≤ wr.heap.size) (fun s7 _ => 22 - (intOf s7 + 1).toNat)
    case atStart => exact ⟨0, by omega, by omega, rfl, HX3.out, HK3.out, HV3.out, HSE.out⟩
    case round =>
      obtain ⟨j, hj, hj2, rfl, hx, hk, hv, hs⟩ := hrel
      have HX := Lib.hid hx
      have HK := Lib.hid hk
      have HV := Lib.hid hv
      have HSr := Lib.hid (show w2.heap.size < E ∧ E ≤ wr.heap.size from ⟨by have := HSb.out; omega, hs⟩)
      clear hx hk hv hs HX3 HK3 HV3
      by_cases hgo : j ≤ N + 2 ∧ j ≤ 21
      · obtain ⟨hg1, hg2⟩ := hgo
        by_cases hj0 : j = 0
        · subst hj0
          go_wp2_with fail
          refine (miss_q gx 0 N cx rv n h _ (HX.out.rows HLt.out) a hcx HL.out hN2).mono ?_
          rintro e wa ⟨va, rfl, hown, hb⟩
          obtain ⟨X, hX⟩ : ∃ X, mer N n a = X := ⟨_, rfl⟩
          obtain ⟨L, hL⟩ : ∃ L, mln N n a = L := ⟨_, rfl⟩
          obtain ⟨F, hF⟩ : ∃ F, mF N h a = F := ⟨_, rfl⟩
          have hLb : L ≤ 200000 := by rw [← hL]; exact mln_le HL.out _
          rw [hL, hF] at hown
          rw [hX]
          have HXX := Lib.hid hX
          have HLL := Lib.hid hL
          have HFF := Lib.hid hF
          have HaS := Lib.hid (show ∀ k, va.ownBlock = some k → wr.heap.size ≤ k ∧ k < wa.heap.size from hown.lt)
          have HA1 := Lib.hid hown
          have HX1 := Lib.hid (HX.out.keep hb)
          have HK1 := Lib.hid (HK.out.keep hb)
          have HV1 := Lib.hid (via HV.out hb)
          have HS1 := Lib.hid hb.size
          clear hX hL hF hown hb HX HK HV
          go_wp2_with fail
          refine (refmiss_q _ N _ n h _ (HR1.out.keep HV1.out) a HL.out hN2).mono ?_
          rintro e wb ⟨vw, rfl, hown, hb⟩
          rw [HLL.out, HFF.out] at hown
          rw [HXX.out]
          have HwS := Lib.hid (show ∀ k, vw.ownBlock = some k → wa.heap.size ≤ k ∧ k < wb.heap.size from hown.lt)
          have HW2 := Lib.hid hown
          have HA2 := Lib.hid (own_keep hb HA1.out)
          have HX2 := Lib.hid (HX1.out.keep hb)
          have HK2 := Lib.hid (HK1.out.keep hb)
          have HV2 := Lib.hid (via HV1.out hb)
          have HS2 := Lib.hid hb.size
          clear hown hb HX1 HK1 HV1 HA1
          go_wp2_with fail
          refine (bk_put (G := fun k => (F k : Int)) HK2.out HA2.out (by omega) (fun k hk => ⟨fun h => ?_, fun h => ?_, fun h => ?_⟩) (by omega)).mono ?_
          · have h1 := HaS.out k hk; have h2 := HSr.out; omega
          · have h1 := HaS.out k hk; omega
          · have h1 := HaS.out k hk; omega
          rintro e wc ⟨rfl, hk, ho⟩
          have hz := ho.size
          have HK3 := Lib.hid (hk.mono (P' := fun k => E ≤ k ∧ k < wc.heap.size) (Q' := fun k => E ≤ k ∧ k < wc.heap.size) (fun k hlt h => by
            have h2 := HSr.out; have h3 := HS1.out; have h4 := HS2.out
            rcases h with h | h
            · omega
            · have := HaS.out k h; omega) (fun k hlt h => by
            have h2 := HSr.out; have h3 := HS1.out; have h4 := HS2.out
            rcases h with h | h <;> omega))
          have HA3 := Lib.hid (ho.own HA2.out fun k hk h => by have h1 := HaS.out k hk; have h2 := HSr.out; rcases h with h | h <;> omega)
          have HW3 := Lib.hid (ho.own HW2.out fun k hk h => by have h1 := HwS.out k hk; have h2 := HSr.out; have h3 := HS1.out; rcases h with h | h <;> omega)
          have HX3 := Lib.hid (HX2.out.out ho fun k h1 h2 h => by have h3 := HSb.out; rcases h with h | h <;> omega)
          have HV3 := Lib.hid (HV2.out.trans (ho.below (B := w1.heap.size) (fun k _ h => by have h2 := HSb.out; rcases h with h | h <;> omega) HV2.out.size))
          have HS3 := Lib.hid ho.size
          clear hk ho hz HA2 HW2 HX2 HK2 HV2
          go_wp2_with fail
          refine (same_V (by omega) (ownBts HA3.out) (ownBts HW3.out)).mono ?_
          rintro e wd ⟨rfl, hb⟩
          have HX4 := Lib.hid (HX3.out.keep hb)
          have HK4 := Lib.hid ((HK3.out.keep hb).mono (P' := fun k => E ≤ k ∧ k < wd.heap.size) (Q' := fun k => E ≤ k ∧ k < wd.heap.size) (fun k hlt h => ⟨h.1, hlt⟩) (fun k hlt h => ⟨h.1, hlt⟩))
          have HV4 := Lib.hid (via HV3.out hb)
          have HS4 := Lib.hid (show E ≤ wd.heap.size from by have h1 := HSr.out; have h2 := HS1.out; have h3 := HS2.out; have h4 := HS3.out; have h5 := hb.size; omega)
          clear hb HX3 HK3 HV3 HA3 HW3 HS1 HS2 HS3 HaS HwS HSr
          go_wp2
          go_roundw
          case rel => exact ⟨0 + 1, by omega, by omega, rfl, HX4.out, HK4.out, HV4.out, HS4.out⟩
          case measure => first | (simp [intOf]; done) | (simp [intOf]; omega)
        · obtain ⟨i, rfl⟩ : ∃ i, j = i + 1 := ⟨j - 1, by omega⟩
          have ei : ((i + 1 : Nat) : Int) - 1 = (i : Int) := by omega
          rw [ei]
          clear ei hj0
          go_wp2_with fail
          refine (miss_q gx 0 N cx rv n h _ (HX.out.rows HLt.out) (i : Int) hcx HL.out hN2).mono ?_
          rintro e wa ⟨va, rfl, hown, hb⟩
          obtain ⟨X, hX⟩ : ∃ X, mer N n (i : Int) = X := ⟨_, rfl⟩
          obtain ⟨L, hL⟩ : ∃ L, mln N n (i : Int) = L := ⟨_, rfl⟩
          obtain ⟨F, hF⟩ : ∃ F, mF N h (i : Int) = F := ⟨_, rfl⟩
          have hLb : L ≤ 200000 := by rw [← hL]; exact mln_le HL.out _
          rw [hL, hF] at hown
          rw [hX]
          have HXX := Lib.hid hX
          have HLL := Lib.hid hL
          have HFF := Lib.hid hF
          have HaS := Lib.hid (show ∀ k, va.ownBlock = some k → wr.heap.size ≤ k ∧ k < wa.heap.size from hown.lt)
          have HA1 := Lib.hid hown
          have HX1 := Lib.hid (HX.out.keep hb)
          have HK1 := Lib.hid (HK.out.keep hb)
          have HV1 := Lib.hid (via HV.out hb)
          have HS1 := Lib.hid hb.size
          clear hX hL hF hown hb HX HK HV
          go_wp2_with fail
          refine (refmiss_q _ N _ n h _ (HR1.out.keep HV1.out) (i : Int) HL.out hN2).mono ?_
          rintro e wb ⟨vw, rfl, hown, hb⟩
          rw [HLL.out, HFF.out] at hown
          rw [HXX.out]
          have HwS := Lib.hid (show ∀ k, vw.ownBlock = some k → wa.heap.size ≤ k ∧ k < wb.heap.size from hown.lt)
          have HW2 := Lib.hid hown
          have HA2 := Lib.hid (own_keep hb HA1.out)
          have HX2 := Lib.hid (HX1.out.keep hb)
          have HK2 := Lib.hid (HK1.out.keep hb)
          have HV2 := Lib.hid (via HV1.out hb)
          have HS2 := Lib.hid hb.size
          clear hown hb HX1 HK1 HV1 HA1
          go_wp2_with fail
          refine (bk_put (G := fun k => (F k : Int)) HK2.out HA2.out (by omega) (fun k hk => ⟨fun h => ?_, fun h => ?_, fun h => ?_⟩) (by omega)).mono ?_
          · have h1 := HaS.out k hk; have h2 := HSr.out; omega
          · have h1 := HaS.out k hk; omega
          · have h1 := HaS.out k hk; omega
          rintro e wc ⟨rfl, hk, ho⟩
          have hz := ho.size
          have HK3 := Lib.hid (hk.mono (P' := fun k => E ≤ k ∧ k < wc.heap.size) (Q' := fun k => E ≤ k ∧ k < wc.heap.size) (fun k hlt h => by
            have h2 := HSr.out; have h3 := HS1.out; have h4 := HS2.out
            rcases h with h | h
            · omega
            · have := HaS.out k h; omega) (fun k hlt h => by
            have h2 := HSr.out; have h3 := HS1.out; have h4 := HS2.out
            rcases h with h | h <;> omega))
          have HA3 := Lib.hid (ho.own HA2.out fun k hk h => by have h1 := HaS.out k hk; have h2 := HSr.out; rcases h with h | h <;> omega)
          have HW3 := Lib.hid (ho.own HW2.out fun k hk h => by have h1 := HwS.out k hk; have h2 := HSr.out; have h3 := HS1.out; rcases h with h | h <;> omega)
          have HX3 := Lib.hid (HX2.out.out ho fun k h1 h2 h => by have h3 := HSb.out; rcases h with h | h <;> omega)
          have HV3 := Lib.hid (HV2.out.trans (ho.below (B := w1.heap.size) (fun k _ h => by have h2 := HSb.out; rcases h with h | h <;> omega) HV2.out.size))
          have HS3 := Lib.hid ho.size
          clear hk ho hz HA2 HW2 HX2 HK2 HV2
          go_wp2_with fail
          refine (same_V (by omega) (ownBts HA3.out) (ownBts HW3.out)).mono ?_
          rintro e wd ⟨rfl, hb⟩
          have HX4 := Lib.hid (HX3.out.keep hb)
          have HK4 := Lib.hid ((HK3.out.keep hb).mono (P' := fun k => E ≤ k ∧ k < wd.heap.size) (Q' := fun k => E ≤ k ∧ k < wd.heap.size) (fun k hlt h => ⟨h.1, hlt⟩) (fun k hlt h => ⟨h.1, hlt⟩))
          have HV4 := Lib.hid (via HV3.out hb)
          have HS4 := Lib.hid (show E ≤ wd.heap.size from by have h1 := HSr.out; have h2 := HS1.out; have h3 := HS2.out; have h4 := HS3.out; have h5 := hb.size; omega)
          clear hb HX3 HK3 HV3 HA3 HW3 HS1 HS2 HS3 HaS HwS HSr
          go_wp2
          go_roundw
          case rel => exact ⟨i + 1 + 1, by omega, by omega, by go_num, HX4.out, HK4.out, HV4.out, HS4.out⟩
          case measure => first | (simp [intOf]; done) | (simp [intOf]; omega)
      · have hor : (N : Int) + 1 < (j : Int) - 1 ∨ (20 : Int) < (j : Int) - 1 := by omega
        have hor2 : (N : Int) + 1 < (j : Int) - 1 ∨ ((j : Int) - 1 ≤ (N : Int) + 1 ∧ (20 : Int) < (j : Int) - 1) := by omega
        clear hgo hor
        rcases hor2 with hc | ⟨hc, hc2⟩
        all_goals (
          go_wp2_with fail
          refine (whole_rows _ _ N rv _ n h _ _ _ HX.out (HR1.out.keep HV.out) hN HL.out).mono ?_
          rintro e wa ⟨rfl, hb⟩
          have HX1 := Lib.hid (HX.out.keep hb)
          have HK1 := Lib.hid (HK.out.keep hb)
          have HV1 := Lib.hid (via HV.out hb)
          clear hb HX HK HV
          go_wp2_with fail
          refine (spoil_rows _ N rv n h _ _ _ HX1.out hN).mono ?_
          rintro e wb ⟨rfl, ho⟩
          have HK2 := Lib.hid (HK1.out.out ho (fun h => by have h1 := HSb.out; omega) (fun k h1 h2 => by omega) (fun k h1 h2 => by omega))
          have HV2 := Lib.hid (HV1.out.trans (ho.below (B := w1.heap.size) (fun k _ h => by have h1 := HSb.out; omega) HV1.out.size))
          clear ho HX1 HK1 HV1
          go_wp2_with fail
          refine (bk_own HK2.out (by omega)).mono ?_
          rintro e wc ⟨rfl, ho⟩
          have HZ := Lib.hid (HW1.out.trans ((HV2.out.trans (ho.below (B := w1.heap.size) (fun k _ h => by have h1 := HSb.out; omega) HV2.out.size)).mono HW1.out.size))
          clear ho HK2 HV2
          go_wp2
          go_ret
          exact ⟨rfl, HZ.out⟩)
theorem kinds5 : ∀ t ∈ Try.f5.params.toList, Try.prog.readableRec t = true ∧ t < Try.prog.types.size := by
  rw [Try.params5]
  intro t ht
  simp only [List.mem_cons, List.not_mem_nil, or_false] at ht
  rcases ht with rfl | rfl
  all_goals exact ⟨by kernel_rfl, of_decide_eq_true (by kernel_rfl)⟩
set_option maxRecDepth 100000 in
theorem lifted (os : Os) (started : os.Started) (H : Type) (enc : TypeId × Value → H) :
    ReturnsInHanded {} Try.checked os 5 .any (Rows.xorMissingSpec.pre6 enc Try.prog Try.f5 Rows.xorMissingRow.domain false) (Rows.xorMissingSpec.post enc Try.prog Try.f5 false true false false) := by
  refine returnsInHanded_of_change_sized (C := Try.checked) own started (by kernel_rfl) Try.func5
    (ChangeSpec.witness6 (enc := enc) (C := Try.checked) false ⟨#[], #[.slice none 0 0, .int .i64 0], []⟩ 8 (by kernel_rfl) (by kernel_rfl) (by kernel_rfl) (by kernel_rfl)) ?_
  intro W base args ds gs before hval0 hW hcnd hsz0 _
  have hval : ∀ (j : Nat) t v, Try.f5.params[j]? = some t → args[j]? = some v → Value.okWide Try.prog W .any base t v := hval0
  have hW' := hW
  obtain ⟨p, q, hA0, hV, rfl, hfz, hnd⟩ := hW
  have hA : DataW.TrodAll enc Try.prog W 0 (fun _ => true) true Try.f5.params.toList args.toList ds p := hA0
  have hA1 := hA
  have hsz : (DataW.weightsEach Try.prog (Try.f5.params.toList ++ []) (ds ++ gs)).all (· ≤ reachBytes) = true := hsz0
  rw [Try.params5] at hA hval hsz
  obtain ⟨v0, vs0, d0, ds0, p0, q0, hargs, rfl, rfl, h0, r0⟩ := trodAll_cons hA
  obtain ⟨v1, vs1, d1, ds1, p1, q1, rfl, rfl, rfl, h1, r1⟩ := trodAll_cons r0
  obtain ⟨rfl, rfl, rfl⟩ := trodAll_nil r1
  obtain rfl : args = #[v0, v1] := by cases args; simp_all
  obtain ⟨rfl, rfl⟩ := trodVars_none hV
  obtain ⟨N0, rv0, n0, f0, c0, e0⟩ := open_mat (hval 0 22 v0 rfl rfl) h0
  have b0 := bndM hsz (j := 0) rfl rfl e0
  obtain ⟨a1, rfl, rfl, rfl, w1⟩ := open_int Try.underlying3 (hval 1 3 v1 rfl rfl) h1
  clear hval0 hsz0
  refine (walk v0 N0 rv0 n0 f0 a1 W c0 b0.1 b0.2).mono fun e W' ⟨he, bel⟩ => ?_
  subst he
  exact ⟨_, rfl, _, _, _, [], _, [], hW', trodAll_mk1 (shut_bool Try.underlying4 _), carryAll laidOut bel _ _ _ _ kinds5 hA1 (fun x hx => hW'.lt x (List.mem_append.2 (.inl hx))), rfl, bel.frame _, fun h => by cases h⟩
theorem proved : Rows.XorMissingSaid :=
  OpenClaim.holds_of_wide 5 Try.f5 rfl rfl rfl rfl rfl rfl rfl ⟨rfl, rfl, rfl, rfl, rfl⟩ rfl rfl rfl rfl rfl (by kernel_rfl) Try.func5 (by kernel_rfl)
    (of_decide_eq_true (by kernel_rfl)) (by unfold Func.isWrapper; first | (rw [if_pos (by decide +kernel)]; kernel_rfl) | (rw [if_neg (by decide +kernel)]; exact ⟨rfl, rfl⟩))
    (fun os started H enc _ => lifted os started H enc)
#print axioms proved
end Go.Proofs.Ytnjcnnjdogdbdaa.Missing
