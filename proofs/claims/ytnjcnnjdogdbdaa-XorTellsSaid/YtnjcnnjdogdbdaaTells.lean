/- XorTells: the walk and the row. Conditions: as stated at each. -/
import Derived.Test.YtnjcnnjdogdbdaaXw
namespace Go.Proofs.Ytnjcnnjdogdbdaa.Tells
open Go.ChangeShapes Go.WideShapes Go.ChangeAt Go.RowKit
open Go.Proofs.Ytnjcnnjdogdbdaa
theorem _root_.Go.Proofs.Ytnjcnnjdogdbdaa.Bts.cut {w : World} {a : Option Addr} {n cap m : Nat} {f : Nat → Nat} (h : Bts w (.slice a n cap) n f) (hm : m ≤ n) : Bts w (.slice a m cap) m f := by
  obtain ⟨a', cap', hv, h⟩ := h
  cases hv
  refine ⟨_, _, rfl, ?_⟩
  rcases h with h | ⟨b, o, ha, hc⟩
  · exact .inl (by omega)
  · exact .inr ⟨b, o, ha, fun k hk => hc k (by omega)⟩
theorem xz {a b : Nat} (h : a ^^^ b = 0) : a = b := by
  have : a = (a ^^^ b) ^^^ b := by rw [Nat.xor_assoc, Nat.xor_self, Nat.xor_zero]
  rw [this, h, Nat.zero_xor]
theorem le2 {x y : Nat} {B : Int} (hx : (x : Int) ≤ B) (hy : (y : Int) ≤ B) (i : Nat) (hi : i < 2) : ((sel2 x y i : Nat) : Int) ≤ B := by
  obtain rfl | rfl : i = 0 ∨ i = 1 := by omega
  · exact hx
  · exact hy
theorem le3 {x y z : Nat} {B : Int} (hx : (x : Int) ≤ B) (hy : (y : Int) ≤ B) (hz : (z : Int) ≤ B) (i : Nat) (hi : i < 3) : ((sel3 x y z i : Nat) : Int) ≤ B := by
  obtain rfl | rfl | rfl : i = 0 ∨ i = 1 ∨ i = 2 := by omega
  · exact hx
  · exact hy
  · exact hz
/-- What XorTells asks of First's answer. -/
theorem ans (m : Nat) (fa fb : Nat → Nat) : ∃ V : Int, firstV m m fa fb = V ∧ (V = -1 ∨ 0 ≤ V) ∧ V < m ∧ allZ m (xo fa fb) = decide (V = -1) ∧ ∀ i : Nat, i < m → (xo fa fb i ≠ 0 → V ≠ -1 ∧ ¬ (i : Int) < V) ∧ ((i : Int) = V → xo fa fb i ≠ 0) := by
  have hx : ∀ i, xo fa fb i = 0 ↔ fa i = fb i := fun i => ⟨xz, fun e => by unfold xo; rw [e, Nat.xor_self]⟩
  by_cases h : ∃ i, i < m ∧ fa i ≠ fb i
  · obtain ⟨k, hk, hne, hlt⟩ := first_of m h
    have hlt' : ∀ i, i < k → fa i = fb i := fun i hi => Classical.byContradiction (hlt i hi)
    refine ⟨k, firstV_at hk hk hlt' hne, .inr (by omega), by omega, ?_, fun i hi => ⟨fun h0 => ⟨by omega, fun hik => h0 ((hx i).2 (hlt' i (by omega)))⟩, fun e h0 => ?_⟩⟩
    · rw [allZ_false k hk (fun h0 => hne ((hx k).1 h0))]
      exact (decide_eq_false (by omega)).symm
    · obtain rfl : i = k := by omega
      exact hne ((hx i).1 h0)
  · have hall : ∀ i, i < m → fa i = fb i := fun i hi => Classical.byContradiction fun e => h ⟨i, hi, e⟩
    refine ⟨-1, ?_, .inl rfl, by omega, ?_, fun i hi => ⟨fun h0 => absurd ((hx i).2 (hall i hi)) h0, fun e => by omega⟩⟩
    · rw [firstV_none (fun i hi => hall i (by omega)), if_pos rfl]
    · rw [allZ_true fun k hk => (hx k).2 (hall k hk)]
      rfl
set_option maxRecDepth 100000 in
set_option maxHeartbeats 1000000 in
theorem walk (va vb : Value) (na nb : Nat) (fa fb : Nat → Nat) (W : World) (ha : Came W va na fa) (hb : Came W vb nb fb) (la : Lt na fa) (lb : Lt nb fb) (ba : (na : Int) ≤ 140737488351232) (bb : (nb : Int) ≤ 140737488351232) :
    Calls Try.prog 10 #[va, vb] W fun e w' => e = .returned (.bool true) ∧ Below W.heap.size W w' := by
  obtain ⟨aa, ca, rfl, hca⟩ := ha.form
  obtain ⟨ab, cb, rfl, hcb⟩ := hb.form
  have HA := Lib.hid ha.bts
  have HB := Lib.hid hb.bts
  have HLA := Lib.hid la
  have HLB := Lib.hid lb
  clear ha hb la lb
  go_enter Try.func10, Try.ntmps10
  go_wp2_with fail
  have hc := much_any _ 2 _ _ _ _ (rows2 W _ _ na nb fa fb HA.out HB.out HLA.out HLB.out) (by omega) (le2 ba bb)
  refine hc.mono ?_
  clear hc
  rintro e w1 ⟨bl, rfl, hbl, hb⟩
  have hb1 : Below W.heap.size W w1 := via (bal (Below.refl _ _) _) hb
  have HA1 := Lib.hid (HA.out.keep hb1)
  have HB1 := Lib.hid (HB.out.keep hb1)
  have HW1 := Lib.hid hb1
  clear HA HB hb hb1
  cases bl with
  | true =>
    go_wp2
    go_ret
    exact ⟨rfl, HW1.out⟩
  | false =>
    have ht : 2 + na + nb ≤ 100000 := hbl rfl
    clear hbl
    have hla : na ≤ 200000 := by omega
    have hlb : nb ≤ 200000 := by omega
    clear ht
    obtain ⟨m, hm⟩ : ∃ m, m = min na (min nb nb) := ⟨_, rfl⟩
    have hma : m ≤ na := by omega
    have hmb : m ≤ nb := by omega
    have HM := Lib.hid hm
    clear hm
    go_wp2_with fail
    refine (cut_any aa ab ab na nb nb ca cb cb m _ hca hcb hcb HM.out).mono ?_
    rintro e w2 ⟨rfl, hb⟩
    have HA2 := Lib.hid ((HA1.out.keep hb).cut hma)
    have HB2 := Lib.hid ((HB1.out.keep hb).cut hmb)
    have HLA2 := Lib.hid (show Lt m fa from fun k hk => HLA.out k (by omega))
    have HLB2 := Lib.hid (show Lt m fb from fun k hk => HLB.out k (by omega))
    have HW2 := Lib.hid (via HW1.out hb)
    have hm2 : m ≤ 200000 := by omega
    clear hb HA1 HB1 HLA HLB HM HW1 hma hmb hla hlb hca hcb ba bb
    obtain ⟨V, hV, hV0, hV1, hZ, hV2⟩ := ans m fa fb
    have HV2 := Lib.hid hV2
    have HV := Lib.hid hV
    have HZ := Lib.hid hZ
    clear hV hV2 hZ
    go_wp2_with fail
    refine (of2 hm2 HA2.out HB2.out HLA2.out HLB2.out).mono ?_
    rintro e w3 ⟨pa, pc, rfl, hP, hb⟩
    have HA3 := Lib.hid (HA2.out.keep hb)
    have HB3 := Lib.hid (HB2.out.keep hb)
    have HP3 := Lib.hid hP
    have HW3 := Lib.hid (via HW2.out hb)
    clear hb HA2 HB2 hP HW2
    go_wp2_with fail
    refine (even2 hm2 HA3.out HB3.out HLA2.out HLB2.out).mono ?_
    rw [HZ.out]
    rintro e w4 ⟨rfl, hb⟩
    have HA4 := Lib.hid (HA3.out.keep hb)
    have HB4 := Lib.hid (HB3.out.keep hb)
    have HP4 := Lib.hid (HP3.out.keep hb)
    have HW4 := Lib.hid (via HW3.out hb)
    clear hb HA3 HB3 HP3 HW3
    go_wp2_with fail
    refine (first_any hm2 hm2 HA4.out HB4.out).mono ?_
    rintro e w5 ⟨he, hb⟩
    rw [HV.out] at he
    obtain rfl := he
    have HP5 := Lib.hid (HP4.out.keep hb)
    have HW5 := Lib.hid (via HW4.out hb)
    clear hb HA4 HB4 HP4 HW4
    go_wp2_with fail
    refine (known_true _).mono ?_
    rintro e w6 ⟨rfl, hb⟩
    have HP6 := Lib.hid (HP5.out.keep hb)
    have HW6 := Lib.hid (via HW5.out hb)
    clear hb HP5 HW5
    have h1 : ¬ V < -1 := by omega
    have h2 : ¬ (m : Int) ≤ V := by omega
    go_wp2
    obtain ⟨pa', pc', hpe, hP'⟩ := HP6.out
    cases hpe
    have HP7 := Lib.hid hP'
    clear hP'
    go_loop [13] (fun s13 => ∃ k : Nat, k ≤ m ∧ s13 = .int .i64 k) (fun s13 => m - (intOf s13).toNat)
    case atStart => exact ⟨0, Nat.zero_le _, rfl⟩
    case round =>
      obtain ⟨k, hk, rfl⟩ := hrel
      by_cases hlt : k < m
      · rcases HP7.out with h0 | ⟨b, o, rfl, hc⟩
        · omega
        have hcell := hc k hlt
        have hr := HV2.out k hlt
        clear hc
        generalize xo fa fb k = x at hcell hr
        by_cases hx : x = 0
        · subst hx
          have hkV : ¬ (k : Int) = V := fun e => hr.2 e rfl
          clear hr
          go_wp2
          go_round
          case rel => exact ⟨k + 1, by omega, by go_num⟩
          case measure => simp [intOf]; omega
        · have h3 := (hr.1 hx).1
          have h4 := (hr.1 hx).2
          clear hr
          have h7 : ((x : Int) != 0) = true := by rw [bne_iff_ne]; omega
          have h8 : (V == -1) = false := by rw [beq_eq_false_iff_ne]; exact h3
          by_cases h5 : V = k
          · subst h5
            have h6 : ((x : Int) == 0) = false := by simp; omega
            go_wp2
            go_round
            case rel => exact ⟨k + 1, by omega, by go_num⟩
            case measure => simp [intOf]; omega
          · have h6 : ¬ (k : Int) = V := fun e => h5 e.symm
            go_wp2
            go_round
            case rel => exact ⟨k + 1, by omega, by go_num⟩
            case measure => simp [intOf]; omega
      · obtain rfl : m = k := by omega
        go_wp2
        go_ret
        exact ⟨rfl, HW6.out⟩
theorem kinds10 : ∀ t ∈ Try.f10.params.toList, Try.prog.readableRec t = true ∧ t < Try.prog.types.size := by
  rw [Try.params10]
  intro t ht
  simp only [List.mem_cons, List.not_mem_nil, or_false] at ht
  rcases ht with rfl | rfl
  all_goals exact ⟨by kernel_rfl, of_decide_eq_true (by kernel_rfl)⟩
set_option maxRecDepth 100000 in
theorem lifted (os : Os) (started : os.Started) (H : Type) (enc : TypeId × Value → H) :
    ReturnsInHanded {} Try.checked os 10 .any (Rows.xorTellsSpec.pre6 enc Try.prog Try.f10 Rows.xorTellsRow.domain false) (Rows.xorTellsSpec.post enc Try.prog Try.f10 false true false false) := by
  refine returnsInHanded_of_change_sized (C := Try.checked) own started (by kernel_rfl) Try.func10
    (ChangeSpec.witness6 (enc := enc) (C := Try.checked) false ⟨#[], #[.slice none 0 0, .slice none 0 0], []⟩ 8 (by kernel_rfl) (by kernel_rfl) (by kernel_rfl) (by kernel_rfl)) ?_
  intro W base args ds gs before hval0 hW hcnd hsz0 _
  have hval : ∀ (j : Nat) t v, Try.f10.params[j]? = some t → args[j]? = some v → Value.okWide Try.prog W .any base t v := hval0
  have hW' := hW
  obtain ⟨p, q, hA0, hV, rfl, hfz, hnd⟩ := hW
  have hA : DataW.TrodAll enc Try.prog W 0 (fun _ => true) true Try.f10.params.toList args.toList ds p := hA0
  have hA1 := hA
  have hsz : (DataW.weightsEach Try.prog (Try.f10.params.toList ++ []) (ds ++ gs)).all (· ≤ reachBytes) = true := hsz0
  rw [Try.params10] at hA hval hsz
  obtain ⟨v0, vs0, d0, ds0, p0, q0, hargs, rfl, rfl, h0, r0⟩ := trodAll_cons hA
  obtain ⟨v1, vs1, d1, ds1, p1, q1, rfl, rfl, rfl, h1, r1⟩ := trodAll_cons r0
  obtain ⟨rfl, rfl, rfl⟩ := trodAll_nil r1
  obtain rfl : args = #[v0, v1] := by cases args; simp_all
  obtain ⟨rfl, rfl⟩ := trodVars_none hV
  obtain ⟨n0, f0, c0, l0, e0⟩ := open_bts (hval 0 25 v0 rfl rfl) h0
  have b0 := bnd hsz (j := 0) rfl rfl e0
  obtain ⟨n1, f1, c1, l1, e1⟩ := open_bts (hval 1 25 v1 rfl rfl) h1
  have b1 := bnd hsz (j := 1) rfl rfl e1
  clear hval0 hsz0
  refine (walk v0 v1 n0 n1 f0 f1 W c0 c1 l0 l1 b0 b1).mono fun e W' ⟨he, bel⟩ => ?_
  subst he
  exact ⟨_, rfl, _, _, _, [], _, [], hW', trodAll_mk1 (shut_bool Try.underlying4 _), carryAll laidOut bel _ _ _ _ kinds10 hA1 (fun x hx => hW'.lt x (List.mem_append.2 (.inl hx))), rfl, bel.frame _, fun h => by cases h⟩
theorem proved : Rows.XorTellsSaid :=
  OpenClaim.holds_of_wide 10 Try.f10 rfl rfl rfl rfl rfl rfl rfl ⟨rfl, rfl, rfl, rfl, rfl⟩ rfl rfl rfl rfl rfl (by kernel_rfl) Try.func10 (by kernel_rfl)
    (of_decide_eq_true (by kernel_rfl)) (by unfold Func.isWrapper; first | (rw [if_pos (by decide +kernel)]; kernel_rfl) | (rw [if_neg (by decide +kernel)]; exact ⟨rfl, rfl⟩))
    (fun os started H enc _ => lifted os started H enc)
#print axioms proved
end Go.Proofs.Ytnjcnnjdogdbdaa.Tells
