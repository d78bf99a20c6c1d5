/- XorGroup: the walk and the row. Conditions: as stated at each. -/
import Derived.Test.YtnjcnnjdogdbdaaXw2
namespace Go.Proofs.Ytnjcnnjdogdbdaa.Group
open Go.ChangeShapes Go.WideShapes Go.ChangeAt Go.RowKit
open Go.Proofs.Ytnjcnnjdogdbdaa
set_option maxRecDepth 100000 in
set_option maxHeartbeats 2000000 in
theorem walk (va vb vc : Value) (na nb nc : Nat) (fa fb fc : Nat → Nat) (W : World) (ha : Came W va na fa) (hb : Came W vb nb fb) (hc : Came W vc nc fc) (la : Lt na fa) (lb : Lt nb fb) (lc : Lt nc fc) (ba : (na : Int) ≤ 140737488351232) (bb : (nb : Int) ≤ 140737488351232) (bc : (nc : Int) ≤ 140737488351232) :
    Calls Try.prog 8 #[va, vb, vc] W fun e w' => e = .returned (.bool true) ∧ Below W.heap.size W w' := by
  obtain ⟨aa, ca, rfl, hca⟩ := ha.form
  obtain ⟨ab, cb, rfl, hcb⟩ := hb.form
  obtain ⟨ac, cc, rfl, hcc⟩ := hc.form
  have HA := Lib.hid ha.bts
  have HB := Lib.hid hb.bts
  have HC := Lib.hid hc.bts
  have HLA := Lib.hid la
  have HLB := Lib.hid lb
  have HLC := Lib.hid lc
  clear ha hb hc la lb lc
  go_enter Try.func8, Try.ntmps8
  go_wp2_with fail
  have hc := much_any _ 3 _ _ _ _ (rows3 W _ _ _ na nb nc fa fb fc HA.out HB.out HC.out HLA.out HLB.out HLC.out) (by omega) (le3 ba bb bc)
  refine hc.mono ?_
  clear hc
  rintro e w1 ⟨bl, rfl, hbl, hb⟩
  have hb1 : Below W.heap.size W w1 := via (bal (Below.refl _ _) _) hb
  have HA1 := Lib.hid (HA.out.keep hb1)
  have HB1 := Lib.hid (HB.out.keep hb1)
  have HC1 := Lib.hid (HC.out.keep hb1)
  have HW1 := Lib.hid hb1
  clear HA HB HC hb hb1
  cases bl with
  | true =>
    go_wp2
    go_ret
    exact ⟨rfl, HW1.out⟩
  | false =>
    have ht : 3 + na + nb + nc ≤ 100000 := hbl rfl
    clear hbl
    obtain ⟨m, hm⟩ : ∃ m, m = min na (min nb nc) := ⟨_, rfl⟩
    have hma : m ≤ na := by omega
    have hmb : m ≤ nb := by omega
    have hmc : m ≤ nc := by omega
    have hm2 : m ≤ 200000 := by omega
    have HM := Lib.hid hm
    clear hm ht
    go_wp2_with fail
    refine (cut_any aa ab ac na nb nc ca cb cc m _ hca hcb hcc HM.out).mono ?_
    rintro e w2 ⟨rfl, hb⟩
    have Hx2 := Lib.hid ((HA1.out.keep hb).cut hma)
    have Hy2 := Lib.hid ((HB1.out.keep hb).cut hmb)
    have Hz2 := Lib.hid ((HC1.out.keep hb).cut hmc)
    have HLx := Lib.hid (show Lt m fa from fun k hk => HLA.out k (by omega))
    have HLy := Lib.hid (show Lt m fb from fun k hk => HLB.out k (by omega))
    have HLz := Lib.hid (show Lt m fc from fun k hk => HLC.out k (by omega))
    have HLp := Lib.hid (xoLt HLx.out HLy.out)
    have HLq := Lib.hid (xoLt HLy.out HLz.out)
    have HLn := Lib.hid (xoLt HLx.out HLx.out)
    have HW2 := Lib.hid (via HW1.out hb)
    clear hb HA1 HB1 HC1 HLA HLB HLC HM HW1 hma hmb hmc hca hcb hcc ba bb bc
    go_wp2_with fail
    refine (of2 hm2 Hx2.out Hy2.out HLx.out HLy.out).mono ?_
    rintro e w3 ⟨adp, cpp, rfl, hP, hb⟩
    have Hx3 := Lib.hid (Hx2.out.keep hb)
    have Hy3 := Lib.hid (Hy2.out.keep hb)
    have Hz3 := Lib.hid (Hz2.out.keep hb)
    have Hp3 := Lib.hid hP
    have HW3 := Lib.hid (via HW2.out hb)
    clear hb Hx2 Hy2 Hz2 HW2 hP
    go_wp2_with fail
    refine (of2 hm2 Hy3.out Hz3.out HLy.out HLz.out).mono ?_
    rintro e w4 ⟨adq, cpq, rfl, hP, hb⟩
    have Hx4 := Lib.hid (Hx3.out.keep hb)
    have Hy4 := Lib.hid (Hy3.out.keep hb)
    have Hz4 := Lib.hid (Hz3.out.keep hb)
    have Hp4 := Lib.hid (Hp3.out.keep hb)
    have Hq4 := Lib.hid hP
    have HW4 := Lib.hid (via HW3.out hb)
    clear hb Hx3 Hy3 Hz3 Hp3 HW3 hP
    go_wp2_with fail
    refine (known_true _).mono ?_
    rintro e w5 ⟨rfl, hb⟩
    have Hx5 := Lib.hid (Hx4.out.keep hb)
    have Hy5 := Lib.hid (Hy4.out.keep hb)
    have Hz5 := Lib.hid (Hz4.out.keep hb)
    have Hp5 := Lib.hid (Hp4.out.keep hb)
    have Hq5 := Lib.hid (Hq4.out.keep hb)
    have HW5 := Lib.hid (via HW4.out hb)
    clear hb Hx4 Hy4 Hz4 Hp4 Hq4 HW4
    go_wp2_with fail
    refine (of2 hm2 Hp5.out Hz5.out HLp.out HLz.out).mono ?_
    rintro e w6 ⟨adl, cpl, rfl, hP, hb⟩
    have Hx6 := Lib.hid (Hx5.out.keep hb)
    have Hy6 := Lib.hid (Hy5.out.keep hb)
    have Hz6 := Lib.hid (Hz5.out.keep hb)
    have Hq6 := Lib.hid (Hq5.out.keep hb)
    have Hl6 := Lib.hid hP
    have HW6 := Lib.hid (via HW5.out hb)
    clear hb Hx5 Hy5 Hz5 Hp5 Hq5 HW5 hP
    go_wp2_with fail
    refine (of2 hm2 Hx6.out Hq6.out HLx.out HLq.out).mono ?_
    rintro e w7 ⟨adr, cpr, rfl, hP, hb⟩
    have Hx7 := Lib.hid (Hx6.out.keep hb)
    have Hy7 := Lib.hid (Hy6.out.keep hb)
    have Hz7 := Lib.hid (Hz6.out.keep hb)
    have Hl7 := Lib.hid (Hl6.out.keep hb)
    have Hr7 := Lib.hid hP
    have HW7 := Lib.hid (via HW6.out hb)
    clear hb Hx6 Hy6 Hz6 Hq6 Hl6 HW6 hP
    go_wp2_with fail
    refine (of2 hm2 Hx7.out Hx7.out HLx.out HLx.out).mono ?_
    rintro e w8 ⟨adn, cpn, rfl, hP, hb⟩
    have Hx8 := Lib.hid (Hx7.out.keep hb)
    have Hy8 := Lib.hid (Hy7.out.keep hb)
    have Hz8 := Lib.hid (Hz7.out.keep hb)
    have Hl8 := Lib.hid (Hl7.out.keep hb)
    have Hr8 := Lib.hid (Hr7.out.keep hb)
    have Hn8 := Lib.hid hP
    have HW8 := Lib.hid (via HW7.out hb)
    clear hb Hx7 Hy7 Hz7 Hl7 Hr7 HW7 hP
    go_wp2_with fail
    refine (of2 hm2 Hx8.out Hn8.out HLx.out HLn.out).mono ?_
    rintro e w9 ⟨adu, cpu, rfl, hP, hb⟩
    have Hx9 := Lib.hid (Hx8.out.keep hb)
    have Hy9 := Lib.hid (Hy8.out.keep hb)
    have Hz9 := Lib.hid (Hz8.out.keep hb)
    have Hl9 := Lib.hid (Hl8.out.keep hb)
    have Hr9 := Lib.hid (Hr8.out.keep hb)
    have Hn9 := Lib.hid (Hn8.out.keep hb)
    have Hu9 := Lib.hid hP
    have HW9 := Lib.hid (via HW8.out hb)
    clear hb Hx8 Hy8 Hz8 Hl8 Hr8 Hn8 HW8 hP
    go_wp2_with fail
    refine (of3 hm2 Hx9.out Hy9.out Hz9.out HLx.out HLy.out HLz.out).mono ?_
    rintro e w10 ⟨adt, cpt, rfl, hP, hb⟩
    have Hx10 := Lib.hid (Hx9.out.keep hb)
    have Hl10 := Lib.hid (Hl9.out.keep hb)
    have Hr10 := Lib.hid (Hr9.out.keep hb)
    have Hn10 := Lib.hid (Hn9.out.keep hb)
    have Hu10 := Lib.hid (Hu9.out.keep hb)
    have Ht10 := Lib.hid hP
    have HW10 := Lib.hid (via HW9.out hb)
    clear hb Hx9 Hy9 Hz9 Hl9 Hr9 Hn9 Hu9 HW9 hP
    have hz : allZ m (xo fa fa) = true := allZ_true fun k _ => Nat.xor_self _
    have HZ := Lib.hid hz
    clear hz
    go_wp2_with fail
    refine (HZ.out ▸ even1 hm2 Hn10.out HLn.out).mono ?_
    rintro e w11 ⟨rfl, hb⟩
    have Hx11 := Lib.hid (Hx10.out.keep hb)
    have Hl11 := Lib.hid (Hl10.out.keep hb)
    have Hr11 := Lib.hid (Hr10.out.keep hb)
    have Hu11 := Lib.hid (Hu10.out.keep hb)
    have Ht11 := Lib.hid (Ht10.out.keep hb)
    have HW11 := Lib.hid (via HW10.out hb)
    clear hb Hx10 Hl10 Hr10 Hn10 Hu10 Ht10 HW10
    go_wp2_with fail
    refine (same_V hm2 Hl11.out (Hr11.out.congr fun k _ => (Nat.xor_assoc _ _ _).symm)).mono ?_
    rintro e w12 ⟨rfl, hb⟩
    have Hx12 := Lib.hid (Hx11.out.keep hb)
    have Hl12 := Lib.hid (Hl11.out.keep hb)
    have Hu12 := Lib.hid (Hu11.out.keep hb)
    have Ht12 := Lib.hid (Ht11.out.keep hb)
    have HW12 := Lib.hid (via HW11.out hb)
    clear hb Hx11 Hl11 Hr11 Hu11 Ht11 HW11
    go_wp2_with fail
    refine (same_V hm2 Hl12.out Ht12.out).mono ?_
    rintro e w13 ⟨rfl, hb⟩
    have Hx13 := Lib.hid (Hx12.out.keep hb)
    have Hu13 := Lib.hid (Hu12.out.keep hb)
    have HW13 := Lib.hid (via HW12.out hb)
    clear hb Hx12 Hl12 Hu12 Ht12 HW12
    go_wp2_with fail
    refine (same_V hm2 Hu13.out (Hx13.out.congr fun k _ => by simp [xo])).mono ?_
    rintro e w14 ⟨rfl, hb⟩
    have Hx14 := Lib.hid (Hx13.out.keep hb)
    have HW14 := Lib.hid (via HW13.out hb)
    clear hb Hx13 Hu13 HW13
    go_wp2
    go_ret
    exact ⟨rfl, HW14.out⟩
theorem kinds8 : ∀ t ∈ Try.f8.params.toList, Try.prog.readableRec t = true ∧ t < Try.prog.types.size := by
  rw [Try.params8]
  intro t ht
  simp only [List.mem_cons, List.not_mem_nil, or_false] at ht
  rcases ht with rfl | rfl | rfl
  all_goals exact ⟨by kernel_rfl, of_decide_eq_true (by kernel_rfl)⟩
set_option maxRecDepth 100000 in
theorem lifted (os : Os) (started : os.Started) (H : Type) (enc : TypeId × Value → H) :
    ReturnsInHanded {} Try.checked os 8 .any (Rows.xorGroupSpec.pre6 enc Try.prog Try.f8 Rows.xorGroupRow.domain false) (Rows.xorGroupSpec.post enc Try.prog Try.f8 false true false false) := by
  refine returnsInHanded_of_change_sized (C := Try.checked) own started (by kernel_rfl) Try.func8
    (ChangeSpec.witness6 (enc := enc) (C := Try.checked) false ⟨#[], #[.slice none 0 0, .slice none 0 0, .slice none 0 0], []⟩ 8 (by kernel_rfl) (by kernel_rfl) (by kernel_rfl) (by kernel_rfl)) ?_
  intro W base args ds gs before hval0 hW hcnd hsz0 _
  have hval : ∀ (j : Nat) t v, Try.f8.params[j]? = some t → args[j]? = some v → Value.okWide Try.prog W .any base t v := hval0
  have hW' := hW
  obtain ⟨p, q, hA0, hV, rfl, hfz, hnd⟩ := hW
  have hA : DataW.TrodAll enc Try.prog W 0 (fun _ => true) true Try.f8.params.toList args.toList ds p := hA0
  have hA1 := hA
  have hsz : (DataW.weightsEach Try.prog (Try.f8.params.toList ++ []) (ds ++ gs)).all (· ≤ reachBytes) = true := hsz0
  rw [Try.params8] at hA hval hsz
  obtain ⟨v0, vs0, d0, ds0, p0, q0, hargs, rfl, rfl, h0, r0⟩ := trodAll_cons hA
  obtain ⟨v1, vs1, d1, ds1, p1, q1, rfl, rfl, rfl, h1, r1⟩ := trodAll_cons r0
  obtain ⟨v2, vs2, d2, ds2, p2, q2, rfl, rfl, rfl, h2, r2⟩ := trodAll_cons r1
  obtain ⟨rfl, rfl, rfl⟩ := trodAll_nil r2
  obtain rfl : args = #[v0, v1, v2] := by cases args; simp_all
  obtain ⟨rfl, rfl⟩ := trodVars_none hV
  obtain ⟨n0, f0, c0, l0, e0⟩ := open_bts (hval 0 25 v0 rfl rfl) h0
  have b0 := bnd hsz (j := 0) rfl rfl e0
  obtain ⟨n1, f1, c1, l1, e1⟩ := open_bts (hval 1 25 v1 rfl rfl) h1
  have b1 := bnd hsz (j := 1) rfl rfl e1
  obtain ⟨n2, f2, c2, l2, e2⟩ := open_bts (hval 2 25 v2 rfl rfl) h2
  have b2 := bnd hsz (j := 2) rfl rfl e2
  clear hval0 hsz0
  refine (walk v0 v1 v2 n0 n1 n2 f0 f1 f2 W c0 c1 c2 l0 l1 l2 b0 b1 b2).mono fun e W' ⟨he, bel⟩ => ?_
  subst he
  exact ⟨_, rfl, _, _, _, [], _, [], hW', trodAll_mk1 (shut_bool Try.underlying4 _), carryAll laidOut bel _ _ _ _ kinds8 hA1 (fun x hx => hW'.lt x (List.mem_append.2 (.inl hx))), rfl, bel.frame _, fun h => by cases h⟩
theorem proved : Rows.XorGroupSaid :=
  OpenClaim.holds_of_wide 8 Try.f8 rfl rfl rfl rfl rfl rfl rfl ⟨rfl, rfl, rfl, rfl, rfl⟩ rfl rfl rfl rfl rfl (by kernel_rfl) Try.func8 (by kernel_rfl)
    (of_decide_eq_true (by kernel_rfl)) (by unfold Func.isWrapper; first | (rw [if_pos (by decide +kernel)]; kernel_rfl) | (rw [if_neg (by decide +kernel)]; exact ⟨rfl, rfl⟩))
    (fun os started H enc _ => lifted os started H enc)
#print axioms proved
end Go.Proofs.Ytnjcnnjdogdbdaa.Group
