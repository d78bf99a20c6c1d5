/- XorFirst: the walk and the row. Conditions: as stated at each. -/
import Derived.Test.YtnjcnnjdogdbdaaXp
namespace Go.Proofs.Ytnjcnnjdogdbdaa.First
open Go.ChangeShapes Go.WideShapes Go.ChangeAt Go.RowKit
open Go.Proofs.Ytnjcnnjdogdbdaa
def LentQ (n : Nat) (f : Nat → Nat) (w : World) (e : Ending) (w' : World) : Prop :=
  ∃ g cap, e = .returned (.slice (some ⟨g, 0, none⟩) n cap) ∧ Lent w' g n cap f ∧ Below w.heap.size w w'
theorem lent_any {w : World} {v : Value} {n : Nat} {f : Nat → Nat} (hn : n ≤ 140737488351232) (h : Bts w v n f) : Calls Try.prog 27 #[v] w (LentQ n f w) := by
  obtain ⟨a, cap, rfl, h⟩ := h
  have fin : ∀ e w', LentP n f w e w' → LentQ n f w e w' := fun e w' ⟨g, c, he, ho, hb⟩ => ⟨g, c, he, Lent.of ho, hb⟩
  by_cases h0 : n = 0
  · subst h0
    exact (lent_nil a cap f w).mono fin
  · rcases h with h | ⟨b, o, rfl, hc⟩
    · exact absurd h h0
    · exact (lent_some b o n cap f w (by omega) hn hc).mono fin
set_option maxRecDepth 100000 in
set_option maxHeartbeats 1000000 in
theorem walk (va vb : Value) (n n' : Nat) (f g : Nat → Nat) (W : World) (ha : Came W va n f) (hb : Came W vb n' g) (ba : (n : Int) ≤ 140737488351232) (bb : (n' : Int) ≤ 140737488351232) :
    Calls Try.prog 6 #[va, vb] W fun e w' => e = .returned (.bool true) ∧ Below W.heap.size W w' := by
  obtain ⟨aa, ca, rfl, hca⟩ := ha.form
  obtain ⟨ab, cb, rfl, hcb⟩ := hb.form
  have HA := Lib.hid ha.bts
  have HB := Lib.hid hb.bts
  have hn : n ≤ 140737488351232 := by omega
  have hn' : n' ≤ 140737488351232 := by omega
  have hm : n ≤ 140737488355328 := by omega
  have hm' : n' ≤ 140737488355328 := by omega
  obtain ⟨V, hV⟩ : ∃ V, firstV n n' f g = V := ⟨_, rfl⟩
  have hV' : firstV n' n g f = V := (firstV_comm n' n g f).trans hV
  have hS : firstV n n f f = -1 := by rw [firstV_none (fun _ _ => rfl), if_pos rfl]
  have HV := Lib.hid hV
  have HV' := Lib.hid hV'
  have HS := Lib.hid hS
  clear ha hb hV hV' hS hca hcb
  go_enter Try.func6, Try.ntmps6
  go_wp2_with fail
  refine (lent_any hn HA.out).mono ?_
  rintro e w1 ⟨gx, cx, rfl, hX, hb⟩
  have HA1 := Lib.hid (HA.out.keep hb)
  have HB1 := Lib.hid (HB.out.keep hb)
  have HX1 := Lib.hid hX
  have HW1 := Lib.hid hb
  clear hb hX HA HB
  go_wp2_with fail
  refine (lent_any hn' HB1.out).mono ?_
  rintro e w2 ⟨gy, cy, rfl, hY, hb⟩
  have HA2 := Lib.hid (HA1.out.keep hb)
  have HB2 := Lib.hid (HB1.out.keep hb)
  have HX2 := Lib.hid (HX1.out.keep hb)
  have HY2 := Lib.hid hY
  have HW2 := Lib.hid (via HW1.out hb)
  clear hb hY HA1 HB1 HX1 HW1
  go_wp2_with fail
  refine (first_anyB hm hm' HX2.out.bts HY2.out.bts).mono ?_
  rintro e w3 ⟨he, hb⟩
  rw [HV.out] at he
  obtain rfl := he
  have HA3 := Lib.hid (HA2.out.keep hb)
  have HB3 := Lib.hid (HB2.out.keep hb)
  have HX3 := Lib.hid (HX2.out.keep hb)
  have HY3 := Lib.hid (HY2.out.keep hb)
  have HW3 := Lib.hid (via HW2.out hb)
  clear hb HA2 HB2 HX2 HY2 HW2
  go_wp2_with fail
  refine (first_anyB hm' hm HY3.out.bts HX3.out.bts).mono ?_
  rintro e w4 ⟨he, hb⟩
  rw [HV'.out] at he
  obtain rfl := he
  have HA4 := Lib.hid (HA3.out.keep hb)
  have HB4 := Lib.hid (HB3.out.keep hb)
  have HX4 := Lib.hid (HX3.out.keep hb)
  have HY4 := Lib.hid (HY3.out.keep hb)
  have HW4 := Lib.hid (via HW3.out hb)
  clear hb HA3 HB3 HX3 HY3 HW3
  go_wp2_with fail
  refine (whole_bytes gx n cx f _ _ hn HX4.out HA4.out).mono ?_
  rintro e w5 ⟨rfl, hb⟩
  have HA5 := Lib.hid (HA4.out.keep hb)
  have HB5 := Lib.hid (HB4.out.keep hb)
  have HX5 := Lib.hid (HX4.out.keep hb)
  have HY5 := Lib.hid (HY4.out.keep hb)
  have HW5 := Lib.hid (via HW4.out hb)
  clear hb HA4 HB4 HX4 HY4 HW4
  go_wp2_with fail
  refine (whole_bytes gy n' cy g _ _ hn' HY5.out HB5.out).mono ?_
  rintro e w6 ⟨rfl, hb⟩
  have HA6 := Lib.hid (HA5.out.keep hb)
  have HB6 := Lib.hid (HB5.out.keep hb)
  have HX6 := Lib.hid (HX5.out.keep hb)
  have HY6 := Lib.hid (HY5.out.keep hb)
  have HW6 := Lib.hid (via HW5.out hb)
  clear hb HA5 HB5 HX5 HY5 HW5
  go_wp2_with fail
  refine (known_true _).mono ?_
  rintro e w7 ⟨rfl, hb⟩
  have HA7 := Lib.hid (HA6.out.keep hb)
  have HB7 := Lib.hid (HB6.out.keep hb)
  have HX7 := Lib.hid (HX6.out.keep hb)
  have HY7 := Lib.hid (HY6.out.keep hb)
  have HW7 := Lib.hid (via HW6.out hb)
  clear hb HA6 HB6 HX6 HY6 HW6
  go_wp2_with fail
  refine (ref_first hm hm' HA7.out HB7.out).mono ?_
  rintro e w8 ⟨he, hb⟩
  rw [HV.out] at he
  obtain rfl := he
  have HA8 := Lib.hid (HA7.out.keep hb)
  have HB8 := Lib.hid (HB7.out.keep hb)
  have HX8 := Lib.hid (HX7.out.keep hb)
  have HY8 := Lib.hid (HY7.out.keep hb)
  have HW8 := Lib.hid (via HW7.out hb)
  clear hb HA7 HB7 HX7 HY7 HW7
  go_wp2_with fail
  refine (first_anyB hm hm HX8.out.bts HX8.out.bts).mono ?_
  rintro e w9 ⟨he, hb⟩
  rw [HS.out] at he
  obtain rfl := he
  have HA9 := Lib.hid (HA8.out.keep hb)
  have HB9 := Lib.hid (HB8.out.keep hb)
  have HX9 := Lib.hid (HX8.out.keep hb)
  have HY9 := Lib.hid (HY8.out.keep hb)
  have HW9 := Lib.hid (via HW8.out hb)
  clear hb HA8 HB8 HX8 HY8 HW8
  go_wp2
  go_ret
  exact ⟨rfl, HW9.out⟩
theorem kinds6 : ∀ t ∈ Try.f6.params.toList, Try.prog.readableRec t = true ∧ t < Try.prog.types.size := by
  rw [Try.params6]
  intro t ht
  simp only [List.mem_cons, List.not_mem_nil, or_false] at ht
  rcases ht with rfl | rfl
  all_goals exact ⟨by kernel_rfl, of_decide_eq_true (by kernel_rfl)⟩
set_option maxRecDepth 100000 in
theorem lifted (os : Os) (started : os.Started) (H : Type) (enc : TypeId × Value → H) :
    ReturnsInHanded {} Try.checked os 6 .any (Rows.xorFirstSpec.pre6 enc Try.prog Try.f6 Rows.xorFirstRow.domain false) (Rows.xorFirstSpec.post enc Try.prog Try.f6 false true false false) := by
  refine returnsInHanded_of_change_sized (C := Try.checked) own started (by kernel_rfl) Try.func6
    (ChangeSpec.witness6 (enc := enc) (C := Try.checked) false ⟨#[], #[.slice none 0 0, .slice none 0 0], []⟩ 8 (by kernel_rfl) (by kernel_rfl) (by kernel_rfl) (by kernel_rfl)) ?_
  intro W base args ds gs before hval0 hW hcnd hsz0 _
  have hval : ∀ (j : Nat) t v, Try.f6.params[j]? = some t → args[j]? = some v → Value.okWide Try.prog W .any base t v := hval0
  have hW' := hW
  obtain ⟨p, q, hA0, hV, rfl, hfz, hnd⟩ := hW
  have hA : DataW.TrodAll enc Try.prog W 0 (fun _ => true) true Try.f6.params.toList args.toList ds p := hA0
  have hA1 := hA
  have hsz : (DataW.weightsEach Try.prog (Try.f6.params.toList ++ []) (ds ++ gs)).all (· ≤ reachBytes) = true := hsz0
  rw [Try.params6] at hA hval hsz
  obtain ⟨v0, vs0, d0, ds0, p0, q0, hargs, rfl, rfl, h0, r0⟩ := trodAll_cons hA
  obtain ⟨v1, vs1, d1, ds1, p1, q1, rfl, rfl, rfl, h1, r1⟩ := trodAll_cons r0
  obtain ⟨rfl, rfl, rfl⟩ := trodAll_nil r1
  obtain rfl : args = #[v0, v1] := by cases args; simp_all
  obtain ⟨rfl, rfl⟩ := trodVars_none hV
  obtain ⟨n0, f0, c0, l0, e0⟩ := open_bts (hval 0 25 v0 rfl rfl) h0
  have b0 := bnd hsz (j := 0) rfl rfl e0
  obtain ⟨n1, f1, c1, l1, e1⟩ := open_bts (hval 1 25 v1 rfl rfl) h1
  have b1 := bnd hsz (j := 1) rfl rfl e1
  clear hval0 hsz0
  refine (walk v0 v1 n0 n1 f0 f1 W c0 c1 b0 b1).mono fun e W' ⟨he, bel⟩ => ?_
  subst he
  exact ⟨_, rfl, _, _, _, [], _, [], hW', trodAll_mk1 (shut_bool Try.underlying4 _), carryAll laidOut bel _ _ _ _ kinds6 hA1 (fun x hx => hW'.lt x (List.mem_append.2 (.inl hx))), rfl, bel.frame _, fun h => by cases h⟩
theorem proved : Rows.XorFirstSaid :=
  OpenClaim.holds_of_wide 6 Try.f6 rfl rfl rfl rfl rfl rfl rfl ⟨rfl, rfl, rfl, rfl, rfl⟩ rfl rfl rfl rfl rfl (by kernel_rfl) Try.func6 (by kernel_rfl)
    (of_decide_eq_true (by kernel_rfl)) (by unfold Func.isWrapper; first | (rw [if_pos (by decide +kernel)]; kernel_rfl) | (rw [if_neg (by decide +kernel)]; exact ⟨rfl, rfl⟩))
    (fun os started H enc _ => lifted os started H enc)
#print axioms proved
end Go.Proofs.Ytnjcnnjdogdbdaa.First
