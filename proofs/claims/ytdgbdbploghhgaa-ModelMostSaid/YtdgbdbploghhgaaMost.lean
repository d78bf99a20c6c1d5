/- 'ModelMost': whatever the geometry, the ring, the kind and the puts: model.Most and the reference's Most answer alike, and the known example stands: the law returns true, and its arguments read as they did. Conditions: none. -/
import Derived.Test.YtdgbdbploghhgaaGg
import Derived.ProofKit
import Derived.OpenShut
import Derived.Lib.SmallJoins
namespace Go.Proofs.Ytdgbdbploghhgaa
open Go.ChangeShapes Go.WideShapes Go.ChangeAt Go.RowKit
theorem ne_beq {a b : Int} (h : ¬ a = b) : (a == b) = false := by simpa using h
def MostB (m c s ring k puts v e : Int) : Prop :=
  (0 ≤ e ∧ e ≤ 60) ∧ (∀ w, Calls Try.prog 9 #[G m c s, .int .i64 ring, .int .u8 k, .int .i64 puts] w fun x w' => x = .returned (.tuple #[.int .i64 v, .int .u16 e]) ∧ Below w.heap.size w w') ∧
  (∀ w, Calls Try.prog 10 #[G m c s, .int .i64 ring, .int .u8 k, .int .i64 puts] w fun x w' => x = .returned (.tuple #[.int .i64 v, .int .i64 e]) ∧ Below w.heap.size w w')
theorem most_both (m c s ring k puts : Int) : ∃ v e, MostB m c s ring k puts v e := by
  by_cases h : Good m c s
  · by_cases k2 : k = 2
    · subst k2
      by_cases h1 : 5 ≤ ring
      · by_cases h2 : ring ≤ 2048
        · by_cases h3 : 0 ≤ puts
          · by_cases h4 : puts ≤ 256
            · exact ⟨_, 0, by omega, fun w => mmost_2 m c s ring puts w h h1 h2 h3 h4, fun w => rmost_2 m c s ring puts w h h1 h2 h3 h4⟩
            · exact ⟨0, 1, by omega, fun w => mmost_wd m c s ring puts w h h1 h2 h3 (by omega), fun w => rmost_wd m c s ring puts w h h1 h2 h3 (by omega)⟩
          · exact ⟨0, 1, by omega, fun w => mmost_wc m c s ring puts w h h1 h2 (by omega), fun w => rmost_wc m c s ring puts w h h1 h2 (by omega)⟩
        · exact ⟨0, 1, by omega, fun w => mmost_wb m c s ring puts w h h1 (by omega), fun w => rmost_wb m c s ring puts w h h1 (by omega)⟩
      · exact ⟨0, 1, by omega, fun w => mmost_wa m c s ring puts w h (by omega), fun w => rmost_wa m c s ring puts w h (by omega)⟩
    · have hk := ne_beq k2
      by_cases h1 : 5 ≤ ring
      · by_cases h2 : ring ≤ 2048
        · by_cases h3 : 0 ≤ puts
          · by_cases h4 : puts ≤ s * c * (m - 1)
            · by_cases k1 : k = 1
              · subst k1; exact ⟨_, 0, by omega, fun w => mmost_1 m c s ring puts w h h1 h2 h3 h4, fun w => rmost_1 m c s ring puts w h h1 h2 h3 h4⟩
              by_cases k3 : k = 3
              · subst k3; exact ⟨_, 0, by omega, fun w => mmost_3 m c s ring puts w h h1 h2 h3 h4, fun w => rmost_3 m c s ring puts w h h1 h2 h3 h4⟩
              by_cases k4 : k = 4
              · subst k4; exact ⟨_, 0, by omega, fun w => mmost_4 m c s ring puts w h h1 h2 h3 h4, fun w => rmost_4 m c s ring puts w h h1 h2 h3 h4⟩
              by_cases k5 : k = 5
              · subst k5; exact ⟨_, 0, by omega, fun w => mmost_5 m c s ring puts w h h1 h2 h3 h4, fun w => rmost_5 m c s ring puts w h h1 h2 h3 h4⟩
              by_cases k6 : k = 6
              · subst k6; exact ⟨_, 0, by omega, fun w => mmost_6 m c s ring puts w h h1 h2 h3 h4, fun w => rmost_6 m c s ring puts w h h1 h2 h3 h4⟩
              by_cases k9 : k = 9
              · subst k9; exact ⟨_, 0, by omega, fun w => mmost_9 m c s ring puts w h h1 h2 h3 h4, fun w => rmost_9 m c s ring puts w h h1 h2 h3 h4⟩
              exact ⟨0, 1, by omega, fun w => mmost_none m c s ring k puts w h (ne_beq k1) hk (ne_beq k3) (ne_beq k4) (ne_beq k5) (ne_beq k6) (ne_beq k9), fun w => rmost_none m c s ring k puts w h (ne_beq k1) hk (ne_beq k3) (ne_beq k4) (ne_beq k5) (ne_beq k6) (ne_beq k9)⟩
            · exact ⟨0, 1, by omega, fun w => mmost_od m c s ring k puts w h hk h1 h2 h3 (by omega), fun w => rmost_od m c s ring k puts w h hk h1 h2 h3 (by omega)⟩
          · exact ⟨0, 1, by omega, fun w => mmost_oc m c s ring k puts w h hk h1 h2 (by omega), fun w => rmost_oc m c s ring k puts w h hk h1 h2 (by omega)⟩
        · exact ⟨0, 1, by omega, fun w => mmost_ob m c s ring k puts w h hk h1 (by omega), fun w => rmost_ob m c s ring k puts w h hk h1 (by omega)⟩
      · exact ⟨0, 1, by omega, fun w => mmost_oa m c s ring k puts w h hk (by omega), fun w => rmost_oa m c s ring k puts w h hk (by omega)⟩
  · exact ⟨0, 60, by omega, fun w => mmost_bad m c s ring k puts w h, fun w => rmost_bad m c s ring k puts w h⟩
theorem most_known (w : World) : Calls Try.prog 9 #[G 3 1 2, .int .i64 10, .int .u8 2, .int .i64 2] w fun x w' => x = .returned (.tuple #[.int .i64 130, .int .u16 0]) ∧ Below w.heap.size w w' :=
  mmost_2 3 1 2 10 2 w ⟨by omega, by omega, by omega, by omega, by omega, by omega⟩ (by omega) (by omega) (by omega) (by omega)
theorem most_walk (m c s ring k puts : Int) (w : World) :
    Calls Try.prog 3 #[G m c s, .int .i64 ring, .int .u8 k, .int .i64 puts] w fun e w' => e = .returned (.bool true) ∧ Below w.heap.size w w' := by
  obtain ⟨v, e0, hM⟩ := most_both m c s ring k puts
  obtain ⟨⟨he1, he2⟩, hM1, hM2⟩ := hM
  have H1 := Lib.hid hM1
  have H2 := Lib.hid hM2
  clear hM1 hM2
  go_enter Try.func3, Try.ntmps3
  go_wp2_with fail
  refine (H1.out _).mono ?_
  rintro e w1 ⟨rfl, hb1⟩
  obtain ⟨k1, f1, z1⟩ := kp hb1 w.heap.size (by go_size)
  go_wp2_with fail
  refine (H2.out _).mono ?_
  rintro e w2 ⟨rfl, hb2⟩
  go_wp2_with fail
  refine (most_known _).mono ?_
  rintro e w3 ⟨rfl, hb3⟩
  go_wp2
  go_returns
  refine ⟨rfl, ?_⟩
  (repeat' (first | (with_reducible exact Below.refl _ _) | (with_reducible refine Below.setCell ?_ (by go_size) _) | (with_reducible refine bal ?_ _) | (with_reducible refine Below.drew ?_) | (with_reducible refine bdn ?_ _) | (with_reducible refine via ?_ (by with_reducible assumption))))
theorem laidOut : laidOutB Try.prog = true := by kernel_rfl
theorem own : ownKnob Try.prog.godebug = none := by kernel_rfl
theorem cells23 : Try.prog.cellsOf 23 = 3 := by kernel_rfl
/-- Arguments that read as data read so again where nothing that was there has turned. -/
theorem carryAll {H : Type} {enc : TypeId × Value → H} {P : Program} (hl : laidOutB P = true) {W W' : World} (hb : Below W.heap.size W W') : ∀ (ts : List TypeId) (vs : List Value) (ds : List (DataW H)) (ps : List MemPlace),
    (∀ t ∈ ts, P.readableRec t = true ∧ t < P.types.size) → DataW.TrodAll enc P W 0 (fun _ => true) true ts vs ds ps → (∀ x ∈ ps, x.block < W.heap.size) →
    DataW.TrodAll enc P W' 0 (fun b => decide (b < W.heap.size)) true ts vs ds ps
  | [], _, _, _, _, h, _ => by
    obtain ⟨rfl, rfl, rfl⟩ := trodAll_nil h
    exact trodAll_mk0
  | t :: ts, vs, ds, ps, ht, h, hlt => by
    obtain ⟨v, vs1, d, ds1, a, b, rfl, rfl, rfl, h1, h2⟩ := trodAll_cons h
    exact trodAll_cons_mk (Below.trod hl (ht t (by simp)).1 (ht t (by simp)).2 h1 hb (fun x hx => hlt x (by simp [hx])))
      (carryAll hl hb ts vs1 ds1 b (fun t' ht' => ht t' (by simp [ht'])) h2 (fun x hx => hlt x (by simp [hx])))
theorem kinds3 : ∀ t ∈ Try.f3.params.toList, Try.prog.readableRec t = true ∧ t < Try.prog.types.size := by
  rw [Try.params3]
  intro t ht
  simp only [List.mem_cons, List.not_mem_nil, or_false] at ht
  rcases ht with rfl | rfl | rfl | rfl
  all_goals exact ⟨by kernel_rfl, of_decide_eq_true (by kernel_rfl)⟩
set_option maxRecDepth 100000 in
theorem lifted (os : Os) (started : os.Started) (H : Type) (enc : TypeId × Value → H) :
    ReturnsInHanded {} Try.checked os 3 .any (Rows.modelMostSpec.pre6 enc Try.prog Try.f3 Rows.modelMostRow.domain false) (Rows.modelMostSpec.post enc Try.prog Try.f3 false true false false) := by
  refine returnsInHanded_of_change (C := Try.checked) own started (by kernel_rfl) Try.func3
    (ChangeSpec.witness6 (enc := enc) (C := Try.checked) false ⟨#[], #[G 0 0 0, .int .i64 0, .int .u8 0, .int .i64 0], []⟩ 8 (by kernel_rfl) (by kernel_rfl) (by kernel_rfl) (by kernel_rfl)) ?_
  intro W base args ds gs before hval0 hW hcnd _
  have hval : ∀ (j : Nat) t v, Try.f3.params[j]? = some t → args[j]? = some v → Value.okWide Try.prog W .any base t v := hval0
  have hW' := hW
  obtain ⟨p, q, hA0, hV, rfl, hfz, hnd⟩ := hW
  have hA : DataW.TrodAll enc Try.prog W 0 (fun _ => true) true Try.f3.params.toList args.toList ds p := hA0
  have hA1 := hA
  rw [Try.params3] at hA hval
  obtain ⟨v0, vs0, d0, ds0, p0, q0, hargs, rfl, rfl, h0, r0⟩ := trodAll_cons hA
  obtain ⟨v1, vs1, d1, ds1, p1, q1, rfl, rfl, rfl, h1, r1⟩ := trodAll_cons r0
  obtain ⟨v2, vs2, d2, ds2, p2, q2, rfl, rfl, rfl, h2, r2⟩ := trodAll_cons r1
  obtain ⟨v3, vs3, d3, ds3, p3, q3, rfl, rfl, rfl, h3, r3⟩ := trodAll_cons r2
  obtain ⟨rfl, rfl, rfl⟩ := trodAll_nil r3
  obtain rfl : args = #[v0, v1, v2, v3] := by cases args; simp_all
  obtain ⟨rfl, rfl⟩ := trodVars_none hV
  obtain ⟨x0, x1, x2, y0, y1, y2, n0, rfl, rfl, rfl, hy0, hy1, hy2⟩ := Joins.open_agg3 Try.underlying23 (by kernel_rfl) cells23 (hval 0 23 v0 rfl rfl) h0
  obtain ⟨m, em, rfl, wm⟩ := DataW.trod_int Try.underlying3 hy0
  obtain ⟨c, ec, rfl, wc⟩ := DataW.trod_int Try.underlying3 hy1
  obtain ⟨s, es, rfl, ws⟩ := DataW.trod_int Try.underlying3 hy2
  simp only [List.cons.injEq, and_true] at em ec es
  subst em ec es
  obtain ⟨a1, rfl, rfl, rfl, w1⟩ := open_int Try.underlying3 (hval 1 3 v1 rfl rfl) h1
  obtain ⟨a2, rfl, rfl, rfl, w2⟩ := open_int Try.underlying5 (hval 2 5 v2 rfl rfl) h2
  obtain ⟨a3, rfl, rfl, rfl, w3⟩ := open_int Try.underlying3 (hval 3 3 v3 rfl rfl) h3
  clear hval0
  refine (most_walk m c s a1 a2 a3 W).mono fun e W' ⟨he, bel⟩ => ?_
  subst he
  exact ⟨_, rfl, _, _, _, [], _, [], hW', trodAll_mk1 (shut_bool Try.underlying4 _), carryAll laidOut bel _ _ _ _ kinds3 hA1 (fun x hx => hW'.lt x (by simp at hx)), rfl, bel.frame _, fun h => by cases h⟩
theorem modelMost_holds : Rows.ModelMostSaid :=
  OpenClaim.holds_of_wide 3 Try.f3 rfl rfl rfl rfl rfl rfl rfl ⟨rfl, rfl, rfl, rfl, rfl⟩ rfl rfl rfl rfl rfl (by kernel_rfl) Try.func3 (by kernel_rfl)
    (of_decide_eq_true (by kernel_rfl)) (by unfold Func.isWrapper; first | (rw [if_pos (by decide +kernel)]; kernel_rfl) | (rw [if_neg (by decide +kernel)]; exact ⟨rfl, rfl⟩))
    (fun os started H enc _ => lifted os started H enc)
#print axioms modelMost_holds
end Go.Proofs.Ytdgbdbploghhgaa
