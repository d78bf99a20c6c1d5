/- 'GeomDoes': whatever the geometry and the numbers: Check, Rows, Blocks, Of, Parity, Members and At answer as the reference does: the law returns true, and its arguments read as they did. Conditions: none. -/
import Derived.Test.YtdgbdbploghhgaaBo
import Derived.Test.YtdgbdbploghhgaaLw
namespace Go.Proofs.Ytdgbdbploghhgaa.Does
open Go.ChangeShapes Go.WideShapes Go.ChangeAt Go.RowKit
set_option maxRecDepth 100000 in
set_option maxHeartbeats 1600000 in
theorem walk (m c s block member row : Int) (w : World) :
    Calls Try.prog 4 #[G m c s, .int .i64 block, .int .i64 member, .int .i64 row] w fun e w' => e = .returned (.bool true) ∧ Below w.heap.size w w' := by
  obtain ⟨e1, ⟨e11, e12⟩, h11⟩ := chB m c s
  obtain ⟨p1, p2, p3, p4, e2, ⟨e21, e22⟩, h12⟩ := ofB m c s block
  obtain ⟨q3, e3, ⟨e31, e32⟩, h13⟩ := parB m c s row
  obtain ⟨n4, f4, e4, ⟨e41, e42⟩, hn4, h14⟩ := meB m c s row
  obtain ⟨q5, e5, is5, ⟨e51, e52⟩, h15⟩ := atB m c s member row
  obtain ⟨r1, h21⟩ := rowB m c s
  obtain ⟨r2, h23⟩ := blB m c s
  have H11 := Lib.hid h11
  have H12 := Lib.hid h12
  have H13 := Lib.hid h13
  have H14 := Lib.hid h14
  have H15 := Lib.hid h15
  have H21 := Lib.hid h21
  have H23 := Lib.hid h23
  clear h11 h12 h13 h14 h15 h21 h23
  have c1 : IntKind.i64.wrap e1 = e1 := IntWalk.i64_in _ (by omega)
  go_enter Try.func4, Try.ntmps4
  go_wp2_with fail
  refine (H11.out.1 _).mono ?_
  rintro e w1 ⟨rfl, hb1⟩
  obtain ⟨k0hb1, f0hb1, z0hb1⟩ := kp hb1 (w.heap.size) (by go_size)
  go_wp2_with fail
  refine (H12.out.1 _).mono ?_
  rintro e w2 ⟨rfl, hb2⟩
  obtain ⟨k0hb2, f0hb2, z0hb2⟩ := kp hb2 (w.heap.size) (by go_size)
  go_wp2_with fail
  refine (H13.out.1 _).mono ?_
  rintro e w3 ⟨rfl, hb3⟩
  obtain ⟨k0hb3, f0hb3, z0hb3⟩ := kp hb3 (w.heap.size) (by go_size)
  obtain ⟨k1hb3, f1hb3, z1hb3⟩ := kp hb3 (w2.heap.size) (by go_size)
  go_wp2_with fail
  refine (H14.out.1 _).mono ?_
  rintro e w4 ⟨v1, rfl, hv1, hb4⟩
  obtain ⟨k0hb4, f0hb4, z0hb4⟩ := kp hb4 (w.heap.size) (by go_size)
  obtain ⟨k1hb4, f1hb4, z1hb4⟩ := kp hb4 (w2.heap.size) (by go_size)
  have V1 := Lib.hid hv1
  clear hv1
  obtain ⟨a1, cap1, rfl, -⟩ := id V1
  go_wp2_with fail
  refine (H15.out.1 _).mono ?_
  rintro e w5 ⟨rfl, hb5⟩
  obtain ⟨k0hb5, f0hb5, z0hb5⟩ := kp hb5 (w.heap.size) (by go_size)
  obtain ⟨k1hb5, f1hb5, z1hb5⟩ := kp hb5 (w2.heap.size) (by go_size)
  go_wp2_with fail
  refine (H12.out.2 _).mono ?_
  rintro e w6 ⟨rfl, hb6⟩
  obtain ⟨k0hb6, f0hb6, z0hb6⟩ := kp hb6 (w.heap.size) (by go_size)
  obtain ⟨k1hb6, f1hb6, z1hb6⟩ := kp hb6 (w2.heap.size) (by go_size)
  go_wp2_with fail
  refine (H13.out.2 _).mono ?_
  rintro e w7 ⟨rfl, hb7⟩
  obtain ⟨k0hb7, f0hb7, z0hb7⟩ := kp hb7 (w.heap.size) (by go_size)
  obtain ⟨k1hb7, f1hb7, z1hb7⟩ := kp hb7 (w2.heap.size) (by go_size)
  obtain ⟨k2hb7, f2hb7, z2hb7⟩ := kp hb7 (w6.heap.size) (by go_size)
  go_wp2_with fail
  refine (H14.out.2 _).mono ?_
  rintro e w8 ⟨v2, rfl, hv2, hb8⟩
  obtain ⟨k0hb8, f0hb8, z0hb8⟩ := kp hb8 (w.heap.size) (by go_size)
  obtain ⟨k1hb8, f1hb8, z1hb8⟩ := kp hb8 (w2.heap.size) (by go_size)
  obtain ⟨k2hb8, f2hb8, z2hb8⟩ := kp hb8 (w6.heap.size) (by go_size)
  have V2 := Lib.hid hv2
  clear hv2
  obtain ⟨a2, cap2, rfl, -⟩ := id V2
  go_wp2_with fail
  refine (H15.out.2 _).mono ?_
  rintro e w9 ⟨rfl, hb9⟩
  obtain ⟨k0hb9, f0hb9, z0hb9⟩ := kp hb9 (w.heap.size) (by go_size)
  obtain ⟨k1hb9, f1hb9, z1hb9⟩ := kp hb9 (w2.heap.size) (by go_size)
  obtain ⟨k2hb9, f2hb9, z2hb9⟩ := kp hb9 (w6.heap.size) (by go_size)
  go_wp2_with fail
  go_region_held3 (fun w' => w'.cell? ⟨w.heap.size, 0, none⟩ = some (.int .i64 m) ∧ w'.cell? ⟨w.heap.size, 1, none⟩ = some (.int .i64 c) ∧ w'.cell? ⟨w.heap.size, 2, none⟩ = some (.int .i64 s)) ((simp [*, go_sem]; done))
    (first | (go_at_call 20; refine (H11.out.2 _).mono ?_; rintro e w10 ⟨rfl, hb10⟩; obtain ⟨k0hb10, f0hb10, z0hb10⟩ := kp hb10 (w.heap.size) (by go_size); obtain ⟨k1hb10, f1hb10, z1hb10⟩ := kp hb10 (w2.heap.size) (by go_size); obtain ⟨k2hb10, f2hb10, z2hb10⟩ := kp hb10 (w6.heap.size) (by go_size)) | (go_at_call 21; refine (H21.out.1 _).mono ?_; rintro e w11 ⟨rfl, hb11⟩; obtain ⟨k0hb11, f0hb11, z0hb11⟩ := kp hb11 (w.heap.size) (by go_size); obtain ⟨k1hb11, f1hb11, z1hb11⟩ := kp hb11 (w2.heap.size) (by go_size); obtain ⟨k2hb11, f2hb11, z2hb11⟩ := kp hb11 (w6.heap.size) (by go_size)) | (go_at_call 22; refine (H21.out.2 _).mono ?_; rintro e w12 ⟨rfl, hb12⟩; obtain ⟨k0hb12, f0hb12, z0hb12⟩ := kp hb12 (w.heap.size) (by go_size); obtain ⟨k1hb12, f1hb12, z1hb12⟩ := kp hb12 (w2.heap.size) (by go_size); obtain ⟨k2hb12, f2hb12, z2hb12⟩ := kp hb12 (w6.heap.size) (by go_size)) | (go_at_call 23; refine (H23.out.1 _).mono ?_; rintro e w13 ⟨rfl, hb13⟩; obtain ⟨k0hb13, f0hb13, z0hb13⟩ := kp hb13 (w.heap.size) (by go_size); obtain ⟨k1hb13, f1hb13, z1hb13⟩ := kp hb13 (w2.heap.size) (by go_size); obtain ⟨k2hb13, f2hb13, z2hb13⟩ := kp hb13 (w6.heap.size) (by go_size)) | (go_at_call 24; refine (H23.out.2 _).mono ?_; rintro e w14 ⟨rfl, hb14⟩; obtain ⟨k0hb14, f0hb14, z0hb14⟩ := kp hb14 (w.heap.size) (by go_size); obtain ⟨k1hb14, f1hb14, z1hb14⟩ := kp hb14 (w2.heap.size) (by go_size); obtain ⟨k2hb14, f2hb14, z2hb14⟩ := kp hb14 (w6.heap.size) (by go_size)))
  go_wp2_with fail
  have B8 : Below w8.heap.size w8 w14 := by
    (repeat' (first | (with_reducible exact Below.refl _ _) | (with_reducible refine Below.setCell ?_ (by go_size) _) | (with_reducible refine bal ?_ _) | (with_reducible refine Below.drew ?_) | (with_reducible refine bdn ?_ _) | (with_reducible refine via ?_ (by with_reducible assumption))))
  have B4 : Below w4.heap.size w4 w14 := by
    (repeat' (first | (with_reducible exact Below.refl _ _) | (with_reducible refine Below.setCell ?_ (by go_size) _) | (with_reducible refine bal ?_ _) | (with_reducible refine Below.drew ?_) | (with_reducible refine bdn ?_ _) | (with_reducible refine via ?_ (by with_reducible assumption))))
  refine (same_V hn4 (V1.out.keep B4) (V2.out.keep B8)).mono ?_
  rintro e w15 ⟨rfl, hb15⟩
  clear B4 B8
  go_wp2_with fail
  refine (known_true _).mono ?_
  rintro e w16 ⟨rfl, hb16⟩
  go_wp2
  go_returns
  refine ⟨rfl, ?_⟩
  (repeat' (first | (with_reducible exact Below.refl _ _) | (with_reducible refine Below.setCell ?_ (by go_size) _) | (with_reducible refine bal ?_ _) | (with_reducible refine Below.drew ?_) | (with_reducible refine bdn ?_ _) | (with_reducible refine via ?_ (by with_reducible assumption))))
theorem kinds4 : ∀ t ∈ Try.f4.params.toList, Try.prog.readableRec t = true ∧ t < Try.prog.types.size := by
  rw [Try.params4]
  intro t ht
  simp only [List.mem_cons, List.not_mem_nil, or_false] at ht
  rcases ht with rfl | rfl | rfl | rfl
  all_goals exact ⟨by kernel_rfl, of_decide_eq_true (by kernel_rfl)⟩
set_option maxRecDepth 100000 in
theorem lifted (os : Os) (started : os.Started) (H : Type) (enc : TypeId × Value → H) :
    ReturnsInHanded {} Try.checked os 4 .any (Rows.geomDoesSpec.pre6 enc Try.prog Try.f4 Rows.geomDoesRow.domain false) (Rows.geomDoesSpec.post enc Try.prog Try.f4 false true false false) := by
  refine returnsInHanded_of_change (C := Try.checked) own started (by kernel_rfl) Try.func4
    (ChangeSpec.witness6 (enc := enc) (C := Try.checked) false ⟨#[], #[G 0 0 0, .int .i64 0, .int .i64 0, .int .i64 0], []⟩ 8 (by kernel_rfl) (by kernel_rfl) (by kernel_rfl) (by kernel_rfl)) ?_
  intro W base args ds gs before hval0 hW hcnd _
  have hval : ∀ (j : Nat) t v, Try.f4.params[j]? = some t → args[j]? = some v → Value.okWide Try.prog W .any base t v := hval0
  have hW' := hW
  obtain ⟨p, q, hA0, hV, rfl, hfz, hnd⟩ := hW
  have hA : DataW.TrodAll enc Try.prog W 0 (fun _ => true) true Try.f4.params.toList args.toList ds p := hA0
  have hA1 := hA
  rw [Try.params4] at hA hval
  obtain ⟨v0, vs0, d0, ds0, p0, q0, hargs, rfl, rfl, h0, r0⟩ := trodAll_cons hA
  obtain ⟨v1, vs1, d1, ds1, p1, q1, rfl, rfl, rfl, h1, r1⟩ := trodAll_cons r0
  obtain ⟨v2, vs2, d2, ds2, p2, q2, rfl, rfl, rfl, h2, r2⟩ := trodAll_cons r1
  obtain ⟨v3, vs3, d3, ds3, p3, q3, rfl, rfl, rfl, h3, r3⟩ := trodAll_cons r2
  obtain ⟨rfl, rfl, rfl⟩ := trodAll_nil r3
  obtain rfl : args = #[v0, v1, v2, v3] := by cases args; simp_all
  obtain ⟨rfl, rfl⟩ := trodVars_none hV
  obtain ⟨x0, x1, x2, y0, y1, y2, n0, rfl, rfl, rfl, hy0, hy1, hy2⟩ := Joins.open_agg3 Try.underlying23 (by kernel_rfl) cells23 (hval 0 23 v0 rfl rfl) h0
  obtain ⟨m0, em, rfl, wm0⟩ := DataW.trod_int Try.underlying3 hy0
  obtain ⟨c0, ec, rfl, wc0⟩ := DataW.trod_int Try.underlying3 hy1
  obtain ⟨s0, es, rfl, ws0⟩ := DataW.trod_int Try.underlying3 hy2
  simp only [List.cons.injEq, and_true] at em ec es
  subst em ec es
  obtain ⟨a1, rfl, rfl, rfl, w1⟩ := open_int Try.underlying3 (hval 1 3 v1 rfl rfl) h1
  obtain ⟨a2, rfl, rfl, rfl, w2⟩ := open_int Try.underlying3 (hval 2 3 v2 rfl rfl) h2
  obtain ⟨a3, rfl, rfl, rfl, w3⟩ := open_int Try.underlying3 (hval 3 3 v3 rfl rfl) h3
  clear hval0
  refine (walk m0 c0 s0 a1 a2 a3 W).mono fun e W' ⟨he, bel⟩ => ?_
  subst he
  exact ⟨_, rfl, _, _, _, [], _, [], hW', trodAll_mk1 (shut_bool Try.underlying4 _), carryAll laidOut bel _ _ _ _ kinds4 hA1 (fun x hx => hW'.lt x (List.mem_append.2 (.inl hx))), rfl, bel.frame _, fun h => by cases h⟩
theorem proved : Rows.GeomDoesSaid :=
  OpenClaim.holds_of_wide 4 Try.f4 rfl rfl rfl rfl rfl rfl rfl ⟨rfl, rfl, rfl, rfl, rfl⟩ rfl rfl rfl rfl rfl (by kernel_rfl) Try.func4 (by kernel_rfl)
    (of_decide_eq_true (by kernel_rfl)) (by unfold Func.isWrapper; first | (rw [if_pos (by decide +kernel)]; kernel_rfl) | (rw [if_neg (by decide +kernel)]; exact ⟨rfl, rfl⟩))
    (fun os started H enc _ => lifted os started H enc)
#print axioms proved
end Go.Proofs.Ytdgbdbploghhgaa.Does
