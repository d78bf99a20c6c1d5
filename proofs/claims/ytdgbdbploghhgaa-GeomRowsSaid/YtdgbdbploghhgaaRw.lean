/- 'GeomRows': all rows of a stripe have their parity on one member, the one behind it begins the stripe's blocks, and blocks that are Chunk apart are in one row: the law returns true, and its arguments read as they did. Conditions: none. -/
import Derived.Test.YtdgbdbploghhgaaKn
import Derived.Test.YtdgbdbploghhgaaLw
namespace Go.Proofs.Ytdgbdbploghhgaa.Rw
open Go.ChangeShapes Go.WideShapes Go.ChangeAt Go.RowKit
def At12 (m c s b x1 x2 x3 x4 e : Int) : Prop := ∀ w, Calls Try.prog 12 #[G m c s, .int .i64 b] w fun x w' => x = .returned (.tuple #[.agg #[.int .i64 x1, .int .i64 x2, .int .i64 x3, .int .i64 x4], .int .u16 e]) ∧ Below w.heap.size w w'
theorem kpa {W w1 : World} (hb : Below W.heap.size W w1) : (∀ B o, B < W.heap.size → w1.cell? ⟨B, o, none⟩ = W.cell? ⟨B, o, none⟩) ∧ (∀ B o, B < W.heap.size → w1.frozen? ⟨B, o, none⟩ = W.frozen? ⟨B, o, none⟩) :=
  ⟨fun B o h => hb.cell (p := ⟨B, o, none⟩) h, fun B o h => hb.frozen (p := ⟨B, o, none⟩) h⟩
theorem stripe_bd {m c s b : Int} (h : Good m c s) (h0 : 0 ≤ b) (h1 : b < s * c * (m - 1)) : 0 ≤ b / ((m - 1) * c) ∧ b / ((m - 1) * c) < s := by
  have he3 : 1 ≤ (m - 1) * c := Int.mul_pos (by have := h.m3; omega) (by have := h.c1; omega)
  refine ⟨Int.ediv_nonneg h0 (by omega), ?_⟩
  apply Int.ediv_lt_of_lt_mul (by omega)
  rw [Int.mul_comm (m - 1) c, ← Int.mul_assoc]; exact h1
/-- Where a block lies, where its stripe's first one does, and the one that is Chunk behind. -/
theorem rows_law {m c s b : Int} (h : Good m c s) (h0 : 0 ≤ b) (h1 : b < s * c * (m - 1)) :
    ∃ S R M P, (0 ≤ S ∧ S ≤ 256 ∧ 0 ≤ S * c ∧ S * c ≤ 4096) ∧ (0 ≤ M ∧ M < m ∧ 0 ≤ P ∧ P < m) ∧ b / ((m - 1) * c) = S ∧ (0 ≤ S * (m - 1) ∧ S * (m - 1) ≤ 3840 ∧ 0 ≤ S * (m - 1) * c ∧ S * (m - 1) * c ≤ 61440) ∧ At12 m c s b S R M P 0 ∧ At12 m c s (S * (m - 1) * c) S (S * c) ((P + 1) % m) P 0 ∧
      ((∃ e, 1 ≤ e ∧ e ≤ 60 ∧ At12 m c s (b + c) 0 0 0 0 e) ∨ (∃ S' R' M' P', ¬ S' = S ∧ At12 m c s (b + c) S' R' M' P' 0) ∨ At12 m c s (b + c) S R ((M + 1) % m) P 0) := by
  have hm := h.m3
  have hm2 := h.m16
  have hc := h.c1
  have hc2 := h.c16
  have hs2 := h.s256
  have he3 : 1 ≤ (m - 1) * c := Int.mul_pos (by omega) (by omega)
  obtain ⟨hS0, hS1⟩ := stripe_bd h h0 h1
  have hi0 : 0 ≤ b % ((m - 1) * c) := Int.emod_nonneg _ (by omega)
  have hi1 : b % ((m - 1) * c) < (m - 1) * c := Int.emod_lt_of_pos _ (by omega)
  have hdm := Int.emod_add_mul_ediv b ((m - 1) * c)
  have x1 := mul_bd (a := b / ((m - 1) * c)) (b := c) (A := 256) (B := 16) hS0 (by omega) (by omega) (by omega)
  have x2 := mul_bd (a := b / ((m - 1) * c)) (b := m - 1) (A := 256) (B := 15) hS0 (by omega) (by omega) (by omega)
  have x3 := mul_bd (a := b / ((m - 1) * c) * (m - 1)) (b := c) (A := 3840) (B := 16) (by omega) (by omega) (by omega) (by omega)
  refine ⟨b / ((m - 1) * c), _, _, _, by omega, ⟨(mem_bd _ _ hm).1, (mem_bd _ _ hm).2, par_bd _ hm⟩, rfl, by omega, fun w => gof_ok m c s b w h h0 h1, ?_, ?_⟩
  · -- the stripe's first block
    have hf0 : 0 ≤ b / ((m - 1) * c) * (m - 1) * c := by omega
    have e1 : b / ((m - 1) * c) * (m - 1) * c = (m - 1) * c * (b / ((m - 1) * c)) := by rw [Int.mul_assoc, Int.mul_comm]
    have hf1 : b / ((m - 1) * c) * (m - 1) * c < s * c * (m - 1) := by omega
    intro w
    have := gof_ok m c s _ w h hf0 hf1
    rw [e1, Int.mul_ediv_cancel_left _ (by omega), Int.mul_emod_right] at this
    rw [e1]
    have e2 : (0 : Int) % c = 0 := Int.zero_emod c
    have e3 : (0 : Int) / c = 0 := Int.zero_ediv c
    rw [e2, e3, Int.add_zero] at this
    have e4 : mem m (b / ((m - 1) * c)) 0 = (par m (b / ((m - 1) * c)) + 1) % m := by unfold mem; rw [Int.add_zero]
    rw [e4] at this
    exact this
  · by_cases hr : b + c < s * c * (m - 1)
    · right
      by_cases hS : (b + c) / ((m - 1) * c) = b / ((m - 1) * c)
      · right
        intro w
        have := gof_ok m c s (b + c) w h (by omega) hr
        have hdm2 := Int.emod_add_mul_ediv (b + c) ((m - 1) * c)
        have e1 : (b + c) % ((m - 1) * c) = b % ((m - 1) * c) + c := by rw [hS] at hdm2; omega
        have e2 : (b % ((m - 1) * c) + c) % c = b % ((m - 1) * c) % c := by rw [Int.add_emod_right]
        have e3 : (b % ((m - 1) * c) + c) / c = b % ((m - 1) * c) / c + 1 := by rw [Int.add_ediv_of_dvd_right (Int.dvd_refl c), Int.ediv_self (by omega)]
        have e4 : mem m (b / ((m - 1) * c)) (b % ((m - 1) * c) / c + 1) = (mem m (b / ((m - 1) * c)) (b % ((m - 1) * c) / c) + 1) % m := by
          unfold mem; rw [Int.emod_add_emod]; congr 1; omega
        rw [hS, e1, e2, e3, e4] at this
        exact this
      · left
        exact ⟨_, _, _, _, hS, fun w => gof_ok m c s (b + c) w h (by omega) hr⟩
    · left
      exact ⟨3, by omega, by omega, fun w => gof_rangeb m c s (b + c) w h (by omega)⟩
set_option maxRecDepth 100000 in
set_option maxHeartbeats 1600000 in
theorem walk (members chunk stripes block : Int) (w : World) (hm : 0 ≤ members ∧ members ≤ 255) (hc : 0 ≤ chunk ∧ chunk ≤ 255) (hs : 0 ≤ stripes ∧ stripes ≤ 255) (hb : 0 ≤ block ∧ block ≤ 65535) :
    Calls Try.prog 8 #[.int .u8 members, .int .u8 chunk, .int .u8 stripes, .int .u16 block] w fun e w' => e = .returned (.bool true) ∧ Below w.heap.size w w' := by
  obtain ⟨m, em⟩ : ∃ m, members % 14 + 3 = m := ⟨_, rfl⟩
  obtain ⟨c, ec⟩ : ∃ c, chunk % 16 + 1 = c := ⟨_, rfl⟩
  obtain ⟨s, es⟩ : ∃ s, stripes + 1 = s := ⟨_, rfl⟩
  have hG : Good m c s := ⟨by omega, by omega, by omega, by omega, by omega, by omega⟩
  obtain ⟨hm1, hm2⟩ := hm
  obtain ⟨hc1, hc2⟩ := hc
  obtain ⟨hs1, hs2⟩ := hs
  obtain ⟨hb1, hb2⟩ := hb
  have n1 : 1 ≤ s * c * (m - 1) := Int.mul_pos (Int.mul_pos (by omega) (by omega)) (by omega)
  have n2 := hG.blocks.2
  obtain ⟨B, eB⟩ : ∃ B, block % (s * c * (m - 1)) = B := ⟨_, rfl⟩
  have B0 : 0 ≤ B := by rw [← eB]; exact Int.emod_nonneg _ (by omega)
  have B1 : B < s * c * (m - 1) := by rw [← eB]; exact Int.emod_lt_of_pos _ (by omega)
  obtain ⟨S, R, M, P, ⟨b1, b2, b3, b4⟩, ⟨b5, b6, b7, b8⟩, eS, ⟨b9, b10, b11, b12⟩, h1, h2, h3⟩ := rows_law hG B0 B1
  have HG := Lib.hid hG
  have H1 := Lib.hid h1
  have H2 := Lib.hid h2
  clear h1 h2 hG
  have he1 := mul_bd (a := m - 1) (b := c) (A := 15) (B := 16) (by omega) (by omega) (by omega) (by omega)
  have he3 : 1 ≤ (m - 1) * c := Int.mul_pos (by omega) (by omega)
  have m0 : ¬ m = 0 := by omega
  have m1 : 3 ≤ m := by omega
  have m2 : m ≤ 16 := by omega
  have c0 : 1 ≤ c := by omega
  have c00 : c ≤ 16 := by omega
  have E0 : ¬ (m - 1) * c = 0 := by omega
  have y1 : IntKind.i64.wrap (m - 1) = m - 1 := IntWalk.i64_in _ (by omega)
  have y2 : IntKind.i64.wrap ((m - 1) * c) = (m - 1) * c := IntWalk.i64_in _ (by omega)
  have y3 : B.tdiv ((m - 1) * c) = S := by rw [Int.tdiv_eq_ediv_of_nonneg B0, eS]
  have y4 : IntKind.i64.wrap S = S := IntWalk.i64_in _ (by omega)
  have y5 : IntKind.i64.wrap (S * (m - 1)) = S * (m - 1) := IntWalk.i64_in _ (by omega)
  have y6 : IntKind.i64.wrap (S * (m - 1) * c) = S * (m - 1) * c := IntWalk.i64_in _ (by omega)
  have y7 : IntKind.i64.wrap (P + 1) = P + 1 := IntWalk.i64_in _ (by omega)
  have y8 : (P + 1).tmod m = (P + 1) % m := Int.tmod_eq_emod_of_nonneg (by omega)
  have y9 : IntKind.i64.wrap (S * c) = S * c := IntWalk.i64_in _ (by omega)
  have y10 : IntKind.i64.wrap (M + 1) = M + 1 := IntWalk.i64_in _ (by omega)
  have y11 : (M + 1).tmod m = (M + 1) % m := Int.tmod_eq_emod_of_nonneg (by omega)
  have y12 : IntKind.i64.wrap (B + c) = B + c := IntWalk.i64_in _ (by omega)
  have HS := Lib.hid eS
  clear eS
  rcases h3 with ⟨e3, e31, e32, h3⟩ | ⟨S', R', M', P', hne, h3⟩ | h3
  all_goals
    have H3 := Lib.hid h3
    clear h3
    go_enter Try.func8, Try.ntmps8
    go_wp2_with fail
    refine (gblocks_ok m c s _ HG.out).mono ?_
    rintro e w1 ⟨rfl, hb1'⟩
    obtain ⟨k1, f1, z1⟩ := kp hb1' w.heap.size (by go_size)
    go_wp2_with fail
    refine (known_true _).mono ?_
    rintro e w2 ⟨rfl, hb2'⟩
    obtain ⟨k2, f2, z2⟩ := kp hb2' w.heap.size (by go_size)
    go_wp2_with fail
    refine (H1.out _).mono ?_
    rintro e w3 ⟨rfl, hb3'⟩
    obtain ⟨k3, f3, z3⟩ := kp hb3' w.heap.size (by go_size)
    go_wp2_with fail
    go_region_held3 (fun w' => w'.cell? ⟨w.heap.size, 0, none⟩ = some (.int .i64 m) ∧ w'.cell? ⟨w.heap.size, 1, none⟩ = some (.int .i64 c) ∧ w'.cell? ⟨w.heap.size, 2, none⟩ = some (.int .i64 s)) ((simp [*, go_sem]; done))
      (first | (go_at_call 12; refine (H2.out _).mono ?_; rintro e w4 ⟨rfl, hb4'⟩; obtain ⟨k0hb4', f0hb4', z0hb4'⟩ := kp hb4' (w.heap.size) (by go_size); obtain ⟨k1hb4', f1hb4', z1hb4'⟩ := kp hb4' (w3.heap.size) (by go_size); obtain ⟨ka4, fa4⟩ := kpa hb4'; (simp only [World.size_drew, World.size_alloc] at ka4 fa4); have z4 := hb4'.size; (simp only [World.size_drew, World.size_alloc] at z4); have z4' := Nat.lt_of_succ_le z4))
    all_goals
      go_wp2_with fail
      go_quiet (fail)
      go_wp2_with fail
      refine (H3.out _).mono ?_
      rintro e w5 ⟨rfl, hb5'⟩
      obtain ⟨k5, f5, z5⟩ := kp hb5' w.heap.size (by go_size)
      obtain ⟨k53, f53, z53⟩ := kp hb5' w3.heap.size (by go_size)
      obtain ⟨ka5, fa5⟩ := kpa hb5'
      simp only [World.heap_drewN, World.size_alloc, World.size_setCell] at ka5 fa5
      go_wp2
      try (go_quiet (fail); go_wp2)
      go_returns
      refine ⟨rfl, ?_⟩
      (repeat' (first | (with_reducible exact Below.refl _ _) | (with_reducible refine Below.setCell ?_ (by go_size) _) | (with_reducible refine bal ?_ _) | (with_reducible refine Below.drew ?_) | (with_reducible refine bdn ?_ _) | (with_reducible refine via ?_ (by with_reducible assumption))))
theorem kinds8 : ∀ t ∈ Try.f8.params.toList, Try.prog.readableRec t = true ∧ t < Try.prog.types.size := by
  rw [Try.params8]
  intro t ht
  simp only [List.mem_cons, List.not_mem_nil, or_false] at ht
  rcases ht with rfl | rfl | rfl | rfl
  all_goals exact ⟨by kernel_rfl, of_decide_eq_true (by kernel_rfl)⟩
set_option maxRecDepth 100000 in
theorem lifted (os : Os) (started : os.Started) (H : Type) (enc : TypeId × Value → H) :
    ReturnsInHanded {} Try.checked os 8 .any (Rows.geomRowsSpec.pre6 enc Try.prog Try.f8 Rows.geomRowsRow.domain false) (Rows.geomRowsSpec.post enc Try.prog Try.f8 false true false false) := by
  refine returnsInHanded_of_change (C := Try.checked) own started (by kernel_rfl) Try.func8
    (ChangeSpec.witness6 (enc := enc) (C := Try.checked) false ⟨#[], #[.int .u8 0, .int .u8 0, .int .u8 0, .int .u16 0], []⟩ 8 (by kernel_rfl) (by kernel_rfl) (by kernel_rfl) (by kernel_rfl)) ?_
  intro W base args ds gs before hval0 hW hcnd _
  have hval : ∀ (j : Nat) t v, Try.f8.params[j]? = some t → args[j]? = some v → Value.okWide Try.prog W .any base t v := hval0
  have hW' := hW
  obtain ⟨p, q, hA0, hV, rfl, hfz, hnd⟩ := hW
  have hA : DataW.TrodAll enc Try.prog W 0 (fun _ => true) true Try.f8.params.toList args.toList ds p := hA0
  have hA1 := hA
  rw [Try.params8] at hA hval
  obtain ⟨v0, vs0, d0, ds0, p0, q0, hargs, rfl, rfl, h0, r0⟩ := trodAll_cons hA
  obtain ⟨v1, vs1, d1, ds1, p1, q1, rfl, rfl, rfl, h1, r1⟩ := trodAll_cons r0
  obtain ⟨v2, vs2, d2, ds2, p2, q2, rfl, rfl, rfl, h2, r2⟩ := trodAll_cons r1
  obtain ⟨v3, vs3, d3, ds3, p3, q3, rfl, rfl, rfl, h3, r3⟩ := trodAll_cons r2
  obtain ⟨rfl, rfl, rfl⟩ := trodAll_nil r3
  obtain rfl : args = #[v0, v1, v2, v3] := by cases args; simp_all
  obtain ⟨rfl, rfl⟩ := trodVars_none hV
  obtain ⟨a0, rfl, rfl, rfl, w0⟩ := open_int Try.underlying5 (hval 0 5 v0 rfl rfl) h0
  obtain ⟨a1, rfl, rfl, rfl, w1⟩ := open_int Try.underlying5 (hval 1 5 v1 rfl rfl) h1
  obtain ⟨a2, rfl, rfl, rfl, w2⟩ := open_int Try.underlying5 (hval 2 5 v2 rfl rfl) h2
  obtain ⟨a3, rfl, rfl, rfl, w3⟩ := open_int Try.underlying24 (hval 3 24 v3 rfl rfl) h3
  clear hval0
  refine (walk a0 a1 a2 a3 W (bounds_u8 w0) (bounds_u8 w1) (bounds_u8 w2) (bounds_u16 w3)).mono fun e W' ⟨he, bel⟩ => ?_
  subst he
  exact ⟨_, rfl, _, _, _, [], _, [], hW', trodAll_mk1 (shut_bool Try.underlying4 _), carryAll laidOut bel _ _ _ _ kinds8 hA1 (fun x hx => hW'.lt x (List.mem_append.2 (.inl hx))), rfl, bel.frame _, fun h => by cases h⟩
theorem proved : Rows.GeomRowsSaid :=
  OpenClaim.holds_of_wide 8 Try.f8 rfl rfl rfl rfl rfl rfl rfl ⟨rfl, rfl, rfl, rfl, rfl⟩ rfl rfl rfl rfl rfl (by kernel_rfl) Try.func8 (by kernel_rfl)
    (of_decide_eq_true (by kernel_rfl)) (by unfold Func.isWrapper; first | (rw [if_pos (by decide +kernel)]; kernel_rfl) | (rw [if_neg (by decide +kernel)]; exact ⟨rfl, rfl⟩))
    (fun os started H enc _ => lifted os started H enc)
#print axioms proved
end Go.Proofs.Ytdgbdbploghhgaa.Rw
