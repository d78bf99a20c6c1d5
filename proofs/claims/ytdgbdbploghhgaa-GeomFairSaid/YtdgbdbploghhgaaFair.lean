/- 'GeomFair': over as many stripes as members, one behind the other, each member has the parity of just one, and as many blocks as any other: the law returns true, and its arguments read as they did. Conditions: none. -/
import Derived.Test.YtdgbdbploghhgaaCnt
import Derived.Test.YtdgbdbploghhgaaLw
namespace Go.Proofs.Ytdgbdbploghhgaa.Fair
open Go.ChangeShapes Go.WideShapes Go.ChangeAt Go.RowKit
theorem make_zero (w : World) (N : Nat) (h : N ≤ 1000) : (Instr.makeSlice 37 (.int .i64 ((N : Int) + 1)) (.int .i64 ((N : Int) + 1))).run Try.prog w = .ok (.slice (some ⟨w.heap.size, 0, none⟩) (N + 1) (N + 1)) (w.alloc (.cells (arrA (N + 1) (fun _ => 0)) 3)) := by
  have := make_ints (fun _ => 0) w (N + 1) (by omega)
  rw [arrA_zero] at this
  exact this
theorem hn3 (w : World) (A B C : Obj) : (((w.alloc A).alloc B).alloc C).heap[w.heap.size + 2]? = some C := by
  have := hn2 (w.alloc A) B C
  rw [World.size_alloc] at this
  exact this
def Par13 (m c s r p : Int) : Prop := ∀ w, Calls Try.prog 13 #[G m c s, .int .i64 r] w fun e w' => e = .returned (.tuple #[.int .i64 p, .int .u16 0]) ∧ Below w.heap.size w w'
theorem row_div {F t c : Int} (hc : 1 ≤ c) : (F + t) * c / c = F + t := Int.mul_ediv_cancel _ (by omega)
theorem row_lt {F t n c : Int} (hc : 1 ≤ c) (h : t < n) : (F + t) * c < (F + n) * c := Int.mul_lt_mul_of_pos_right (by omega) (by omega)
theorem sub_step (t N : Nat) (F : Int) (h2 : 2 ≤ (N : Int)) (x : Nat) (hx : x < N + 1) :
    ((t : Int) - cnt (fun j => par (N + 1) (F + j)) t x) + cnt (fun i => mem (N + 1) (F + t) i) N x = ((t + 1 : Nat) : Int) - cnt (fun j => par (N + 1) (F + j)) (t + 1) x := by
  rw [cnt_mem N _ _ h2 (by omega) (by omega)]
  simp only [cnt]
  split <;> omega
theorem cnt_step (f : Nat → Int) (k p : Nat) (h : f k = p) (x : Nat) : cnt f k x + (if p = x then 1 else 0) = cnt f (k + 1) x := by
  simp only [cnt, h]
  by_cases e : p = x
  · subst e; simp
  · rw [if_neg e, if_neg (by omega)]
set_option maxRecDepth 100000 in
set_option maxHeartbeats 1600000 in
theorem walk (members chunk frm : Int) (w : World) (hm : 0 ≤ members ∧ members ≤ 255) (hc : 0 ≤ chunk ∧ chunk ≤ 255) (hs : 0 ≤ frm ∧ frm ≤ 255) :
    Calls Try.prog 7 #[.int .u8 members, .int .u8 chunk, .int .u8 frm] w fun e w' => e = .returned (.bool true) ∧ Below w.heap.size w w' := by
  obtain ⟨hm1, hm2⟩ := hm
  obtain ⟨hc1, hc2⟩ := hc
  obtain ⟨hs1, hs2⟩ := hs
  obtain ⟨N, em⟩ : ∃ N : Nat, members % 14 + 3 = (N : Int) + 1 := ⟨(members % 14 + 2).toNat, by omega⟩
  obtain ⟨c, ec⟩ : ∃ c, chunk % 16 + 1 = c := ⟨_, rfl⟩
  obtain ⟨F, eF⟩ : ∃ F, frm % 100 = F := ⟨_, rfl⟩
  have hG : Good (N + 1) c (F + (N + 1)) := ⟨by omega, by omega, by omega, by omega, by omega, by omega⟩
  have N1 : 2 ≤ (N : Int) := by omega
  have N2 : (N : Int) ≤ 15 := by omega
  have c1 : 1 ≤ c := by omega
  have c2 : c ≤ 16 := by omega
  have F0 : 0 ≤ F := by omega
  have F1 : F ≤ 99 := by omega
  have HG := Lib.hid hG
  clear hG
  have hmk := fun w => make_zero w N (by omega)
  go_enter Try.func7, Try.ntmps7
  go_wp2
  simp only [eF]
  go_loopw [13] (fun s13 wr => ∃ t : Nat, t ≤ N + 1 ∧ s13 = .int .i64 (F + t) ∧ wr.heap[w.heap.size]? = some (.cells #[.int .i64 (N + 1), .int .i64 c, .int .i64 (F + (N + 1))] 23 (0, 0)) ∧ wr.heap[w.heap.size + 1]? = some (.cells (arrA (N + 1) (fun x => t - cnt (fun j => par (N + 1) (F + j)) t x)) 3 (0, 0)) ∧ wr.heap[w.heap.size + 2]? = some (.cells (arrA (N + 1) (fun x => cnt (fun j => par (N + 1) (F + j)) t x)) 3 (0, 0)) ∧ Below w.heap.size w wr)
    (fun s13 _ => (F + (N + 1) - intOf s13).toNat)
  case atStart =>
    refine ⟨0, by omega, ?_, ?_, ?_, ?_, ?_⟩
    · go_num
    · exact (Below.heap_alloc _ _ _ (by simp; omega)).trans (hn1 _ _ _)
    · exact (Below.heap_alloc _ _ _ (by simp)).trans (hn2 _ _ _)
    · exact hn3 _ _ _ _
    · (repeat' (first | (with_reducible exact Below.refl _ _) | (with_reducible refine Below.setCell ?_ (by go_size) _) | (with_reducible refine bal ?_ _) | (with_reducible refine Below.drew ?_) | (with_reducible refine bdn ?_ _) | (with_reducible refine via ?_ (by with_reducible assumption))))
  case round =>
    obtain ⟨t, ht, rfl, h0, h1, h2, hbel⟩ := hrel
    obtain ⟨wo, rfl⟩ : ∃ wo : World, wo = wr := ⟨_, rfl⟩
    obtain ⟨kg, fg, zg⟩ := cr h0
    obtain ⟨-, -, z1⟩ := cr h1
    obtain ⟨-, -, z2⟩ := cr h2
    by_cases hlt : t < N + 1
    · have x1 := mul_bd (a := F + t) (b := c) (A := 115) (B := 16) (by omega) (by omega) (by omega) (by omega)
      obtain ⟨x11, x12⟩ := x1
      have hrow : (F + t) * c < (F + (N + 1)) * c := row_lt c1 (by omega)
      obtain ⟨p0, p1⟩ := par_bd (F + t) HG.out.m3
      obtain ⟨p, hp⟩ := Int.eq_ofNat_of_zero_le p0
      have hP : Par13 (N + 1) c (F + (N + 1)) ((F + t) * c) p := fun w => by
        have := gparity_ok (N + 1) c (F + (N + 1)) ((F + t) * c) w HG.out x11 hrow
        rw [row_div c1, hp] at this
        exact this
      have hM : ∀ w, Calls Try.prog 14 #[G (N + 1) c (F + (N + 1)), .int .i64 ((F + t) * c)] w (NewInts w N (fun i => mem (N + 1) (F + t) i) .u16) := fun w => by
        have := gmembers_ok N c (F + (N + 1)) ((F + t) * c) w HG.out x11 hrow
        rw [row_div c1] at this
        exact this
      have p2 : p < N + 1 := by omega
      have HP := Lib.hid hP
      have HM := Lib.hid hM
      have Hp := Lib.hid hp
      have Hrow := Lib.hid hrow
      have H0 := Lib.hid h0
      have H1 := Lib.hid h1
      have H2 := Lib.hid h2
      clear hP hM hp hrow p0 p1 h0 h1 h2
      go_wp2_with fail
      refine (HP.out _).mono ?_
      rintro e w5 ⟨rfl, hb5⟩
      obtain ⟨k5, f5, z5⟩ := kp hb5 w.heap.size (by go_size)
      go_wp2_with fail
      refine (HM.out _).mono ?_
      rintro e w6 ⟨gl, rfl, hge, hin, hb6⟩
      have HL := Lib.hid hin
      have hgl : w.heap.size + 2 < gl := by have := hb5.size; omega
      have b0 : w6.heap[w.heap.size]? = _ := (hb6.block _ z5).trans ((hb5.block _ zg).trans H0.out)
      have b1 : w6.heap[w.heap.size + 1]? = _ := (hb6.block _ (by have := hb5.size; omega)).trans ((hb5.block _ z1).trans H1.out)
      have b2 : w6.heap[w.heap.size + 2]? = _ := (hb6.block _ (by have := hb5.size; omega)).trans ((hb5.block _ z2).trans H2.out)
      have hbel6 : Below w.heap.size w w6 := via (via hbel hb5) hb6
      have ck := (cr b2).1 p
      have fk := (cr b2).2.1 p
      rw [arrA_get _ _ _ p2] at ck
      have HB0 := Lib.hid b0
      have HB1 := Lib.hid b1
      have HB2 := Lib.hid b2
      obtain ⟨kg6, fg6, -⟩ := cr b0
      have cb := cnt_bd (fun j => par (N + 1) (F + j)) t p
      obtain ⟨cb1, cb2⟩ := cb
      clear b0 b1 b2 hin hb5 hb6 hbel kg fg k5 f5
      go_wp2
      go_loopw [18] (fun s18 wr => ∃ k : Nat, k ≤ N ∧ s18 = .int .i64 k ∧ wr.heap[w.heap.size]? = some (.cells #[.int .i64 (N + 1), .int .i64 c, .int .i64 (F + (N + 1))] 23 (0, 0)) ∧ wr.heap[w.heap.size + 1]? = some (.cells (arrA (N + 1) (fun x => (t - cnt (fun j => par (N + 1) (F + j)) t x) + cnt (fun i => mem (N + 1) (F + t) i) k x)) 3 (0, 0)) ∧ wr.heap[w.heap.size + 2]? = some (.cells (arrA (N + 1) (fun x => cnt (fun j => par (N + 1) (F + j)) (t + 1) x)) 3 (0, 0)) ∧ IntsIn wr gl N (fun i => mem (N + 1) (F + t) i) ∧ Below w.heap.size w wr)
        (fun s18 _ => N - (intOf s18).toNat)
      case atStart =>
        refine ⟨0, by omega, rfl, ?_, ?_, ?_, ?_, ?_⟩
        · rw [heap_setCell_other _ _ _ _ (by simp; omega)]; exact HB0.out
        · rw [heap_setCell_other _ _ _ _ (by simp)]
          refine HB1.out.trans ?_
          simp only [cnt, Int.add_zero]
        · refine (heap_setCell_same _ _ _ _ _ _ HB2.out).trans ?_
          rw [arrA_inc (N + 1) (fun x => cnt (fun j => par (N + 1) (F + j)) t x) p]
          congr 2
          exact arrA_congr _ _ _ (fun x _ => cnt_step (fun j => par (N + 1) (F + j)) t p Hp.out x)
        · unfold IntsIn; rw [heap_setCell_other _ _ _ _ (by simp; omega)]; exact HL.out
        · exact Below.setCell hbel6 (by simp; omega) _
      case round =>
        obtain ⟨k, hk, rfl, h0, h1, h2, hin, hbel⟩ := hrel
        obtain ⟨kg, fg, zg⟩ := cr h0
        by_cases hlk : k < N
        · have hmb := mem_bd (F + t) k HG.out.m3
          obtain ⟨hx0, hx1⟩ := hmb
          obtain ⟨x, hx⟩ := Int.eq_ofNat_of_zero_le hx0
          have x2 : x < N + 1 := by omega
          have cl : wr.cell? ⟨gl, k, none⟩ = some (.int .i64 x) := by
            rw [(cr hin).1 k, fillA_full _ _ _ hlk, hx]
          have ch := (cr h1).1 x
          have fh := (cr h1).2.1 x
          rw [arrA_get _ _ _ x2] at ch
          have cb3 := cnt_bd (fun j => par (N + 1) (F + j)) t x
          have cb4 := cnt_bd (fun i => mem (N + 1) (F + t) i) k x
          obtain ⟨cb5, cb6⟩ := cb3
          obtain ⟨cb7, cb8⟩ := cb4
          have H0 := Lib.hid h0
          have H1 := Lib.hid h1
          have H2 := Lib.hid h2
          have HI := Lib.hid hin
          have Hx := Lib.hid hx
          have HBel := Lib.hid hbel
          clear h0 h1 h2 hin hx hbel hx0 hx1
          go_wp2
          go_roundw
          case rel =>
            refine ⟨k + 1, by omega, by go_num, ?_, ?_, ?_, ?_, ?_⟩
            · rw [heap_setCell_other _ _ _ _ (by simp)]; exact H0.out
            · refine (heap_setCell_same _ _ _ _ _ _ H1.out).trans ?_
              rw [arrA_inc (N + 1) (fun x => (t - cnt (fun j => par (N + 1) (F + j)) t x) + cnt (fun i => mem (N + 1) (F + t) i) k x) x]
              congr 2
              refine arrA_congr _ _ _ (fun y _ => ?_)
              rw [Int.add_assoc, cnt_step (fun i => mem (N + 1) (F + t) i) k x Hx.out y]
            · rw [heap_setCell_other _ _ _ _ (by simp)]; exact H2.out
            · unfold IntsIn; rw [heap_setCell_other _ _ _ _ (by simp; omega)]; exact HI.out
            · exact Below.setCell HBel.out (by simp) _
          case measure => simp [intOf]; omega
        · obtain rfl : k = N := by omega
          go_wp2
          go_roundw
          case rel =>
            refine ⟨t + 1, by omega, by go_num, h0, ?_, h2, hbel⟩
            refine h1.trans ?_
            congr 2
            exact arrA_congr _ _ _ (fun x hx => sub_step t k F N1 x hx)
          case measure => simp [intOf]; omega
    · obtain rfl : t = N + 1 := by omega
      have e1 : ∀ x : Nat, x < N + 1 → cnt (fun j => par (N + 1) (F + j)) (N + 1) x = 1 := fun x hx => by
        have := cnt_par (N + 1) F x (by omega) (by omega) (by omega)
        simpa using this
      have h1' : wo.heap[w.heap.size + 1]? = some (.cells (arrA (N + 1) (fun _ => N)) 3 (0, 0)) := by
        refine h1.trans ?_
        congr 2
        exact arrA_congr _ _ _ (fun x hx => by rw [e1 x hx]; omega)
      have h2' : wo.heap[w.heap.size + 2]? = some (.cells (arrA (N + 1) (fun _ => 1)) 3 (0, 0)) := by
        refine h2.trans ?_
        congr 2
        exact arrA_congr _ _ _ (fun x hx => e1 x hx)
      have HH1 := Lib.hid h1'
      have HH2 := Lib.hid h2'
      clear h0 h1 h2 h1' h2' e1 kg fg
      go_wp2
      go_loop [19] (fun s19 => ∃ q : Nat, q ≤ N + 1 ∧ s19 = .int .i64 q) (fun s19 => N + 1 - (intOf s19).toNat)
      case atStart => exact ⟨0, by omega, rfl⟩
      case round =>
        obtain ⟨q, hq, rfl⟩ := hrel
        by_cases hlq : q < N + 1
        · have c1' := (cr HH1.out).1 q
          have c2' := (cr HH2.out).1 q
          rw [arrA_get _ _ _ hlq] at c1' c2'
          go_wp2
          go_round
          case rel => exact ⟨q + 1, by omega, by go_num⟩
          case measure => simp [intOf]; omega
        · obtain rfl : q = N + 1 := by omega
          go_wp2_with fail
          refine (known_true _).mono ?_
          rintro e w16 ⟨rfl, hb16⟩
          go_wp2
          go_returns
          exact ⟨rfl, via hbel hb16⟩
theorem kinds7 : ∀ t ∈ Try.f7.params.toList, Try.prog.readableRec t = true ∧ t < Try.prog.types.size := by
  rw [Try.params7]
  intro t ht
  simp only [List.mem_cons, List.not_mem_nil, or_false] at ht
  rcases ht with rfl | rfl | rfl
  all_goals exact ⟨by kernel_rfl, of_decide_eq_true (by kernel_rfl)⟩
set_option maxRecDepth 100000 in
theorem lifted (os : Os) (started : os.Started) (H : Type) (enc : TypeId × Value → H) :
    ReturnsInHanded {} Try.checked os 7 .any (Rows.geomFairSpec.pre6 enc Try.prog Try.f7 Rows.geomFairRow.domain false) (Rows.geomFairSpec.post enc Try.prog Try.f7 false true false false) := by
  refine returnsInHanded_of_change (C := Try.checked) own started (by kernel_rfl) Try.func7
    (ChangeSpec.witness6 (enc := enc) (C := Try.checked) false ⟨#[], #[.int .u8 0, .int .u8 0, .int .u8 0], []⟩ 8 (by kernel_rfl) (by kernel_rfl) (by kernel_rfl) (by kernel_rfl)) ?_
  intro W base args ds gs before hval0 hW hcnd _
  have hval : ∀ (j : Nat) t v, Try.f7.params[j]? = some t → args[j]? = some v → Value.okWide Try.prog W .any base t v := hval0
  have hW' := hW
  obtain ⟨p, q, hA0, hV, rfl, hfz, hnd⟩ := hW
  have hA : DataW.TrodAll enc Try.prog W 0 (fun _ => true) true Try.f7.params.toList args.toList ds p := hA0
  have hA1 := hA
  rw [Try.params7] at hA hval
  obtain ⟨v0, vs0, d0, ds0, p0, q0, hargs, rfl, rfl, h0, r0⟩ := trodAll_cons hA
  obtain ⟨v1, vs1, d1, ds1, p1, q1, rfl, rfl, rfl, h1, r1⟩ := trodAll_cons r0
  obtain ⟨v2, vs2, d2, ds2, p2, q2, rfl, rfl, rfl, h2, r2⟩ := trodAll_cons r1
  obtain ⟨rfl, rfl, rfl⟩ := trodAll_nil r2
  obtain rfl : args = #[v0, v1, v2] := by cases args; simp_all
  obtain ⟨rfl, rfl⟩ := trodVars_none hV
  obtain ⟨a0, rfl, rfl, rfl, w0⟩ := open_int Try.underlying5 (hval 0 5 v0 rfl rfl) h0
  obtain ⟨a1, rfl, rfl, rfl, w1⟩ := open_int Try.underlying5 (hval 1 5 v1 rfl rfl) h1
  obtain ⟨a2, rfl, rfl, rfl, w2⟩ := open_int Try.underlying5 (hval 2 5 v2 rfl rfl) h2
  clear hval0
  refine (walk a0 a1 a2 W (bounds_u8 w0) (bounds_u8 w1) (bounds_u8 w2)).mono fun e W' ⟨he, bel⟩ => ?_
  subst he
  exact ⟨_, rfl, _, _, _, [], _, [], hW', trodAll_mk1 (shut_bool Try.underlying4 _), carryAll laidOut bel _ _ _ _ kinds7 hA1 (fun x hx => hW'.lt x (List.mem_append.2 (.inl hx))), rfl, bel.frame _, fun h => by cases h⟩
theorem proved : Rows.GeomFairSaid :=
  OpenClaim.holds_of_wide 7 Try.f7 rfl rfl rfl rfl rfl rfl rfl ⟨rfl, rfl, rfl, rfl, rfl⟩ rfl rfl rfl rfl rfl (by kernel_rfl) Try.func7 (by kernel_rfl)
    (of_decide_eq_true (by kernel_rfl)) (by unfold Func.isWrapper; first | (rw [if_pos (by decide +kernel)]; kernel_rfl) | (rw [if_neg (by decide +kernel)]; exact ⟨rfl, rfl⟩))
    (fun os started H enc _ => lifted os started H enc)
#print axioms proved
end Go.Proofs.Ytdgbdbploghhgaa.Fair
