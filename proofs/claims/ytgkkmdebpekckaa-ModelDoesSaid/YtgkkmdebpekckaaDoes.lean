/- ModelDoes: for every number of blocks and every script the law returns true: the model answers each call as the reference's does, and what comes out is its owner's. Conditions: none. -/
import Derived.Test.YtgkkmdebpekckaaNw
namespace Go.Proofs.Ytgkkmdebpekckaa.Does
open Go.ChangeShapes Go.WideShapes Go.ChangeAt Go.RowKit
open Go.Proofs.Ytgkkmdebpekckaa
theorem does_any {w0 w : World} {m r bk n N : Nat} {R : Rf} {Zm Zr P Q : Nat → Prop} (o : Opc) (pv av : Value) (HD : DI w0 w m r bk n N R.st R Zm Zr P Q) (hn0 : 0 < n) (hn : n ≤ 61440) (hN : N ≤ 1000000) (hNB : R.NB ≤ 1000000)
    (hp : ArX (fun k => w0.heap.size ≤ k) w0 pv o.puts) (ha : BtsX (fun k => w0.heap.size ≤ k) w0 av o.allN o.all) (hf : o.fit) (hpN : o.puts.N ≤ 1000000) :
    Calls Try.prog 19 #[.pointer (some ⟨m, 0, none⟩), .pointer (some ⟨r, 0, none⟩), .agg #[.int .i64 o.kind, .int .i64 o.blk, .int .i64 o.n, pv, av], .pointer (some ⟨bk, 0, none⟩)] w (DoesP w0 m r bk n N R) := by
  obtain ⟨kd, b, k, a, nA, fa⟩ := o
  dsimp only at hp ha hpN ⊢
  obtain ⟨pa, pc, rfl⟩ := hp.form
  obtain ⟨aa, ac, rfl, h0⟩ := id ha
  obtain ⟨⟨_, hl, hlt⟩, hfa, hA⟩ := hf
  dsimp only at hl hlt hfa hA
  by_cases e1 : kd = 1
  · subst e1
    by_cases hr : inRange n b k
    · obtain ⟨h1, h2, h3, h4⟩ := hr
      obtain ⟨b', rfl⟩ : ∃ b' : Nat, b = (b' : Int) := ⟨b.toNat, by omega⟩
      obtain ⟨k', rfl⟩ : ∃ k' : Nat, k = (k' : Int) := ⟨k.toNat, by omega⟩
      exact does_read_ok b' k' pa aa _ pc _ ac HD hn0 hn hN hNB (by omega)
    · exact does_read_bad b k pa aa _ pc _ ac HD hn0 hn hN hNB hr
  by_cases e2 : kd = 2
  · subst e2
    exact does_write b k a pa aa _ pc _ ac HD hn0 hn hN hNB hp hlt hpN hl
  by_cases e3 : kd = 3
  · subst e3
    exact does_sure b k pa aa _ pc _ ac HD hn0 hn hN hNB
  by_cases e4 : kd = 4
  · subst e4
    exact does_under b k a pa aa _ pc _ ac HD hn0 hn hN hNB hp hlt hpN hl
  by_cases e5 : kd = 5
  · subst e5
    exact does_could b k nA fa pa aa _ pc _ ac HD hn0 hn hN hNB ha hfa hA
  by_cases e6 : kd = 6
  · subst e6
    exact does_crash b k nA fa pa aa _ pc _ ac HD hn0 hn hN hNB ha hfa hA
  by_cases e7 : kd = 7
  · subst e7
    have hK : max 0 (min k (R.NB : Int)) = ((max 0 (min k (R.NB : Int))).toNat : Int) := by omega
    by_cases hk : (R.NB : Int) < k
    · exact does_seven_b b k _ pa aa _ pc _ ac HD hn0 hn hN hNB hK hk
    · exact does_seven_a b k _ pa aa _ pc _ ac HD hn0 hn hN hNB hK hk
  exact does_none kd b k pa aa _ pc _ ac HD hn0 hn hN hNB (by omega)
theorem nil_ar (w : World) (X : Nat → Prop) : ArX X w (.slice none 0 0) default := ⟨fun _ => .slice none 0 0, ⟨_, _, rfl, .inl rfl⟩, fun _ h => absurd h (Nat.not_lt_zero _)⟩
def opR (b n : Int) : Opc := ⟨1, b, n, default, 0, fun _ => 0⟩
theorem opR_fit (b n : Int) : (opR b n).fit := ⟨⟨Nat.zero_le _, fun _ h => absurd h (Nat.not_lt_zero _), fun _ h => absurd h (Nat.not_lt_zero _)⟩, fun _ h => absurd h (Nat.not_lt_zero _), Nat.zero_le _⟩
theorem does_read {w0 w : World} {m r bk n N : Nat} {R : Rf} {Zm Zr P Q : Nat → Prop} (b k : Int) (HD : DI w0 w m r bk n N R.st R Zm Zr P Q) (hn0 : 0 < n) (hn : n ≤ 61440) (hN : N ≤ 1000000) (hNB : R.NB ≤ 1000000) :
    Calls Try.prog 19 #[.pointer (some ⟨m, 0, none⟩), .pointer (some ⟨r, 0, none⟩), .agg #[.int .i64 1, .int .i64 b, .int .i64 k, .slice none 0 0, .slice none 0 0], .pointer (some ⟨bk, 0, none⟩)] w (DoesP w0 m r bk n N R) :=
  does_any (opR b k) _ _ HD hn0 hn hN hNB (nil_ar _ _) nil_bts (opR_fit b k) (Nat.zero_le _)
set_option maxRecDepth 100000 in
set_option maxHeartbeats 4000000 in
theorem walk (nb : Int) (a : Option Addr) (NS cap : Nat) (ops : Nat → Opc) (pv av : Nat → Value) (W : World) (hO : OpsX (fun k => W.heap.size ≤ k) W a NS ops pv av) (hNS : NS ≤ 1954687338211) (hF : ∀ i, i < NS → (ops i).fit) :
    Calls Try.prog 6 #[.int .i64 nb, .slice a NS cap] W fun e w' => e = .returned (.bool true) ∧ Below W.heap.size W w' := by
  have HO := Lib.hid hO
  have HF := Lib.hid hF
  have HMu := Lib.hid (much_any nb _ a NS cap ops pv av W hO hNS hF)
  clear hO hF hNS
  go_enter Try.func6, Try.ntmps6
  go_wp2_with fail
  refine HMu.out.mono ?_
  rintro e w1 ⟨bl, rfl, hfew, hb⟩
  have HW1 := Lib.hid hb
  clear hb HMu
  cases bl with
  | true =>
    clear hfew
    go_wp2
    go_ret
    exact ⟨rfl, HW1.out⟩
  | false =>
    have HFew := Lib.hid (hfew rfl)
    clear hfew
    by_cases hnb : nb < 1 ∨ 61440 < nb
    · go_wp2_with fail
      refine (new_bad nb _ hnb).mono ?_
      rintro e w2 ⟨rfl, rfl⟩
      go_wp2_with fail
      refine (rnew_bad nb _ hnb).mono ?_
      rintro e w2 ⟨rfl, rfl⟩
      clear hnb
      go_wp2_with fail
      refine (known_true _).mono ?_
      rintro e w2 ⟨rfl, hb⟩
      have HW2 := Lib.hid (via HW1.out hb)
      clear hb
      go_wp2
      go_ret
      exact ⟨rfl, HW2.out⟩
    · obtain ⟨n, rfl⟩ : ∃ n : Nat, nb = (n : Int) := ⟨nb.toNat, by omega⟩
      have hn1 : 1 ≤ n := by omega
      have hn0 : 0 < n := by omega
      have hn : n ≤ 61440 := by omega
      clear hnb
      go_wp2_with fail
      refine (new_ok n _ hn1 hn).mono ?_
      rintro e w2 ⟨m, Zm, rfl, hM, hZm, hb⟩
      have HM2 := Lib.hid hM
      have HZm := Lib.hid (show ∀ k, Zm k → W.heap.size ≤ k ∧ k < w2.heap.size from fun k hk => ⟨Nat.le_trans HW1.out.size (hZm k hk), hM.lt k hk⟩)
      have HW2 := Lib.hid (via HW1.out hb)
      clear hM hZm hb
      go_wp2_with fail
      refine (rnew_ok n _ hn1 hn).mono ?_
      rintro e w3 ⟨r, Zr, rfl, hR, hZr, hb⟩
      have HM3 := Lib.hid (HM2.out.keep hb)
      have HR3 := Lib.hid hR
      have HZr := Lib.hid (show ∀ k, Zr k → w2.heap.size ≤ k ∧ k < w3.heap.size from fun k hk => ⟨hZr k hk, hR.lt k hk⟩)
      have HW3 := Lib.hid (via HW2.out hb)
      have HZ23 := Lib.hid hb.size
      clear hR hZr hb
      go_wp2_with fail
      refine (known_true _).mono ?_
      rintro e w4 ⟨rfl, hb⟩
      have HM4 := Lib.hid (HM3.out.keep hb)
      have HR4 := Lib.hid (HR3.out.keep hb)
      have HW4 := Lib.hid (via HW3.out hb)
      have HZ34 := Lib.hid hb.size
      clear hb
      go_wp2_with fail
      have hb5 : Below w4.heap.size w4 (w4.alloc (.cells (bkCells (.slice none 0 0)) 64)) := bal (Below.refl _ _) _
      have hz5 : (w4.alloc (.cells (bkCells (.slice none 0 0)) 64)).heap.size = w4.heap.size + 1 := World.size_alloc _ _
      have hD5 : DI W (w4.alloc (.cells (bkCells (.slice none 0 0)) 64)) m r w4.heap.size n 0 Rf.start.st Rf.start Zm Zr (fun _ => False) (fun _ => False) := by
        have h1 := HW2.out.size
        have h2 := HZ23.out
        have h3 := HZ34.out
        refine ⟨HM4.out.keep hb5, HR4.out.keep hb5, Rf.ok.start.st, Rf.ok.start, Bk.start (heap_alloc_new _ _), HW4.out.trans (hb5.mono HW4.out.size), HW4.out.size, fun k hk => ?_, fun k hk => ?_, fun k hk => hk.elim, fun k hk => hk.elim⟩
        · have h4 := HZm.out k hk
          exact ⟨h4.1, fun e => by have := HZr.out k e; omega, by omega, id, id⟩
        · have h4 := HZr.out k hk
          exact ⟨by omega, by omega, id, id⟩
      have HD5 := Lib.hid hD5
      obtain ⟨bk, hbk⟩ : ∃ bk, w4.heap.size = bk := ⟨_, rfl⟩
      obtain ⟨w5, hw5⟩ : ∃ w5, w4.alloc (.cells (bkCells (.slice none 0 0)) 64) = w5 := ⟨_, rfl⟩
      have hw5' : w4.alloc (.cells #[.slice none 0 0, .slice none 0 0, .slice none 0 0, .slice none 0 0, .slice none 0 0, .slice none 0 0, .slice none 0 0, .slice none 0 0, .slice none 0 0, .slice none 0 0, .slice none 0 0, .slice none 0 0] 64) = w5 := hw5
      rw [hbk, hw5] at HD5
      rw [hbk]
      rw [hw5']
      clear hbk hw5 hw5' hD5 hb5 hz5 HM2 HM3 HM4 HR3 HR4 HW1 HW2 HW3 HW4 HZ23 HZ34 HZm HZr
      go_loopw [10] (fun s10 wr => ∃ (i : Nat) (R : Rf) (N : Nat) (Zm Zr P Q : Nat → Prop), i ≤ NS ∧ s10 = .int .i64 i ∧ Hid (DI W wr m r bk n N R.st R Zm Zr P Q ∧ N ≤ i ∧ R.NB ≤ i)) (fun s10 _ => NS - (intOf s10).toNat)
      case atStart => exact ⟨0, Rf.start, 0, _, _, _, _, Nat.zero_le _, rfl, HD5.out, Nat.le_refl _, Nat.le_refl _⟩
      case round =>
        clear HD5
        obtain ⟨i, R, N, Zm, Zr, P, Q, hi, rfl, HI⟩ := hrel
        have h2000 : NS ≤ 2000 := HFew.out.1
        have hNi : N ≤ i := HI.out.2.1
        have hRi : R.NB ≤ i := HI.out.2.2
        by_cases hlt : i < NS
        · have hD := HI.out.1
          obtain h0 | ⟨sb, so, rfl, -, hc⟩ := (HO.out.out (Out.of_below (S := fun _ => False) hD.bel) (fun _ _ h => h.elim)).l
          · omega
          obtain ⟨c0, c1, c2, c3, c4⟩ := hc i hlt
          have i1 : (0 : Int) ≤ (i : Int) := by omega
          have i2 : (i : Int) < (NS : Int) := by omega
          have HC := Lib.hid (does_any (ops i) (pv i) (av i) hD hn0 hn (by omega) (by omega) (HO.out.puts i hlt) (HO.out.all i hlt) (HF.out i hlt) (HFew.out.2.2 i hlt).2.1)
          obtain ⟨k0, hk0⟩ : ∃ k0, (ops i).kind = k0 := ⟨_, rfl⟩
          obtain ⟨k1, hk1⟩ : ∃ k1, (ops i).blk = k1 := ⟨_, rfl⟩
          obtain ⟨k2, hk2⟩ : ∃ k2, (ops i).n = k2 := ⟨_, rfl⟩
          rw [hk0, hk1, hk2] at HC
          rw [hk0] at c0
          rw [hk1] at c1
          rw [hk2] at c2
          clear hk0 hk1 hk2 hc hD
          go_wp2_with fail
          refine HC.out.mono ?_
          rintro e w6 ⟨rfl, R', N', Zm', Zr', P', Q', hD', hN', hR'⟩
          have HI' := Lib.hid hD'
          clear hD' HC c0 c1 c2 c3 c4
          go_wp2_with fail
          go_roundw
          case rel => exact ⟨i + 1, R', N', _, _, _, _, by omega, by go_num, HI'.out, by omega, by omega⟩
          case measure => simp [intOf]; omega
        · obtain rfl : i = NS := by omega
          have HC := Lib.hid (does_read 0 n HI.out.1 hn0 hn (by omega) (by omega))
          go_wp2_with fail
          refine HC.out.mono ?_
          rintro e w6 ⟨rfl, R1, N1, Zm1, Zr1, P1, Q1, hD1, hN1, hR1⟩
          have HI1 := Lib.hid hD1
          clear hD1 HC HI
          have HC := Lib.hid (does_read n 0 HI1.out hn0 hn (by omega) (by omega))
          go_wp2_with fail
          refine HC.out.mono ?_
          rintro e w7 ⟨rfl, R2, N2, Zm2, Zr2, P2, Q2, hD2, hN2, hR2⟩
          have HI2 := Lib.hid hD2
          clear hD2 HC HI1
          have HC := Lib.hid (bk_own HI2.out.book (by omega))
          go_wp2_with fail
          refine HC.out.mono ?_
          rintro e w8 ⟨rfl, ho⟩
          have HE : Hid (Below W.heap.size W w8) := HI2.out.bel.trans (ho.below (fun k _ hk => (HI2.out.zp k hk).1) HI2.out.bel.size)
          clear ho HC
          go_wp2_with fail
          go_ret
          exact ⟨rfl, HE.out⟩
theorem kinds6 : ∀ t ∈ Try.f6.params.toList, Try.prog.readableRec t = true ∧ t < Try.prog.types.size := by
  rw [Try.params6]
  intro t ht
  simp only [List.mem_cons, List.not_mem_nil, or_false] at ht
  rcases ht with rfl | rfl
  all_goals exact ⟨by kernel_rfl, of_decide_eq_true (by kernel_rfl)⟩
set_option maxRecDepth 100000 in
theorem lifted (os : Os) (started : os.Started) (H : Type) (enc : TypeId × Value → H) :
    ReturnsInHanded {} Try.checked os 6 .any (Rows.modelDoesSpec.pre6 enc Try.prog Try.f6 Rows.modelDoesRow.domain false) (Rows.modelDoesSpec.post enc Try.prog Try.f6 false true false false) := by
  refine returnsInHanded_of_change_sized (C := Try.checked) own started (by kernel_rfl) Try.func6
    (ChangeSpec.witness6 (enc := enc) (C := Try.checked) false ⟨#[], #[.int .i64 0, .slice none 0 0], []⟩ 8 (by kernel_rfl) (by kernel_rfl) (by kernel_rfl) (by kernel_rfl)) ?_
  intro W base args ds gs before hval0 hW hcnd hsz0 _
  have hval : ∀ (j : Nat) t v, Try.f6.params[j]? = some t → args[j]? = some v → Value.okWide Try.prog W .any base t v := hval0
  have hW' := hW
  obtain ⟨p, q, hA0, hV, rfl, hfz, hnd⟩ := hW
  have hA : DataW.TrodAll enc Try.prog W 0 (fun _ => true) true Try.f6.params.toList args.toList ds p := hA0
  have hA1 := hA
  have hsz : (DataW.weightsEach Try.prog (Try.f6.params.toList ++ []) (ds ++ gs)).all (· ≤ reachBytes) = true := hsz0
  rw [Try.params6] at hA hval hsz
  obtain ⟨v0, vs0, d0, ds0, p0, q0, hargs, rfl, rfl, h0, r0⟩ := trodAll_cons hA
  obtain ⟨v1, vs1, d1, ds1, p1, q1, rfl, rfl, rfl, h1, r1⟩ := trodAll_cons r0
  obtain ⟨rfl, rfl, rfl⟩ := trodAll_nil r1
  obtain rfl : args = #[v0, v1] := by cases args; simp_all
  obtain ⟨rfl, rfl⟩ := trodVars_none hV
  obtain ⟨a0, rfl, rfl, rfl, w0⟩ := open_int Try.underlying3 (hval 0 3 v0 rfl rfl) h0
  obtain ⟨x1, y1, z1, rfl⟩ := okWide_slice Try.underlying23 (hval 1 23 v1 rfl rfl)
  obtain ⟨fu1, hf1⟩ := h1
  have ft1 : FitD 23 d1 := fit_of hsz (j := 1) rfl rfl
  obtain ⟨a1, N1, c1, ops1, pv1, av1, e1, hO1, hN1, hF1, hI1⟩ := open_ops (v := .slice x1 y1 z1) hf1 ft1
  cases e1
  clear hval0 hsz0
  refine (walk a0 _ _ _ ops1 pv1 av1 W hO1 hN1 hF1).mono fun e W' ⟨he, bel⟩ => ?_
  subst he
  exact ⟨_, rfl, _, _, _, [], _, [], hW', trodAll_mk1 (shut_bool Try.underlying4 _), carryAll laidOut bel _ _ _ _ kinds6 hA1 (fun x hx => hW'.lt x (List.mem_append.2 (.inl hx))), rfl, bel.frame _, fun h => by cases h⟩
theorem proved : Rows.ModelDoesSaid :=
  OpenClaim.holds_of_wide 6 Try.f6 rfl rfl rfl rfl rfl rfl rfl ⟨rfl, rfl, rfl, rfl, rfl⟩ rfl rfl rfl rfl rfl (by kernel_rfl) Try.func6 (by kernel_rfl)
    (of_decide_eq_true (by kernel_rfl)) (by unfold Func.isWrapper; first | (rw [if_pos (by decide +kernel)]; kernel_rfl) | (rw [if_neg (by decide +kernel)]; exact ⟨rfl, rfl⟩))
    (fun os started H enc _ => lifted os started H enc)
end Go.Proofs.Ytgkkmdebpekckaa.Does
