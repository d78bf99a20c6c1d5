/- GeomOwn: the walk and the row. Conditions: as stated at each. -/
import Derived.Test.YtdgbdbploghhgaaKn
import Derived.Test.YtdgbdbploghhgaaBm
import Derived.Test.YtdgbdbploghhgaaLw
namespace Go.Proofs.Ytdgbdbploghhgaa.Own
open Go.ChangeShapes Go.WideShapes Go.ChangeAt Go.RowKit
open Go.Proofs.Ytdgbdbploghhgaa
theorem fillA_list (N : Nat) (f : Nat → Int) : (fillA N f N).toList = rowL .i64 N f := by
  simp only [fillA, rowL]
  apply List.map_congr_left
  intro x hx
  rw [if_pos (by simpa using hx)]
theorem IntsIn.own {w : World} {g N B : Nat} {f : Nat → Int} (h : IntsIn w g N f) (hB : B ≤ g) (hN : N ≤ 1000) : w.ownsRow B 3 1 (.slice (some ⟨g, 0, none⟩) N N) N (rowL .i64 N f) :=
  ⟨by rw [rowL_len, Nat.mul_one], .inr ⟨g, N, _, rfl, hB, h, Nat.le_refl _, by unfold maxLen; omega, by rw [fillA_size, Nat.mul_one], by rw [Nat.mul_one, fillA_list, List.take_of_length_le (by rw [rowL_len]; exact Nat.le_refl _)]⟩⟩
theorem cells24 : Try.prog.cellsOf 24 = 1 := by kernel_rfl
/-- A slice of numbers below 65536 that came in. -/
def U16s (W : World) (v : Value) (n : Nat) (f : Nat → Nat) : Prop :=
  ∃ a cap, v = .slice a n cap ∧ (∀ k, k < n → f k < 65536) ∧ (n = 0 ∨ ∃ b o, a = some ⟨b, o, none⟩ ∧ ∀ k, k < n → W.cell? ⟨b, o + k, none⟩ = some (.int .u16 (f k)))
set_option maxRecDepth 100000 in
theorem open_u16 {H : Type} {enc : TypeId × Value → H} {W : World} {base : Nat} {v : Value} {d : DataW H} {p : List MemPlace} (hval : Value.okWide Try.prog W .any base 54 v) (h : DataW.Trod enc Try.prog W 0 (fun _ => true) true 54 v d p) :
    ∃ n f, U16s W v n f := by
  obtain ⟨a0, len, cap, rfl⟩ := okWide_slice Try.underlying54 hval
  obtain ⟨fuel, hf⟩ := h
  rcases open_ints Try.underlying54 Try.underlying24 cells24 hf with ⟨hcs, hx⟩ | ⟨a, len', cap', zs, hcs, _, hl, hm, hz, hx, hcell, hwz⟩
  · simp [Value.cells] at hcs
    obtain ⟨rfl, rfl, rfl⟩ := hcs
    exact ⟨0, fun _ => 0, _, _, rfl, fun _ h => absurd h (Nat.not_lt_zero _), .inl rfl⟩
  · simp [Value.cells] at hcs
    obtain ⟨rfl, rfl, rfl⟩ := hcs
    simp only [Prod.mk.injEq] at hx
    obtain ⟨rfl, rfl⟩ := hx
    simp only [if_true] at hz
    have hw : ∀ k, k < zs.length → 0 ≤ zs.getD k 0 ∧ zs.getD k 0 < 65536 := fun k hk => by
      have := hwz (zs.getD k 0) (by rw [List.getD_eq_getElem?_getD, List.getElem?_eq_getElem hk]; exact List.getElem_mem hk)
      have h1 : IntKind.u16.min = 0 := rfl
      have h2 : IntKind.u16.max = 65535 := rfl
      simp only [Lit.wf, Bool.and_eq_true, decide_eq_true_eq] at this
      omega
    refine ⟨len, fun k => (zs.getD k 0).toNat, _, _, rfl, fun k hk => by have := hw k (by omega); show (zs.getD k 0).toNat < 65536; omega, ?_⟩
    by_cases h0 : cap = 0
    · exact .inl (by omega)
    · obtain ⟨b, o, spot⟩ := a
      have hspot : spot = none := by simpa [Addr.add] using World.cell?_spot (hcell 0 (by omega))
      subst hspot
      refine .inr ⟨b, o, rfl, fun k hk => ?_⟩
      have := hw k (by omega)
      rw [← add_plain, hcell k (by omega)]
      show some (Value.int .u16 (zs.getD k 0)) = some (.int .u16 (((zs.getD k 0).toNat : Nat) : Int))
      rw [Int.toNat_of_nonneg this.1]
set_option maxRecDepth 100000 in
set_option maxHeartbeats 4000000 in
theorem walk (a : Int) (v : Value) (n : Nat) (f : Nat → Nat) (W : World) (ha : 0 ≤ a ∧ a ≤ 255) (hv : U16s W v n f) :
    Calls Try.prog 6 #[.int .u8 a, v] W fun e w' => e = .returned (.bool true) ∧ Below W.heap.size W w' := by
  obtain ⟨av, cap, rfl, hlt, hc⟩ := hv
  obtain ⟨ha1, ha2⟩ := ha
  obtain ⟨N, em⟩ : ∃ N : Nat, a % 14 + 3 = (N : Int) + 1 := ⟨(a % 14 + 2).toNat, by omega⟩
  have hN : 2 ≤ N ∧ N ≤ 15 := by omega
  have HG := Lib.hid (show Good (N + 1) 3 50 from ⟨by omega, by omega, by omega, by omega, by omega, by omega⟩)
  have HC := Lib.hid hc
  have HLt := Lib.hid hlt
  have hN1 := hN.1
  have hN2 := hN.2
  clear hc hlt hN
  go_enter Try.func6, Try.ntmps6
  go_wp2_with fail
  have HEM := Lib.hid em
  clear em
  obtain ⟨bk, hbk⟩ : ∃ bk, bk = W.heap.size + 1 := ⟨_, rfl⟩
  have hk : Bk ((W.alloc (.cells #[.int .i64 (N + 1), .int .i64 3, .int .i64 50] 23)).alloc (.cells (bkCells (.slice none 0 0)) 69)) bk 0 (fun k => bk < k ∧ k < W.heap.size + 2) (fun k => bk < k ∧ k < W.heap.size + 2) := by
    subst hbk
    exact (Bk.start (hn2 _ _ _)).mono (fun _ _ h => h.elim) (fun _ _ h => h.elim)
  have HK := Lib.hid hk
  have HBk := Lib.hid hbk
  rw [← hbk]
  clear hk hbk
  go_loopw [7] (fun s7 wr => ∃ i : Nat, i ≤ 100 ∧ i ≤ n ∧ s7 = .int .i64 i ∧ wr.heap[W.heap.size]? = some (.cells #[.int .i64 (N + 1), .int .i64 3, .int .i64 50] 23 (0, 0)) ∧ Bk wr bk i (fun k => bk < k ∧ k < wr.heap.size) (fun k => bk < k ∧ k < wr.heap.size) ∧ Below W.heap.size W wr) (fun s7 _ => 100 - (intOf s7).toNat)
  case atStart => exact ⟨0, by omega, by omega, rfl, hn1 _ _ _, HK.out.mono (fun k hlt h => ⟨h.1, by simp at hlt ⊢; omega⟩) (fun k hlt h => ⟨h.1, by simp at hlt ⊢; omega⟩), (((Below.refl _ _).alloc (Nat.le_refl _) _).alloc (by simp) _)⟩
  case round =>
    obtain ⟨i, hi, hin, rfl, hg, hk, hb⟩ := hrel
    have HK2 := Lib.hid hk
    have HB := Lib.hid hb
    have HGg := Lib.hid hg
    clear HK hk hb
    by_cases hgo : i < n ∧ i < 100
    · obtain ⟨h1, h2⟩ := hgo
      rcases HC.out with h0 | ⟨b, o, rfl, hc⟩
      · omega
      have hce : wr.cell? ⟨b, o + i, none⟩ = some (.int .u16 (f i)) := by
        rw [HB.out.cell (p := ⟨b, o + i, none⟩) (World.block_lt_of_cell? W _ (hc i h1))]; exact hc i h1
      obtain ⟨cg, fg, zg⟩ := cr hg
      have g0 := cg 0
      have g1 := cg 1
      have g2 := cg 2
      have hfi := HLt.out i h1
      have i1 : (0 : Int) ≤ (i : Int) := by omega
      have i2 : (i : Int) < (n : Int) := by omega
      have hbl : b < wr.heap.size := World.block_lt_of_cell? _ _ hce
      obtain ⟨R, hR⟩ : ∃ R, ((f i : Nat) : Int) % 150 = R := ⟨_, rfl⟩
      have hR1 : 0 ≤ R := by omega
      have hR2 : R < 50 * 3 := by omega
      have hRm : ((f i : Nat) : Int).tmod 150 = R := by rw [Int.tmod_eq_emod_of_nonneg (by omega)]; exact hR
      have hwf : IntKind.i64.wrap ((f i : Nat) : Int) = ((f i : Nat) : Int) := IntWalk.i64_in _ (by omega)
      have HM := Lib.hid (fun w' => gmembers_ok N 3 50 R w' HG.out hR1 hR2)
      clear hc cg hg
      simp only [List.getElem?_toArray, List.getElem?_cons_zero, List.getElem?_cons_succ] at g0 g1 g2
      go_wp2_with fail
      go_region_held3 (fun w' => w'.cell? ⟨W.heap.size, 0, none⟩ = some (.int .i64 (N + 1)) ∧ w'.cell? ⟨W.heap.size, 1, none⟩ = some (.int .i64 3) ∧ w'.cell? ⟨W.heap.size, 2, none⟩ = some (.int .i64 50) ∧ w'.cell? ⟨b, o + i, none⟩ = some (.int .u16 (f i))) ((simp [*, go_sem]; done))
        (first | (go_at_call 14; (with_reducible refine (HM.out _).mono ?_); rintro e w5 ⟨g, rfl, hg5, hI, hb5⟩; obtain ⟨k0hb5, f0hb5, z0hb5⟩ := kp hb5 (W.heap.size) (by go_size); obtain ⟨k1hb5, f1hb5, z1hb5⟩ := kp hb5 b (by go_size)))
      have hb : Below wr.heap.size wr w5 := via ((Below.refl _ _).drew) hb5
      have hgr : wr.heap.size ≤ g := hg5
      have HO5 := Lib.hid (IntsIn.own (B := wr.heap.size) hI hgr (by omega))
      have HK5 := Lib.hid (HK2.out.keep hb)
      have HB5 := Lib.hid (HB.out.trans (hb.mono HB.out.size))
      have hbkl := HK2.out.lt
      have HG5 := Lib.hid ((hb.block _ zg).trans HGg.out)
      have hz := hb.size
      rename_i hHeld
      clear hHeld hb hb5 hg5 hI hce hR hRm hwf g0 g1 g2 hR1 hR2 hfi k0hb5 f0hb5 k1hb5 f1hb5 fg HM i1 i2 hbl
      go_wp2_with fail
      refine (bk_put HK5.out HO5.out (by omega) (fun k hk => ⟨?_, fun h => ?_, fun h => ?_⟩) (by omega)).mono ?_
      · simp [Value.ownBlock] at hk; omega
      · simp [Value.ownBlock] at hk; omega
      · simp [Value.ownBlock] at hk; omega
      rintro e w6 ⟨rfl, hk, ho⟩
      have hz6 := ho.size
      have HK6 := Lib.hid (hk.mono (P' := fun k => bk < k ∧ k < w6.heap.size) (Q' := fun k => bk < k ∧ k < w6.heap.size) (fun k hlt h => by
        rcases h with h | h
        · exact ⟨h.1, hlt⟩
        · simp [Value.ownBlock] at h; exact ⟨by omega, hlt⟩) (fun k hlt h => by
        rcases h with h | h
        · exact ⟨h.1, hlt⟩
        · exact ⟨by omega, hlt⟩))
      have HG6 := Lib.hid (ho.heap HG5.out (fun h => by have h1 := HBk.out; rcases h with h | h <;> omega))
      have HB6 := Lib.hid (HB5.out.trans (ho.below (B := W.heap.size) (fun k _ h => by have h1 := HBk.out; rcases h with h | h <;> omega) HB5.out.size))
      clear hk ho HK5 HO5 HB5 HG5
      go_wp2
      go_roundw
      case rel => exact ⟨i + 1, by omega, by omega, by go_num, HG6.out, HK6.out, HB6.out⟩
      case measure => simp [intOf]; omega
    · have hor : (n : Int) ≤ i ∨ ((i : Int) < n ∧ (100 : Int) ≤ i) := by omega
      clear hgo
      rcases hor with t1 | ⟨t1, t2⟩
      all_goals (
        go_wp2_with fail
        refine (known_true _).mono ?_
        rintro e w8 ⟨rfl, hb⟩
        have HK3 := Lib.hid (HK2.out.keep hb)
        have HB3 := Lib.hid (HB.out.trans (hb.mono HB.out.size))
        clear hb
        go_wp2_with fail
        refine (bk_own HK3.out (by omega)).mono ?_
        rintro e w9 ⟨rfl, ho⟩
        have HZ := Lib.hid (HB3.out.trans (ho.below (B := W.heap.size) (fun k _ h => by have h1 := HBk.out; omega) HB3.out.size))
        clear ho
        go_wp2
        go_ret
        exact ⟨rfl, HZ.out⟩)
theorem kinds6 : ∀ t ∈ Try.f6.params.toList, Try.prog.readableRec t = true ∧ t < Try.prog.types.size := by
  rw [Try.params6]
  intro t ht
  simp only [List.mem_cons, List.not_mem_nil, or_false] at ht
  rcases ht with rfl | rfl
  all_goals exact ⟨by kernel_rfl, of_decide_eq_true (by kernel_rfl)⟩
set_option maxRecDepth 100000 in
theorem lifted (os : Os) (started : os.Started) (H : Type) (enc : TypeId × Value → H) :
    ReturnsInHanded {} Try.checked os 6 .any (Rows.geomOwnSpec.pre6 enc Try.prog Try.f6 Rows.geomOwnRow.domain false) (Rows.geomOwnSpec.post enc Try.prog Try.f6 false true false false) := by
  refine returnsInHanded_of_change (C := Try.checked) own started (by kernel_rfl) Try.func6
    (ChangeSpec.witness6 (enc := enc) (C := Try.checked) false ⟨#[], #[.int .u8 0, .slice none 0 0], []⟩ 8 (by kernel_rfl) (by kernel_rfl) (by kernel_rfl) (by kernel_rfl)) ?_
  intro W base args ds gs before hval0 hW hcnd _
  have hval : ∀ (j : Nat) t v, Try.f6.params[j]? = some t → args[j]? = some v → Value.okWide Try.prog W .any base t v := hval0
  have hW' := hW
  obtain ⟨p, q, hA0, hV, rfl, hfz, hnd⟩ := hW
  have hA : DataW.TrodAll enc Try.prog W 0 (fun _ => true) true Try.f6.params.toList args.toList ds p := hA0
  have hA1 := hA
  rw [Try.params6] at hA hval
  obtain ⟨v0, vs0, d0, ds0, p0, q0, hargs, rfl, rfl, h0, r0⟩ := trodAll_cons hA
  obtain ⟨v1, vs1, d1, ds1, p1, q1, rfl, rfl, rfl, h1, r1⟩ := trodAll_cons r0
  obtain ⟨rfl, rfl, rfl⟩ := trodAll_nil r1
  obtain rfl : args = #[v0, v1] := by cases args; simp_all
  obtain ⟨rfl, rfl⟩ := trodVars_none hV
  obtain ⟨a0, rfl, rfl, rfl, w0⟩ := open_int Try.underlying5 (hval 0 5 v0 rfl rfl) h0
  obtain ⟨n1, f1, u1⟩ := open_u16 (hval 1 54 v1 rfl rfl) h1
  clear hval0
  refine (walk a0 v1 n1 f1 W (bounds_u8 w0) u1).mono fun e W' ⟨he, bel⟩ => ?_
  subst he
  exact ⟨_, rfl, _, _, _, [], _, [], hW', trodAll_mk1 (shut_bool Try.underlying4 _), carryAll laidOut bel _ _ _ _ kinds6 hA1 (fun x hx => hW'.lt x (List.mem_append.2 (.inl hx))), rfl, bel.frame _, fun h => by cases h⟩
theorem proved : Rows.GeomOwnSaid :=
  OpenClaim.holds_of_wide 6 Try.f6 rfl rfl rfl rfl rfl rfl rfl ⟨rfl, rfl, rfl, rfl, rfl⟩ rfl rfl rfl rfl rfl (by kernel_rfl) Try.func6 (by kernel_rfl)
    (of_decide_eq_true (by kernel_rfl)) (by unfold Func.isWrapper; first | (rw [if_pos (by decide +kernel)]; kernel_rfl) | (rw [if_neg (by decide +kernel)]; exact ⟨rfl, rfl⟩))
    (fun os started H enc _ => lifted os started H enc)
#print axioms proved
end Go.Proofs.Ytdgbdbploghhgaa.Own
