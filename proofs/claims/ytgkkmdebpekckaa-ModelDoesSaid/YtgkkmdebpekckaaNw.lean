/- A call and what it must answer: Crash of what the blocks are behind so many batches. Conditions: as stated at each. -/
import Derived.Test.YtgkkmdebpekckaaNv
namespace Go.Proofs.Ytgkkmdebpekckaa
open Go.RowKit Go.Shelf
theorem Rf.last_lt {n : Nat} {s : Rf} (h : s.ok n) : Lt (128 * n) s.last := layN_lt (fate_lt h.x0 _ fun j hj => h.bat j hj) _ _ _ h.way.f
theorem min_max (NB K : Nat) (kv : Int) (h : max 0 (min kv NB) = (K : Int)) : (if 0 < if (NB : Int) < kv then (NB : Int) else kv then if (NB : Int) < kv then (NB : Int) else kv else 0) = (K : Int) := by
  repeat' split
  all_goals omega
set_option maxRecDepth 1000000 in
set_option maxHeartbeats 8000000 in
theorem does_seven_a {w0 w : World} {m r bk n N : Nat} {R : Rf} {Zm Zr P Q : Nat → Prop} (b kv : Int) (K : Nat) (pa aa : Option Addr) (pN pc aN ac : Nat) (HD : DI w0 w m r bk n N R.st R Zm Zr P Q) (hn0 : 0 < n) (hn : n ≤ 61440) (hN : N ≤ 1000000) (hNB : R.NB ≤ 1000000) (hK : max 0 (min kv R.NB) = (K : Int)) (hkv : ¬ (R.NB : Int) < kv) :
    Calls Try.prog 19 #[.pointer (some ⟨m, 0, none⟩), .pointer (some ⟨r, 0, none⟩), .agg #[.int .i64 7, .int .i64 b, .int .i64 kv, .slice pa pN pc, .slice aa aN ac], .pointer (some ⟨bk, 0, none⟩)] w (DoesP w0 m r bk n N R) := by
  have hnn := And.intro hn0 (And.intro hn (And.intro hN hNB))
  clear hnn
  have hb1 : Below w.heap.size w (w.alloc (.cells #[.int .i64 7, .int .i64 b, .int .i64 kv, .slice pa pN pc, .slice aa aN ac] 27)) := bal (Below.refl _ _) _
  obtain ⟨w1, hw1⟩ : ∃ w1, w.alloc (.cells #[.int .i64 7, .int .i64 b, .int .i64 kv, .slice pa pN pc, .slice aa aN ac] 27) = w1 := ⟨_, rfl⟩
  have HBx1 : Hid (Box w1 w.heap.size (.int .i64 7) (.int .i64 b) (.int .i64 kv) (.slice pa pN pc) (.slice aa aN ac)) := by rw [← hw1]; exact heap_alloc_new _ _
  have hI0 := HD
  rw [hw1] at hb1
  have HI1 := Lib.hid (HD.keep hb1)
  have HF := Lib.hid (show ∀ k, w.heap.size ≤ k → w0.heap.size ≤ k ∧ ¬ Zm k ∧ ¬ Zr k ∧ k ≠ bk ∧ ¬ P k ∧ ¬ Q k from fun k hk => HD.fresh hk)
  obtain ⟨g, hg⟩ : ∃ g, w.heap.size = g := ⟨_, rfl⟩
  have hgz : g < w1.heap.size := by rw [← hg, ← hw1, World.size_alloc]; omega
  have HG := Lib.hid (HF.out g (by omega))
  rw [hg] at HBx1 HF
  have HW1 := Lib.hid hw1
  have HGe := Lib.hid hg
  have hK2 : K ≤ R.NB := by omega
  have HK9 := Lib.hid hK2
  obtain ⟨L, hL⟩ : ∃ L, 128 * n = L := ⟨_, rfl⟩
  have HLn := Lib.hid hL
  have hA : L ≤ 140737488351232 := by omega
  obtain ⟨fa, hfa⟩ : ∃ fa, (fate R.x0 R.rb K) = fa := ⟨_, rfl⟩
  have HFa := Lib.hid hfa
  have HLf : Hid (Lt L fa) := by rw [← hL, ← hfa]; exact fate_lt HI1.out.rok.x0 _ fun j hj => HI1.out.rok.bat j (by omega)
  obtain ⟨cb, hcb⟩ := R.could_bool n L fa
  have HCb := Lib.hid hcb
  have HCs : Hid (cb = true ↔ R.st.could n L fa) := hcb.trans (R.could_iff HI1.out.rok.many n L fa).symm
  have HAll := Lib.hid (all_any Zr r n R K w1 HI1.out.ref HI1.out.rok hn0 hn hK2 (by omega))
  clear hcb hL hfa
  clear HD hb1 hI0 hw1 hg
  go_enter Try.func19, Try.ntmps19
  go_upto_block 0 with fail
  rw [HW1.out, HGe.out]
  clear HW1 HGe
  go_cut [9, 10, 11, 12] (fun s9 s10 s11 s12 wx => TailR w0 m r bk n N R s9 s10 s11 s12 wx)
  case rest =>
    obtain ⟨c, R', L, f, Zm', Zr', P', Q', rfl, rfl, h0, h1, hD, hx, hnx, hy, hL, hR⟩ := hcut
    rename_i hK
    refine hK _ _ ?_
    exact does_tail c _ _ f h0 h1 hD hx hnx hy hL hN (by omega) (Nat.le_refl _) hR
  case first =>
    obtain ⟨x0, x1, x2, x3, x4, xz⟩ := HBx1.out.c
    obtain ⟨gF, cF, lv, wv, bv, hR⟩ := HI1.out.ref
    have HR := Lib.hid hR
    obtain ⟨la, lc, rfl, -⟩ := own_form hR.list
    obtain ⟨wa, wc, hwv⟩ : ∃ x y, wv = .slice x R.way.N y := by
      obtain ⟨_, ⟨x, y, e, _⟩, _⟩ := hR.way
      exact ⟨x, y, e⟩
    subst hwv
    obtain ⟨k1, f1, z1⟩ := cr hR.blk
    clear hR
    have HNB0 := Lib.hid hNB
    obtain ⟨NB, hNN⟩ : ∃ NB, R.NB = NB := ⟨_, rfl⟩
    have HNN := Lib.hid hNN
    rw [hNN] at k1 hK hNB hkv
    have HMM := Lib.hid (min_max NB K kv hK)
    have HKv := Lib.hid hkv
    have HKV := Lib.hid (show max 0 (min kv (NB : Int)) = (K : Int) ∧ _ from ⟨hK, hkv⟩)
    clear hNN hK hK2 hkv
    go_wp2_with fail
    go_quiet (fail)
    rw [HMM.out]
    clear HMM
    have hkv := HKv.out
    obtain ⟨w2, hw2⟩ : ∃ w2, w1.drewN nq = w2 := ⟨_, rfl⟩
    rw [hw2]
    have hb2 : Below w1.heap.size w1 w2 := by rw [← hw2]; exact bdn (Below.refl _ _) _
    have HI2 := Lib.hid (HI1.out.keep hb2)
    have HBx2 := Lib.hid (HBx1.out.keep hb2)
    have HR2 := Lib.hid (HR.out.keep hb2)
    clear HAll
    have HAll := Lib.hid (all_any Zr r n R K w2 HI2.out.ref HI2.out.rok hn0 hn HK9.out (by have := HNN.out; omega))
    clear x0 x1 x2 x3 x4 xz k1 f1 z1
    clear hw2 hb2
    obtain ⟨x0, x1, x2, x3, x4, xz⟩ := HBx2.out.c
    obtain ⟨k1, f1, z1⟩ := cr HR2.out.blk
    rw [HNN.out] at k1
    go_wp2_with fail
    refine HAll.out.mono ?_
    rintro e w3 ⟨g5, c5, rfl, ho, hb3⟩
    rw [HLn.out] at ho ⊢
    have HI3 := Lib.hid (HI2.out.keep hb3)
    have HBx3 := Lib.hid (HBx2.out.keep hb3)
    have HR3 := Lib.hid (HR2.out.keep hb3)
    have HO3 := Lib.hid ho
    have HG5 := Lib.hid (HI2.out.fresh (ho.lt g5 rfl).1)
    have hg5 := (ho.lt g5 rfl).2
    clear x0 x1 x2 x3 x4 xz k1 f1 z1 HAll ho hb3
    obtain ⟨x0, x1, x2, x3, x4, xz⟩ := HBx3.out.c
    obtain ⟨k1, f1, z1⟩ := cr HR3.out.blk
    rw [HNN.out] at k1
    go_wp2_with fail
    go_quiet (fail)
    obtain ⟨w4, hw4⟩ : ∃ w4, w3.drewN nq = w4 := ⟨_, rfl⟩
    rw [hw4]
    have hb4 : Below w3.heap.size w3 w4 := by rw [← hw4]; exact bdn (Below.refl _ _) _
    have HI4 := Lib.hid (HI3.out.keep hb4)
    have HR4 := Lib.hid (HR3.out.keep hb4)
    have HO4 := Lib.hid (own_base0 (own_keep hb4 HO3.out))
    have hg6 : g5 < w4.heap.size := Nat.lt_of_lt_of_le hg5 hb4.size
    clear x0 x1 x2 x3 x4 xz k1 f1 z1 hw4 hb4 hg5
    have hNB0 := HNB0.out
    have HV0 : Hid (BtsX (fun k => Zm k ∨ Zr k) w4 (.slice (some ⟨g5, 0, none⟩) L c5) L fa) := by
      rw [← HFa.out]
      exact own_btsX HO4.out fun k hk e => by cases hk; exact e.elim HG5.out.2.1 HG5.out.2.2.1
    go_wp2_with fail
    refine (lent_any (f := fa) hA HV0.out.bts).mono ?_
    rintro e w5 ⟨g2, c2, rfl, hl, hblk, hcm, hg2, hg3, hb2⟩
    have HJ1 := Lib.hid (HI4.out.keep hb2)
    have HL1 := Lib.hid hl
    have HK1 := Lib.hid hblk
    have HV1 := Lib.hid (btsX_keep HV0.out hb2)
    have HG2 := Lib.hid (HI4.out.fresh hg2)
    clear hl hb2 hblk hg2
    go_wp2_with fail
    refine (could_at Zm m n R.st _ L c2 fa w5 HJ1.out.mdl HJ1.out.sok hn0 hn (by show R.NB - R.many ≤ _; omega) HL1.out.bts HLf.out cb HCs.out).mono ?_
    rintro e w6 ⟨rfl, hb3⟩
    have HJ2 := Lib.hid (HJ1.out.keep hb3)
    have HL2 := Lib.hid (HL1.out.keep hb3)
    have HK2 := Lib.hid (HK1.out.out (Out.of_below (S := fun _ => False) hb3) id)
    have HV2 := Lib.hid (btsX_keep HV1.out hb3)
    have hg4 : g2 < w6.heap.size := Nat.lt_of_lt_of_le hg3 hb3.size
    clear hb3 hg3
    go_wp2_with fail
    refine (rcould_any Zr r n R _ L _ fa w6 HJ2.out.ref HJ2.out.rok hn0 hn (by omega) HV2.out.bts HLf.out cb HCb.out).mono ?_
    rintro e w7 ⟨rfl, hb4⟩
    have HJ3 := Lib.hid (HJ2.out.keep hb4)
    have HL3 := Lib.hid (HL2.out.keep hb4)
    have HK3 := Lib.hid (HK2.out.out (Out.of_below (S := fun _ => False) hb4) id)
    have HV3 := Lib.hid (btsX_keep HV2.out hb4)
    have hg5 : g2 < w7.heap.size := Nat.lt_of_lt_of_le hg4 hb4.size
    clear hb4 hg4
    go_wp2_with fail
    refine (crash_any Zm m n R.st _ L c2 fa w7 HJ3.out.mdl HJ3.out.sok hn0 hn (by show R.NB - R.many ≤ _; omega) HL3.out.bts HLf.out cb HCs.out).mono ?_
    rintro e w8 ⟨rfl, Zm', hM, ho, hZ⟩
    have HJ4 := Lib.hid (HJ3.out.mutM hM ho hZ (by rw [← R.cr_st]; exact (HJ3.out.rok.cr HCb.out HLf.out).st))
    have HL4 := Lib.hid (HL3.out.out ho HG2.out.2.1)
    have HK4 := Lib.hid (HK3.out.out ho HG2.out.2.1)
    have HV4 := Lib.hid (HV3.out.out ho fun _ _ e => .inl e)
    have HG4 : Hid (w0.heap.size ≤ g2 ∧ ¬ Zm' g2 ∧ ¬ Zr g2 ∧ g2 ≠ bk ∧ ¬ P g2 ∧ ¬ Q g2) := ⟨HG2.out.1, fun e => (hZ _ e).elim HG2.out.2.1 fun e => by omega, HG2.out.2.2⟩
    have hg6 : g2 < w8.heap.size := Nat.lt_of_lt_of_le hg5 ho.size
    clear hM ho hZ hg5
    obtain ⟨c, hcc⟩ : ∃ c, (if cb = true then (0 : Int) else 180) = c := ⟨_, rfl⟩
    have HCc := Lib.hid hcc
    rw [hcc]
    clear hcc
    go_wp2_with fail
    refine (rcrash_any Zr r n R _ L _ fa w8 HJ4.out.ref HJ4.out.rok hn0 hn (by omega) HV4.out.bts HLf.out cb HCb.out).mono ?_
    rintro e w9 ⟨rfl, Zr', hM, ho, hZ⟩
    rw [HCc.out]
    have HJ5 := Lib.hid (HJ4.out.mutR hM ho hZ (HJ4.out.rok.cr HCb.out HLf.out))
    have HL5 := Lib.hid (HL4.out.out ho HG4.out.2.2.1)
    have HK5 := Lib.hid (HK4.out.out ho HG4.out.2.2.1)
    have HV5 := Lib.hid (HV4.out.out ho fun _ _ e => .inr e)
    have HG5 : Hid (w0.heap.size ≤ g2 ∧ ¬ Zm' g2 ∧ ¬ Zr' g2 ∧ g2 ≠ bk ∧ ¬ P g2 ∧ ¬ Q g2) := ⟨HG4.out.1, HG4.out.2.1, fun e => (hZ _ e).elim HG4.out.2.2.1 fun e => by omega, HG4.out.2.2.2⟩
    clear hM ho hZ hg6
    go_wp2_with fail
    refine (whole_bytes g2 L c2 fa _ w9 hA HL5.out HV5.out.bts).mono ?_
    rintro e w10 ⟨rfl, hb5⟩
    have HJ6 := Lib.hid (HJ5.out.keep hb5)
    have HK6 := Lib.hid (HK5.out.out (Out.of_below (S := fun _ => False) hb5) id)
    clear hb5
    go_wp2_with fail
    refine (spoil_bytes g2 L c2 w10 HK6.out hcm).mono ?_
    rintro e w11 ⟨rfl, -, ho⟩
    have HJ7 := Lib.hid (HJ6.out.out ho fun k _ e => (by rw [e]; exact HG5.out))
    clear ho
    go_wp2_with fail
    go_meet
    have hD := HJ7.out
    rw [← R.cr_st] at hD
    exact TailR.nil hD (by rw [← HCc.out]; cases cb <;> decide) (by rw [← HCc.out]; cases cb <;> decide) (R.cr_NB cb fa)
set_option maxRecDepth 1000000 in
set_option maxHeartbeats 8000000 in
theorem does_seven_b {w0 w : World} {m r bk n N : Nat} {R : Rf} {Zm Zr P Q : Nat → Prop} (b kv : Int) (K : Nat) (pa aa : Option Addr) (pN pc aN ac : Nat) (HD : DI w0 w m r bk n N R.st R Zm Zr P Q) (hn0 : 0 < n) (hn : n ≤ 61440) (hN : N ≤ 1000000) (hNB : R.NB ≤ 1000000) (hK : max 0 (min kv R.NB) = (K : Int)) (hkv : (R.NB : Int) < kv) :
    Calls Try.prog 19 #[.pointer (some ⟨m, 0, none⟩), .pointer (some ⟨r, 0, none⟩), .agg #[.int .i64 7, .int .i64 b, .int .i64 kv, .slice pa pN pc, .slice aa aN ac], .pointer (some ⟨bk, 0, none⟩)] w (DoesP w0 m r bk n N R) := by
  have hnn := And.intro hn0 (And.intro hn (And.intro hN hNB))
  clear hnn
  have hb1 : Below w.heap.size w (w.alloc (.cells #[.int .i64 7, .int .i64 b, .int .i64 kv, .slice pa pN pc, .slice aa aN ac] 27)) := bal (Below.refl _ _) _
  obtain ⟨w1, hw1⟩ : ∃ w1, w.alloc (.cells #[.int .i64 7, .int .i64 b, .int .i64 kv, .slice pa pN pc, .slice aa aN ac] 27) = w1 := ⟨_, rfl⟩
  have HBx1 : Hid (Box w1 w.heap.size (.int .i64 7) (.int .i64 b) (.int .i64 kv) (.slice pa pN pc) (.slice aa aN ac)) := by rw [← hw1]; exact heap_alloc_new _ _
  have hI0 := HD
  rw [hw1] at hb1
  have HI1 := Lib.hid (HD.keep hb1)
  have HF := Lib.hid (show ∀ k, w.heap.size ≤ k → w0.heap.size ≤ k ∧ ¬ Zm k ∧ ¬ Zr k ∧ k ≠ bk ∧ ¬ P k ∧ ¬ Q k from fun k hk => HD.fresh hk)
  obtain ⟨g, hg⟩ : ∃ g, w.heap.size = g := ⟨_, rfl⟩
  have hgz : g < w1.heap.size := by rw [← hg, ← hw1, World.size_alloc]; omega
  have HG := Lib.hid (HF.out g (by omega))
  rw [hg] at HBx1 HF
  have HW1 := Lib.hid hw1
  have HGe := Lib.hid hg
  have hK2 : K ≤ R.NB := by omega
  have HK9 := Lib.hid hK2
  obtain ⟨L, hL⟩ : ∃ L, 128 * n = L := ⟨_, rfl⟩
  have HLn := Lib.hid hL
  have hA : L ≤ 140737488351232 := by omega
  obtain ⟨fa, hfa⟩ : ∃ fa, R.last = fa := ⟨_, rfl⟩
  have HFa := Lib.hid hfa
  have HLf : Hid (Lt L fa) := by rw [← hL, ← hfa]; exact Rf.last_lt HI1.out.rok
  obtain ⟨cb, hcb⟩ := R.could_bool n L fa
  have HCb := Lib.hid hcb
  have HCs : Hid (cb = true ↔ R.st.could n L fa) := hcb.trans (R.could_iff HI1.out.rok.many n L fa).symm
  have HAll := Lib.hid (all_any Zr r n R K w1 HI1.out.ref HI1.out.rok hn0 hn hK2 (by omega))
  clear hcb hL hfa
  clear HD hb1 hI0 hw1 hg
  go_enter Try.func19, Try.ntmps19
  go_upto_block 0 with fail
  rw [HW1.out, HGe.out]
  clear HW1 HGe
  go_cut [9, 10, 11, 12] (fun s9 s10 s11 s12 wx => TailR w0 m r bk n N R s9 s10 s11 s12 wx)
  case rest =>
    obtain ⟨c, R', L, f, Zm', Zr', P', Q', rfl, rfl, h0, h1, hD, hx, hnx, hy, hL, hR⟩ := hcut
    rename_i hK
    refine hK _ _ ?_
    exact does_tail c _ _ f h0 h1 hD hx hnx hy hL hN (by omega) (Nat.le_refl _) hR
  case first =>
    obtain ⟨x0, x1, x2, x3, x4, xz⟩ := HBx1.out.c
    obtain ⟨gF, cF, lv, wv, bv, hR⟩ := HI1.out.ref
    have HR := Lib.hid hR
    obtain ⟨la, lc, rfl, -⟩ := own_form hR.list
    obtain ⟨wa, wc, hwv⟩ : ∃ x y, wv = .slice x R.way.N y := by
      obtain ⟨_, ⟨x, y, e, _⟩, _⟩ := hR.way
      exact ⟨x, y, e⟩
    subst hwv
    obtain ⟨k1, f1, z1⟩ := cr hR.blk
    clear hR
    have HNB0 := Lib.hid hNB
    obtain ⟨NB, hNN⟩ : ∃ NB, R.NB = NB := ⟨_, rfl⟩
    have HNN := Lib.hid hNN
    rw [hNN] at k1 hK hNB hkv
    have HMM := Lib.hid (min_max NB K kv hK)
    have HKv := Lib.hid hkv
    have HKV := Lib.hid (show max 0 (min kv (NB : Int)) = (K : Int) ∧ _ from ⟨hK, hkv⟩)
    clear hNN hK hK2 hkv
    go_wp2_with fail
    go_quiet (fail)
    rw [HMM.out]
    clear HMM
    have hkv := HKv.out
    obtain ⟨w2, hw2⟩ : ∃ w2, w1.drewN nq = w2 := ⟨_, rfl⟩
    rw [hw2]
    have hb2 : Below w1.heap.size w1 w2 := by rw [← hw2]; exact bdn (Below.refl _ _) _
    have HI2 := Lib.hid (HI1.out.keep hb2)
    have HBx2 := Lib.hid (HBx1.out.keep hb2)
    have HR2 := Lib.hid (HR.out.keep hb2)
    clear HAll
    have HAll := Lib.hid (all_any Zr r n R K w2 HI2.out.ref HI2.out.rok hn0 hn HK9.out (by have := HNN.out; omega))
    clear x0 x1 x2 x3 x4 xz k1 f1 z1
    clear hw2 hb2
    obtain ⟨x0, x1, x2, x3, x4, xz⟩ := HBx2.out.c
    obtain ⟨k1, f1, z1⟩ := cr HR2.out.blk
    rw [HNN.out] at k1
    go_wp2_with fail
    refine HAll.out.mono ?_
    rintro e w3 ⟨g5, c5, rfl, ho, hb3⟩
    rw [HLn.out] at ho ⊢
    have HI3 := Lib.hid (HI2.out.keep hb3)
    have HBx3 := Lib.hid (HBx2.out.keep hb3)
    have HR3 := Lib.hid (HR2.out.keep hb3)
    have HO3 := Lib.hid ho
    have HG5 := Lib.hid (HI2.out.fresh (ho.lt g5 rfl).1)
    have hg5 := (ho.lt g5 rfl).2
    clear x0 x1 x2 x3 x4 xz k1 f1 z1 HAll ho hb3
    obtain ⟨x0, x1, x2, x3, x4, xz⟩ := HBx3.out.c
    obtain ⟨k1, f1, z1⟩ := cr HR3.out.blk
    rw [HNN.out] at k1
    go_wp2_with fail
    go_quiet (fail)
    obtain ⟨w4, hw4⟩ : ∃ w4, w3.drewN nq = w4 := ⟨_, rfl⟩
    rw [hw4]
    have hb4 : Below w3.heap.size w3 w4 := by rw [← hw4]; exact bdn (Below.refl _ _) _
    have HI4 := Lib.hid (HI3.out.keep hb4)
    have HR4 := Lib.hid (HR3.out.keep hb4)
    have HO4 := Lib.hid (own_base0 (own_keep hb4 HO3.out))
    have hg6 : g5 < w4.heap.size := Nat.lt_of_lt_of_le hg5 hb4.size
    clear x0 x1 x2 x3 x4 xz k1 f1 z1 hw4 hb4 hg5
    have hNB0 := HNB0.out
    obtain ⟨WN, hWN⟩ : ∃ WN, R.way.N = WN := ⟨_, rfl⟩
    have HWN := Lib.hid hWN
    rw [hWN] at HR4
    have hcap : L ≤ c5 := by
      rcases HO4.out.2 with ⟨h, _⟩ | ⟨_, _, _, h, _, _, h2, _⟩
      · cases h
      · cases h; exact h2
    have hWB : WN ≤ 256 := by rw [← hWN]; exact HI4.out.rok.way.N
    clear hWN
    obtain ⟨xx, hxx⟩ : ∃ xx, fate R.x0 R.rb K = xx := ⟨_, rfl⟩
    have HXX := Lib.hid hxx
    rw [hxx] at HO4
    have HKN : Hid (K = R.NB) := by have := HK9.out; have := HNN.out; have := HKV.out; show K = R.NB; omega
    clear hxx
    go_wp2_with fail
    go_loopw [18] (fun s18 wr => ∃ i : Nat, i ≤ WN ∧ s18 = .int .i64 i ∧ Hid (wr.ownsRow 0 5 1 (.slice (some ⟨g5, 0, none⟩) L c5) L (bytesL L (layN xx R.way.bl R.way.f i)) ∧ Out (fun b => b = g5) w4 wr)) (fun s18 _ => WN - (intOf s18).toNat)
    case atStart => exact ⟨0, Nat.zero_le _, rfl, HO4.out, Out.refl _ _⟩
    case round =>
      obtain ⟨i, hi, rfl, HQ⟩ := hrel
      have HIr := Lib.hid (HI4.out.out HQ.out.2 fun k _ e => by rw [e]; exact HG5.out)
      have HRr := Lib.hid (HR4.out.out HQ.out.2 fun k _ e => by rw [e]; exact HG5.out.2.2.1)
      obtain ⟨k1, f1, z1⟩ := cr HRr.out.blk
      rw [HNN.out] at k1
      by_cases hlt : i < WN
      · obtain ⟨dv, ⟨_, _, hv0, h1⟩, hd⟩ := HRr.out.way
        simp only [Value.slice.injEq] at hv0
        obtain ⟨rfl, -, rfl⟩ := hv0
        rcases h1 with h0 | ⟨b0, o0, rfl, hbx, hc⟩
        · have := HWN.out; omega
        obtain ⟨p1, p2⟩ := hc i (by rw [HWN.out]; exact hlt)
        dsimp only at p1
        obtain ⟨_, cd, hv, hdd⟩ := hd i (by rw [HWN.out]; exact hlt)
        rcases hdd with h0 | ⟨bd, od, rfl, hbd, hcd⟩
        · omega
        rw [hv] at p2
        have HCD := Lib.hid hcd
        have hbk : R.way.bl i < n := HI4.out.rok.way.bl i (by rw [HWN.out]; exact hlt)
        have i1 : (0 : Int) ≤ (i : Int) := by omega
        have i2 : (i : Int) < (WN : Int) := by omega
        have HLS := Lib.hid (lay_splice n i xx R.way.bl R.way.f hbk)
        rw [HLn.out] at HLS
        obtain ⟨mm, hm⟩ : ∃ mm, 128 * R.way.bl i = mm := ⟨_, rfl⟩
        have wmul : IntKind.i64.wrap (128 * (R.way.bl i : Int)) = (mm : Int) := by subst hm; go_arith
        have j1 : mm + 128 ≤ L := by have := HLn.out; omega
        have j2 : mm ≤ L := by omega
        have j3 : ¬ c5 = mm := by omega
        rw [hm] at HLS
        have HM := Lib.hid hm
        clear hm hbk hc hcd hv hbd hbx hd
        obtain ⟨bli, hbli⟩ : ∃ bli, R.way.bl i = bli := ⟨_, rfl⟩
        rw [hbli] at p1 wmul
        clear hbli
        have HSrc : Hid (∀ w', Below wr.heap.size wr w' → ∀ j u, (bytesL 128 (R.way.f i))[j]? = some u → w'.cell? ((⟨bd, od, none⟩ : Addr).add j) = some u) := fun w' hb j u hj => by
          by_cases hj' : j < 128
          · rw [bytesL_get _ _ _ hj'] at hj
            rw [addk, hb.cell (p := ⟨bd, od + j, none⟩) (World.block_lt_of_cell? wr _ (HCD.out j hj')), HCD.out j hj']
            exact hj
          · rw [List.getElem?_eq_none (by rw [bytesL_len]; omega)] at hj
            cases hj
        go_wp2
        go_region_law (refine step_copy_lies _ rfl (.tmp 146) (.tmp 154) 25 25 rfl 5 0 g5 L c5 mm (L - mm) (c5 - mm) (bytesL L (layN xx R.way.bl R.way.f i)) (own_keep (w := wr) (by go_grown) HQ.out.1) ⟨bd, od, none⟩ 128 cd (bytesL 128 (R.way.f i)) Try.underlying25 size5 (by simp [Act.eval, Act.put]) (by simp [Act.eval, Act.put]) (by rw [bytesL_len]; exact (Nat.min_eq_left (by omega)).symm) (by rw [bytesL_len]; omega) (HSrc.out _ (by go_grown)) (bytesL_one _ _) ?_; intro w5 ho hout; have HO := Lib.hid ho; have HOut := Lib.hid hout; clear ho hout)
        all_goals go_wp2
        all_goals go_roundw
        all_goals first
          | (refine ⟨i + 1, by omega, by go_num, ?_, ?_⟩
             · rw [← HLS.out]; exact HO.out
             · exact HQ.out.2.drew.tr HOut.out)
          | (simp [intOf]; omega)
      · obtain rfl : i = WN := by omega
        have HV0 : Hid (BtsX (fun k => Zm k ∨ Zr k) wr (.slice (some ⟨g5, 0, none⟩) L c5) L fa) := by
          have h9 := HQ.out.1
          have e9 : layN xx R.way.bl R.way.f i = fa := by rw [← HFa.out, ← HXX.out, HKN.out, ← HWN.out]; rfl
          rw [e9] at h9
          exact own_btsX h9 fun k hk e => by cases hk; exact e.elim HG5.out.2.1 HG5.out.2.2.1
        go_wp2_with fail
        refine (lent_any (f := fa) hA HV0.out.bts).mono ?_
        rintro e w5 ⟨g2, c2, rfl, hl, hblk, hcm, hg2, hg3, hb2⟩
        have HJ1 := Lib.hid (HIr.out.keep hb2)
        have HL1 := Lib.hid hl
        have HK1 := Lib.hid hblk
        have HV1 := Lib.hid (btsX_keep HV0.out hb2)
        have HG2 := Lib.hid (HIr.out.fresh hg2)
        clear hl hb2 hblk hg2
        go_wp2_with fail
        refine (could_at Zm m n R.st _ L c2 fa w5 HJ1.out.mdl HJ1.out.sok hn0 hn (by show R.NB - R.many ≤ _; omega) HL1.out.bts HLf.out cb HCs.out).mono ?_
        rintro e w6 ⟨rfl, hb3⟩
        have HJ2 := Lib.hid (HJ1.out.keep hb3)
        have HL2 := Lib.hid (HL1.out.keep hb3)
        have HK2 := Lib.hid (HK1.out.out (Out.of_below (S := fun _ => False) hb3) id)
        have HV2 := Lib.hid (btsX_keep HV1.out hb3)
        have hg4 : g2 < w6.heap.size := Nat.lt_of_lt_of_le hg3 hb3.size
        clear hb3 hg3
        go_wp2_with fail
        refine (rcould_any Zr r n R _ L _ fa w6 HJ2.out.ref HJ2.out.rok hn0 hn (by omega) HV2.out.bts HLf.out cb HCb.out).mono ?_
        rintro e w7 ⟨rfl, hb4⟩
        have HJ3 := Lib.hid (HJ2.out.keep hb4)
        have HL3 := Lib.hid (HL2.out.keep hb4)
        have HK3 := Lib.hid (HK2.out.out (Out.of_below (S := fun _ => False) hb4) id)
        have HV3 := Lib.hid (btsX_keep HV2.out hb4)
        have hg5 : g2 < w7.heap.size := Nat.lt_of_lt_of_le hg4 hb4.size
        clear hb4 hg4
        go_wp2_with fail
        refine (crash_any Zm m n R.st _ L c2 fa w7 HJ3.out.mdl HJ3.out.sok hn0 hn (by show R.NB - R.many ≤ _; omega) HL3.out.bts HLf.out cb HCs.out).mono ?_
        rintro e w8 ⟨rfl, Zm', hM, ho, hZ⟩
        have HJ4 := Lib.hid (HJ3.out.mutM hM ho hZ (by rw [← R.cr_st]; exact (HJ3.out.rok.cr HCb.out HLf.out).st))
        have HL4 := Lib.hid (HL3.out.out ho HG2.out.2.1)
        have HK4 := Lib.hid (HK3.out.out ho HG2.out.2.1)
        have HV4 := Lib.hid (HV3.out.out ho fun _ _ e => .inl e)
        have HG4 : Hid (w0.heap.size ≤ g2 ∧ ¬ Zm' g2 ∧ ¬ Zr g2 ∧ g2 ≠ bk ∧ ¬ P g2 ∧ ¬ Q g2) := ⟨HG2.out.1, fun e => (hZ _ e).elim HG2.out.2.1 fun e => by omega, HG2.out.2.2⟩
        have hg6 : g2 < w8.heap.size := Nat.lt_of_lt_of_le hg5 ho.size
        clear hM ho hZ hg5
        obtain ⟨c, hcc⟩ : ∃ c, (if cb = true then (0 : Int) else 180) = c := ⟨_, rfl⟩
        have HCc := Lib.hid hcc
        rw [hcc]
        clear hcc
        go_wp2_with fail
        refine (rcrash_any Zr r n R _ L _ fa w8 HJ4.out.ref HJ4.out.rok hn0 hn (by omega) HV4.out.bts HLf.out cb HCb.out).mono ?_
        rintro e w9 ⟨rfl, Zr', hM, ho, hZ⟩
        rw [HCc.out]
        have HJ5 := Lib.hid (HJ4.out.mutR hM ho hZ (HJ4.out.rok.cr HCb.out HLf.out))
        have HL5 := Lib.hid (HL4.out.out ho HG4.out.2.2.1)
        have HK5 := Lib.hid (HK4.out.out ho HG4.out.2.2.1)
        have HV5 := Lib.hid (HV4.out.out ho fun _ _ e => .inr e)
        have HG5 : Hid (w0.heap.size ≤ g2 ∧ ¬ Zm' g2 ∧ ¬ Zr' g2 ∧ g2 ≠ bk ∧ ¬ P g2 ∧ ¬ Q g2) := ⟨HG4.out.1, HG4.out.2.1, fun e => (hZ _ e).elim HG4.out.2.2.1 fun e => by omega, HG4.out.2.2.2⟩
        clear hM ho hZ hg6
        go_wp2_with fail
        refine (whole_bytes g2 L c2 fa _ w9 hA HL5.out HV5.out.bts).mono ?_
        rintro e w10 ⟨rfl, hb5⟩
        have HJ6 := Lib.hid (HJ5.out.keep hb5)
        have HK6 := Lib.hid (HK5.out.out (Out.of_below (S := fun _ => False) hb5) id)
        clear hb5
        go_wp2_with fail
        refine (spoil_bytes g2 L c2 w10 HK6.out hcm).mono ?_
        rintro e w11 ⟨rfl, -, ho⟩
        have HJ7 := Lib.hid (HJ6.out.out ho fun k _ e => (by rw [e]; exact HG5.out))
        clear ho
        go_wp2_with fail
        go_meet
        have hD := HJ7.out
        rw [← R.cr_st] at hD
        exact TailR.nil hD (by rw [← HCc.out]; cases cb <;> decide) (by rw [← HCc.out]; cases cb <;> decide) (R.cr_NB cb fa)
end Go.Proofs.Ytgkkmdebpekckaa
