/- XorAdds: the walk and the row. Conditions: as stated at each. -/
import Derived.Test.YtnjcnnjdogdbdaaXz
namespace Go.Proofs.Ytnjcnnjdogdbdaa.Adds
open Go.ChangeShapes Go.WideShapes Go.ChangeAt Go.RowKit
open Go.Proofs.Ytnjcnnjdogdbdaa
set_option maxRecDepth 100000 in
set_option maxHeartbeats 3000000 in
theorem walk (a : Int) (v0 : Value) (N : Nat) (rv0 : Nat → Value) (n : Nat → Nat) (h : Nat → Nat → Nat) (W : World) (hm : CameM W v0 N rv0 n h) (bN : (N : Int) ≤ 140737488351232) (bn : ∀ i, i < N → (n i : Int) ≤ 140737488351232) :
    Calls Try.prog 11 #[.int .i64 a, v0] W fun e w' => e = .returned (.bool true) ∧ Below W.heap.size W w' := by
  have HR := Lib.hid hm.rows
  have HC := Lib.hid hm.rows.l
  obtain ⟨av, cv, rfl, hcl⟩ := hm.rows.l
  have HCL := Lib.hid hcl
  have HBn := Lib.hid bn
  have HLt := Lib.hid (show ∀ i, i < N → ∀ k, k < n i → h i k < 256 from hm.lt)
  clear hm bn hcl
  go_enter Try.func11, Try.ntmps11
  go_wp2_with fail
  refine (much_any _ N _ n h _ HR.out bN HBn.out).mono ?_
  rintro e w1 ⟨bl, rfl, hbl, hb⟩
  have HW1 := Lib.hid hb
  have HBl := Lib.hid hbl
  clear hb hbl HBn
  by_cases hgo : bl = false ∧ N ≤ 1000
  · obtain ⟨rfl, hN⟩ := hgo
    have htot := HBl.out rfl
    have HL := Lib.hid (show ∀ i, i < N → n i ≤ 200000 from fun i hi => by have := tot_each N n (j := N) hi; omega)
    clear HBl bN htot
    have h1000 : ¬ (1000 : Int) < N := by omega
    by_cases hbad : a < 0 ∨ 4096 < a
    · go_wp2_with fail
      refine (new_bad a _ hbad).mono ?_
      rintro e w2 ⟨rfl, hb⟩
      have HW2 := Lib.hid (via HW1.out hb)
      clear hb HW1
      go_wp2_with fail
      refine (new_bad a _ hbad).mono ?_
      rintro e w3 ⟨rfl, hb⟩
      have HW3 := Lib.hid (via HW2.out hb)
      clear hb HW2
      go_wp2_with fail
      refine (refnew_bad a _ hbad).mono ?_
      rintro e w4 ⟨rfl, hb⟩
      have HW4 := Lib.hid (via HW3.out hb)
      clear hb HW3
      go_wp2_with fail
      refine (known_true _).mono ?_
      rintro e w5 ⟨rfl, hb⟩
      have HW5 := Lib.hid (via HW4.out hb)
      clear hb HW4
      go_wp2
      go_ret
      exact ⟨rfl, HW5.out⟩
    · obtain ⟨L, rfl⟩ : ∃ L : Nat, a = L := ⟨a.toNat, by omega⟩
      have hL : L ≤ 4096 := by omega
      clear hbad
      go_wp2_with fail
      refine (new_ok L _ hL).mono ?_
      rintro e w2 ⟨sb, g, rfl, hs, z1, z2, hb⟩
      have HS2 := Lib.hid hs
      have HV2 := Lib.hid hb
      have Z12 := Lib.hid (show w1.heap.size ≤ sb ∧ w1.heap.size ≤ g ∧ sb < w2.heap.size ∧ g < w2.heap.size from ⟨z1, z2, hs.lts.1, hs.lts.2⟩)
      clear hs hb z1 z2
      go_wp2_with fail
      refine (new_ok L _ hL).mono ?_
      rintro e w3 ⟨tb, tg, rfl, hs, z1, z2, hb⟩
      have HT3 := Lib.hid hs
      have HS3 := Lib.hid (HS2.out.keep hb)
      have HV3 := Lib.hid (via HV2.out hb)
      have Z23 := Lib.hid (show w2.heap.size ≤ tb ∧ w2.heap.size ≤ tg ∧ tb < w3.heap.size ∧ tg < w3.heap.size from ⟨z1, z2, hs.lts.1, hs.lts.2⟩)
      clear hs hb z1 z2 HS2 HV2
      go_wp2_with fail
      refine (refnew_ok L _ hL).mono ?_
      rintro e w4 ⟨rb, q, rfl, hr, z1, z2, hb⟩
      have HR4 := Lib.hid hr
      have HT4 := Lib.hid (HT3.out.keep hb)
      have HS4 := Lib.hid (HS3.out.keep hb)
      have HV4 := Lib.hid (via HV3.out hb)
      have Z34 := Lib.hid (show w3.heap.size ≤ rb ∧ rb < w4.heap.size ∧ ∀ k, q = some k → w3.heap.size ≤ k ∧ k < w4.heap.size from ⟨z1, hr.lt.1, fun k hk => ⟨z2 k hk, hr.lt.2 k hk⟩⟩)
      clear hr hb z1 z2 HT3 HS3 HV3
      go_wp2_with fail
      refine (known_true _).mono ?_
      rintro e w5 ⟨rfl, hb⟩
      have HR5 := Lib.hid (HR4.out.keep hb)
      have HT5 := Lib.hid (HT4.out.keep hb)
      have HS5 := Lib.hid (HS4.out.keep hb)
      have HV5 := Lib.hid (via HV4.out hb)
      have Z45 := Lib.hid hb.size
      clear hb HR4 HT4 HS4 HV4
      have hk : Bk (w5.alloc (.cells (bkCells (.slice none 0 0)) 50)) w5.heap.size 0 (fun _ => False) (fun _ => False) := Bk.start (heap_alloc_new _ _)
      have hal : Below w5.heap.size w5 (w5.alloc (.cells (bkCells (.slice none 0 0)) 50)) := (Below.refl _ _).alloc (Nat.le_refl _) _
      have hrel : AddRel w1 w3 (w5.alloc (.cells (bkCells (.slice none 0 0)) 50)) N sb g tb tg rb w5.heap.size L 0 (fun _ => 0) 0 q none :=
        ⟨fun _ _ => by omega, HS5.out.keep hal, HT5.out.keep hal, HR5.out.keep hal, hk.mono (fun _ _ h => h.elim) (fun _ _ h => h.elim), fun k hk => (by cases hk), fun k hk => by have h1 := Z34.out.2.2 k hk; have h2 := Z45.out; omega, via HV5.out hal, by simp⟩
      have HRel := Lib.hid hrel
      obtain ⟨bk, hbk⟩ : ∃ bk, w5.heap.size = bk := ⟨_, rfl⟩
      rw [hbk] at HRel
      have Z := Lib.hid (show w1.heap.size ≤ sb ∧ w1.heap.size ≤ g ∧ sb < w2.heap.size ∧ g < w2.heap.size ∧ w2.heap.size ≤ tb ∧ w2.heap.size ≤ tg ∧ tb < w3.heap.size ∧ tg < w3.heap.size ∧ w3.heap.size ≤ rb ∧ rb < bk from by
        obtain ⟨p1, p2, p3, p4⟩ := Z12.out
        obtain ⟨p5, p6, p7, p8⟩ := Z23.out
        obtain ⟨p9, p10, -⟩ := Z34.out
        have p11 := Z45.out
        refine ⟨p1, p2, p3, p4, p5, p6, p7, p8, p9, ?_⟩
        omega)
      clear hk hal hrel HR5 HT5 HS5 HV5 Z12 Z23 Z34 Z45
      go_wp2
      have HBK := Lib.hid hbk
      clear hbk
      go_loopw [11] (fun s11 wr => ∃ (i : Nat) (F : Nat → Nat) (m : Nat) (q ql : Option Nat), i ≤ N ∧ s11 = .int .i64 i ∧ m ≤ i ∧ AddRel w1 w3 wr N sb g tb tg rb bk L i F m q ql) (fun s11 _ => N - (intOf s11).toNat)
      case atStart => exact ⟨0, fun _ => 0, 0, q, none, by omega, rfl, by omega, HRel.out⟩
      case round =>
        clear HRel
        obtain ⟨i, F, m, q, ql, hi, rfl, hmi, hrel⟩ := hrel
        obtain ⟨o1, o2, o3, o4, o5, o6, o7, o8, o9, o10⟩ := Z.out
        have Zbk := Lib.hid hrel.z
        have Hql := Lib.hid hrel.hl
        have Hq0 := Lib.hid hrel.hq
        have Hqlt := Lib.hid hrel.r.lt.2
        have HF := Lib.hid hrel.lt
        have HSr := Lib.hid hrel.s
        have HTr := Lib.hid hrel.t
        have HRr := Lib.hid hrel.r
        have HBr' := Lib.hid hrel.b
        have HVr := Lib.hid hrel.v
        clear hrel o1 o2 o3 o4 o5 o6 o7 o8 o9 o10
        by_cases hlt : i < N
        · rcases HCL.out with h0 | ⟨b, o, rfl, hc⟩
          · omega
          have hbW : Below W.heap.size W wr := via HW1.out HVr.out
          have hcellW : W.cell? ⟨b, o + i, none⟩ = some (rv0 i) := hc i hlt
          have HCell := Lib.hid hcellW
          have hcell : wr.cell? ⟨b, o + i, none⟩ = some (rv0 i) := by
            rw [hbW.cell (p := ⟨b, o + i, none⟩) (World.block_lt_of_cell? W _ hcellW)]; exact hcellW
          have HBt := Lib.hid (HR.out.b i hlt)
          have HBl := Lib.hid (show ∀ k, (rv0 i).ownBlock = some k → 0 < n i → k < W.heap.size from fun k hk h0 => by
            obtain ⟨a', c', e1, hc'⟩ := HR.out.b i hlt
            rcases hc' with h1 | ⟨b', o', rfl, hc'⟩
            · omega
            · rw [e1] at hk; cases hk; exact World.block_lt_of_cell? W _ (hc' 0 h0))
          obtain ⟨ra0, rc0, hrv⟩ := (HR.out.b i hlt).form
          have HRV := Lib.hid hrv
          rw [hrv] at hcell
          have hni := HL.out i hlt
          have HWs := Lib.hid HW1.out.size
          clear hc hcellW hrv hbW
          go_wp2_with fail
          refine (lent_x (n := n i) (f := h i) (by omega) (by have := HBt.out.keep (via HW1.out HVr.out); rw [HRV.out] at this; exact this)).mono ?_
          rintro e wA ⟨b', rfl, hx, hb⟩
          have HXA := Lib.hid hx
          have HSA := Lib.hid (HSr.out.keep hb)
          have HTA := Lib.hid (HTr.out.keep hb)
          have HRA := Lib.hid (HRr.out.keep hb)
          have HBA := Lib.hid (HBr'.out.keep hb)
          have HVA := Lib.hid (via HVr.out hb)
          have ZA := Lib.hid hb.size
          have Hb' := Lib.hid (show ∀ k, b'.ownBlock = some k → wr.heap.size ≤ k from fun k hk => (hx.block hk).1)
          have HcA := Lib.hid (show wA.cell? ⟨b, o + i, none⟩ = some (.slice ra0 (n i) rc0) from by rw [hb.cell (p := ⟨b, o + i, none⟩) (World.block_lt_of_cell? wr _ hcell)]; exact hcell)
          obtain ⟨ga, gc, rfl, -⟩ := HXA.out
          clear hx hb HSr HTr HRr HBr' HVr hcell
          go_wp2_with fail
          refine (add_any _ (n i) (h i) sb g L F m _ HSA.out (rowIn2 HXA.out.bts (HLt.out i hlt) (fun k hk => by have h1 := Hb'.out k hk; have h2 := Zbk.out; obtain ⟨o1, o2, o3, o4, o5, o6, o7, o8, o9, o10⟩ := Z.out; omega)) (by omega) (by omega)).mono ?_
          obtain ⟨X2, hX2⟩ : ∃ X2, aE (n i) L = X2 := ⟨_, rfl⟩
          obtain ⟨F2, hF2⟩ : ∃ F2, aF (n i) L F (h i) = F2 := ⟨_, rfl⟩
          obtain ⟨M2, hM2⟩ : ∃ M2, aM (n i) L m = M2 := ⟨_, rfl⟩
          have hM3 : M2 ≤ i + 1 := by rw [← hM2]; exact aM_le hmi
          have HF2 := Lib.hid (show Lt L F2 from by rw [← hF2]; exact aF_lt HF.out (HLt.out i hlt))
          rw [hX2, hF2, hM2]
          have HX2e := Lib.hid hX2
          have HF2e := Lib.hid hF2
          have HM2e := Lib.hid hM2
          clear hX2 hF2 hM2
          rintro e wB ⟨rfl, hs, ho⟩
          have HSB := Lib.hid hs
          have HTB := Lib.hid (SumS.out HTA.out ho (fun h => by obtain ⟨o1, o2, o3, o4, o5, o6, o7, o8, o9, o10⟩ := Z.out; omega) (fun h => by obtain ⟨o1, o2, o3, o4, o5, o6, o7, o8, o9, o10⟩ := Z.out; omega))
          have HRB := Lib.hid (HRA.out.out ho (fun h => by obtain ⟨o1, o2, o3, o4, o5, o6, o7, o8, o9, o10⟩ := Z.out; omega) (fun k hk h => by have h1 := Hq0.out k hk; obtain ⟨o1, o2, o3, o4, o5, o6, o7, o8, o9, o10⟩ := Z.out; omega))
          have HBB := Lib.hid (HBA.out.out ho (fun h => by obtain ⟨o1, o2, o3, o4, o5, o6, o7, o8, o9, o10⟩ := Z.out; omega) (fun k h1 h => by obtain ⟨o1, o2, o3, o4, o5, o6, o7, o8, o9, o10⟩ := Z.out; omega) (fun k h1 h => by have h2 := (Hql.out k h1).1; obtain ⟨o1, o2, o3, o4, o5, o6, o7, o8, o9, o10⟩ := Z.out; omega))
          have HXB := Lib.hid (HXA.out.out ho (fun k hk h => by have h1 := Hb'.out k hk; have h2 := Zbk.out; obtain ⟨o1, o2, o3, o4, o5, o6, o7, o8, o9, o10⟩ := Z.out; omega))
          have HVB := Lib.hid (HVA.out.trans (ho.below (B := w1.heap.size) (fun k _ h => by obtain ⟨o1, o2, o3, o4, o5, o6, o7, o8, o9, o10⟩ := Z.out; omega) HVA.out.size))
          have ZB := Lib.hid (show wr.heap.size ≤ wB.heap.size from Nat.le_trans ZA.out ho.size)
          have HcB := Lib.hid (show wB.cell? ⟨b, o + i, none⟩ = some (.slice ra0 (n i) rc0) from by
            have := (HW1.out.trans (HVB.out.mono HWs.out)).cell (p := ⟨b, o + i, none⟩) (World.block_lt_of_cell? W _ HCell.out)
            rw [this, HCell.out, HRV.out])
          clear hs ho HSA HTA HRA HBA HXA HVA ZA HcA
          have hc1 := HcB.out
          go_wp2_with fail
          refine (QuietT.mono (HXB.out.whole (by omega) (by have := HBt.out.keep (HW1.out.trans (HVB.out.mono HWs.out)); rw [HRV.out] at this; exact this))).mono ?_
          rintro e wC ⟨rfl, hb⟩
          have HSC := Lib.hid (HSB.out.keep hb)
          have HTC := Lib.hid (HTB.out.keep hb)
          have HRC := Lib.hid (HRB.out.keep hb)
          have HBC := Lib.hid (HBB.out.keep hb)
          have HXC := Lib.hid (HXB.out.keep hb)
          have HVC := Lib.hid (via HVB.out hb)
          have ZC := Lib.hid (Nat.le_trans ZB.out hb.size)
          clear hb HSB HTB HRB HBB HXB HVB ZB HcB hc1
          go_wp2_with fail
          refine HXC.out.spoil.mono ?_
          rintro e wD ⟨rfl, ho⟩
          have HSD := Lib.hid (SumS.out HSC.out ho (fun h => by have h1 := Hb'.out _ h; have h2 := Zbk.out; obtain ⟨o1, o2, o3, o4, o5, o6, o7, o8, o9, o10⟩ := Z.out; omega) (fun h => by have h1 := Hb'.out _ h; have h2 := Zbk.out; obtain ⟨o1, o2, o3, o4, o5, o6, o7, o8, o9, o10⟩ := Z.out; omega))
          have HTD := Lib.hid (SumS.out HTC.out ho (fun h => by have h1 := Hb'.out _ h; have h2 := Zbk.out; obtain ⟨o1, o2, o3, o4, o5, o6, o7, o8, o9, o10⟩ := Z.out; omega) (fun h => by have h1 := Hb'.out _ h; have h2 := Zbk.out; obtain ⟨o1, o2, o3, o4, o5, o6, o7, o8, o9, o10⟩ := Z.out; omega))
          have HRD := Lib.hid (HRC.out.out ho (fun h => by have h1 := Hb'.out _ h; have h2 := Zbk.out; obtain ⟨o1, o2, o3, o4, o5, o6, o7, o8, o9, o10⟩ := Z.out; omega) (fun k hk h => by have h1 := Hb'.out _ h; have h2 := Hqlt.out k hk; omega))
          have HBD := Lib.hid (HBC.out.out ho (fun h => by have h1 := Hb'.out _ h; have h2 := Zbk.out; omega) (fun k hk h => by have h1 := Hb'.out _ h; omega) (fun k hk h => by have h1 := Hb'.out _ h; have h2 := (Hql.out k hk).2.1; omega))
          have HVD := Lib.hid (HVC.out.trans (ho.below (B := w1.heap.size) (fun k _ h => by have h1 := Hb'.out _ h; have h2 := Zbk.out; obtain ⟨o1, o2, o3, o4, o5, o6, o7, o8, o9, o10⟩ := Z.out; omega) HVC.out.size))
          have ZD := Lib.hid (Nat.le_trans ZC.out ho.size)
          have HcD := Lib.hid (show wD.cell? ⟨b, o + i, none⟩ = some (.slice ra0 (n i) rc0) from by
            have := (HW1.out.trans (HVD.out.mono HWs.out)).cell (p := ⟨b, o + i, none⟩) (World.block_lt_of_cell? W _ HCell.out)
            rw [this, HCell.out, HRV.out])
          clear ho HSC HTC HRC HBC HXC HVC ZC
          have hc1 := HcD.out
          go_wp2_with fail
          refine (refadd_any _ (n i) (h i) rb L F m q _ HRD.out (by have := HBt.out.keep (HW1.out.trans (HVD.out.mono HWs.out)); rw [HRV.out] at this; exact this) (HLt.out i hlt) HF.out (by omega) (by omega)).mono ?_
          rw [HX2e.out, HF2e.out, HM2e.out]
          rintro e wE ⟨rfl, Q, hr, hq, ho⟩
          have HRE := Lib.hid hr
          have Hq := Lib.hid (show ∀ k, Q = some k → w3.heap.size ≤ k ∧ k ≠ bk from fun k hk => by
            rcases hq k hk with h1 | h1
            · exact Hq0.out k h1
            · have h2 := ZD.out; have h3 := Zbk.out; obtain ⟨o1, o2, o3, o4, o5, o6, o7, o8, o9, o10⟩ := Z.out; omega)
          have Hql2 := Lib.hid (show ∀ k, ql = some k → bk < k ∧ k < wr.heap.size ∧ Q ≠ some k from fun k hk => ⟨(Hql.out k hk).1, (Hql.out k hk).2.1, fun e => by
            rcases hq k e with h1 | h1
            · exact (Hql.out k hk).2.2 h1
            · have h2 := ZD.out; have h3 := (Hql.out k hk).2.1; omega⟩)
          have HSE := Lib.hid (SumS.out HSD.out ho (fun h => by obtain ⟨o1, o2, o3, o4, o5, o6, o7, o8, o9, o10⟩ := Z.out; omega) (fun h => by obtain ⟨o1, o2, o3, o4, o5, o6, o7, o8, o9, o10⟩ := Z.out; omega))
          have HTE := Lib.hid (SumS.out HTD.out ho (fun h => by obtain ⟨o1, o2, o3, o4, o5, o6, o7, o8, o9, o10⟩ := Z.out; omega) (fun h => by obtain ⟨o1, o2, o3, o4, o5, o6, o7, o8, o9, o10⟩ := Z.out; omega))
          have HBE := Lib.hid (HBD.out.out ho (fun h => by obtain ⟨o1, o2, o3, o4, o5, o6, o7, o8, o9, o10⟩ := Z.out; omega) (fun k h1 h => by obtain ⟨o1, o2, o3, o4, o5, o6, o7, o8, o9, o10⟩ := Z.out; omega) (fun k h1 h => by have h2 := (Hql.out k h1).1; obtain ⟨o1, o2, o3, o4, o5, o6, o7, o8, o9, o10⟩ := Z.out; omega))
          have HVE := Lib.hid (HVD.out.trans (ho.below (B := w1.heap.size) (fun k _ h => by obtain ⟨o1, o2, o3, o4, o5, o6, o7, o8, o9, o10⟩ := Z.out; omega) HVD.out.size))
          have ZE := Lib.hid (Nat.le_trans ZD.out ho.size)
          have HcE := Lib.hid (show wE.cell? ⟨b, o + i, none⟩ = some (.slice ra0 (n i) rc0) from by
            have := (HW1.out.trans (HVE.out.mono HWs.out)).cell (p := ⟨b, o + i, none⟩) (World.block_lt_of_cell? W _ HCell.out)
            rw [this, HCell.out, HRV.out])
          clear hr hq ho HSD HTD HRD HBD HVD ZD HcD hc1 Hql Hq0
          have Hql := Lib.hid Hql2.out
          clear Hql2
          have hc1 := HcE.out
          go_wp2_with fail
          refine (add_any _ (n i) (h i) tb tg L F m _ HTE.out (by
            have hbt := HBt.out.keep (HW1.out.trans (HVE.out.mono HWs.out))
            by_cases h0 : 0 < n i
            · have h1 := rowIn2 hbt (HLt.out i hlt) (sb := tb) (g := tg) (fun k hk => by have h1 := HBl.out k hk h0; have h2 := HWs.out; obtain ⟨o1, o2, o3, o4, o5, o6, o7, o8, o9, o10⟩ := Z.out; omega)
              rw [HRV.out] at h1
              exact h1
            · exact ⟨HLt.out i hlt, _, _, rfl, .inl (by omega)⟩) (by omega) (by omega)).mono ?_
          rw [HX2e.out, HF2e.out, HM2e.out]
          rintro e wG ⟨rfl, ht, ho⟩
          have HTG := Lib.hid ht
          have HSG := Lib.hid (SumS.out HSE.out ho (fun h => by obtain ⟨o1, o2, o3, o4, o5, o6, o7, o8, o9, o10⟩ := Z.out; omega) (fun h => by obtain ⟨o1, o2, o3, o4, o5, o6, o7, o8, o9, o10⟩ := Z.out; omega))
          have HRG := Lib.hid (HRE.out.out ho (fun h => by obtain ⟨o1, o2, o3, o4, o5, o6, o7, o8, o9, o10⟩ := Z.out; omega) (fun k hk h => by have h1 := Hq.out k hk; obtain ⟨o1, o2, o3, o4, o5, o6, o7, o8, o9, o10⟩ := Z.out; omega))
          have HBG := Lib.hid (HBE.out.out ho (fun h => by obtain ⟨o1, o2, o3, o4, o5, o6, o7, o8, o9, o10⟩ := Z.out; omega) (fun k h1 h => by obtain ⟨o1, o2, o3, o4, o5, o6, o7, o8, o9, o10⟩ := Z.out; omega) (fun k h1 h => by have h2 := (Hql.out k h1).1; obtain ⟨o1, o2, o3, o4, o5, o6, o7, o8, o9, o10⟩ := Z.out; omega))
          have HVG := Lib.hid (HVE.out.trans (ho.below (B := w1.heap.size) (fun k _ h => by obtain ⟨o1, o2, o3, o4, o5, o6, o7, o8, o9, o10⟩ := Z.out; omega) HVE.out.size))
          have ZG := Lib.hid (Nat.le_trans ZE.out ho.size)
          clear ht ho HSE HTE HRE HBE HVE ZE HcE hc1
          go_wp2_with fail
          refine (value_any sb g L _ _ _ HSG.out (by omega)).mono ?_
          rintro e wX ⟨x, rfl, hown, hb⟩
          have HxX := Lib.hid hown
          have HSX := Lib.hid (HSG.out.keep hb)
          have HTX := Lib.hid (HTG.out.keep hb)
          have HRX := Lib.hid (HRG.out.keep hb)
          have HBX := Lib.hid (HBG.out.keep hb)
          have HVX := Lib.hid (via HVG.out hb)
          have ZX := Lib.hid (show wr.heap.size ≤ wG.heap.size ∧ wG.heap.size ≤ wX.heap.size from ⟨ZG.out, hb.size⟩)
          have HqX := Lib.hid (show ∀ k, Q = some k → k < wX.heap.size from HRX.out.lt.2)
          clear hown hb HSG HTG HRG HBG HVG ZG
          go_wp2_with fail
          refine (value_any tb tg L _ _ _ HTX.out (by omega)).mono ?_
          rintro e wY ⟨y, rfl, hown, hb⟩
          have HyY := Lib.hid hown
          have HxY := Lib.hid (own_keep hb HxX.out)
          have HSY := Lib.hid (HSX.out.keep hb)
          have HTY := Lib.hid (HTX.out.keep hb)
          have HRY := Lib.hid (HRX.out.keep hb)
          have HBY := Lib.hid (HBX.out.keep hb)
          have HVY := Lib.hid (via HVX.out hb)
          have ZY := Lib.hid (show wX.heap.size ≤ wY.heap.size from hb.size)
          have HxS := Lib.hid (show ∀ k, x.ownBlock = some k → wG.heap.size ≤ k ∧ k < wX.heap.size from HxX.out.lt)
          have HyS := Lib.hid (show ∀ k, y.ownBlock = some k → wX.heap.size ≤ k ∧ k < wY.heap.size from HyY.out.lt)
          obtain ⟨xa, xc, rfl, -, -⟩ := own_form HxX.out
          obtain ⟨ya, yc, rfl, -, -⟩ := own_form HyY.out
          clear hown hb HxX HSX HTX HRX HBX HVX
          go_wp2_with fail
          refine (bk_put (G := fun k => ((F2 k : Nat) : Int)) HBY.out HxY.out (by omega) (fun k hk => ⟨?_, fun h => ?_, fun h => ?_⟩) (by omega)).mono ?_
          · have h1 := HxS.out k hk; have h2 := ZX.out; have h3 := Zbk.out; omega
          · have h1 := HxS.out k hk; have h2 := ZX.out; omega
          · have h1 := HxS.out k hk; have h2 := ZX.out; have h3 := (Hql.out k h).2.1; omega
          rintro e wP ⟨rfl, hk, ho⟩
          have hz := ho.size
          have HBP := Lib.hid hk
          have HSP := Lib.hid (SumS.out HSY.out ho (fun h => by obtain ⟨o1, o2, o3, o4, o5, o6, o7, o8, o9, o10⟩ := Z.out; rcases h with h | h; omega; have h1 := (Hql.out _ h).1; omega) (fun h => by obtain ⟨o1, o2, o3, o4, o5, o6, o7, o8, o9, o10⟩ := Z.out; rcases h with h | h; omega; have h1 := (Hql.out _ h).1; omega))
          have HTP := Lib.hid (SumS.out HTY.out ho (fun h => by obtain ⟨o1, o2, o3, o4, o5, o6, o7, o8, o9, o10⟩ := Z.out; rcases h with h | h; omega; have h1 := (Hql.out _ h).1; omega) (fun h => by obtain ⟨o1, o2, o3, o4, o5, o6, o7, o8, o9, o10⟩ := Z.out; rcases h with h | h; omega; have h1 := (Hql.out _ h).1; omega))
          have HRP := Lib.hid (HRY.out.out ho (fun h => by obtain ⟨o1, o2, o3, o4, o5, o6, o7, o8, o9, o10⟩ := Z.out; rcases h with h | h; omega; have h1 := (Hql.out _ h).1; omega) (fun k hk h => by rcases h with h | h; exact (Hq.out k hk).2 h; exact (Hql.out k h).2.2 hk))
          have HxP := Lib.hid (ho.own HxY.out (fun k hk h => by have h1 := HxS.out k hk; have h2 := ZX.out; have h3 := Zbk.out; rcases h with h | h; omega; have h4 := (Hql.out k h).2.1; omega))
          have HyP := Lib.hid (ho.own HyY.out (fun k hk h => by have h1 := HyS.out k hk; have h2 := ZX.out; have h3 := Zbk.out; rcases h with h | h; omega; have h4 := (Hql.out k h).2.1; omega))
          have HVP := Lib.hid (HVY.out.trans (ho.below (B := w1.heap.size) (fun k _ h => by obtain ⟨o1, o2, o3, o4, o5, o6, o7, o8, o9, o10⟩ := Z.out; rcases h with h | h; omega; have h4 := (Hql.out k h).1; omega) HVY.out.size))
          have ZP := Lib.hid hz
          clear hk ho hz HSY HTY HRY HBY HVY HxY HyY
          go_wp2_with fail
          refine (bk_put (G := fun k => ((F2 k : Nat) : Int)) HBP.out HyP.out (by omega) (fun k hk => ⟨?_, fun h => ?_, fun h => ?_⟩) (by omega)).mono ?_
          · have h1 := HyS.out k hk; have h2 := ZX.out; have h3 := Zbk.out; omega
          · have h1 := HyS.out k hk; have h2 := ZX.out
            rcases h with h | h
            · omega
            · have h3 := HxS.out k h; omega
          · have h1 := HyS.out k hk; have h2 := ZX.out
            rcases h with h | h
            · have h3 := (Hql.out k h).2.1; omega
            · omega
          rintro e wI ⟨rfl, hk, ho⟩
          have hz := ho.size
          have HQ1 := Lib.hid (show ∀ k, (k = bk ∨ (ql = some k ∨ wY.heap.size ≤ k)) → bk ≤ k ∧ (k < wr.heap.size → k ≠ bk → ql = some k) ∧ (wr.heap.size ≤ k → wY.heap.size ≤ k) from fun k h => by
            have h3 := Zbk.out; have h2 := ZX.out; have h4 := ZY.out
            rcases h with h | h | h
            · omega
            · have h1 := Hql.out k h; exact ⟨by omega, fun _ _ => h, fun h5 => by omega⟩
            · exact ⟨by omega, fun h5 => by omega, fun _ => h⟩)
          have HBI := Lib.hid hk
          have HSI := Lib.hid (SumS.out HSP.out ho (fun h => by obtain ⟨o1, o2, o3, o4, o5, o6, o7, o8, o9, o10⟩ := Z.out; have h1 := (HQ1.out _ h).1; omega) (fun h => by obtain ⟨o1, o2, o3, o4, o5, o6, o7, o8, o9, o10⟩ := Z.out; have h1 := (HQ1.out _ h).1; omega))
          have HTI := Lib.hid (SumS.out HTP.out ho (fun h => by obtain ⟨o1, o2, o3, o4, o5, o6, o7, o8, o9, o10⟩ := Z.out; have h1 := (HQ1.out _ h).1; omega) (fun h => by obtain ⟨o1, o2, o3, o4, o5, o6, o7, o8, o9, o10⟩ := Z.out; have h1 := (HQ1.out _ h).1; omega))
          have HRI := Lib.hid (HRP.out.out ho (fun h => by obtain ⟨o1, o2, o3, o4, o5, o6, o7, o8, o9, o10⟩ := Z.out; have h1 := (HQ1.out _ h).1; omega) (fun k hk h => by
            rcases h with h | h | h
            · exact (Hq.out k hk).2 h
            · exact (Hql.out k h).2.2 hk
            · have h1 := HqX.out k hk; have h2 := ZY.out; omega))
          have HxI := Lib.hid (ho.own HxP.out (fun k hk h => by
            have h1 := HxS.out k hk; have h2 := ZX.out; have h3 := Zbk.out; have h5 := ZY.out
            rcases h with h | h | h
            · omega
            · have h4 := (Hql.out k h).2.1; omega
            · omega))
          have HyI := Lib.hid (ho.own HyP.out (fun k hk h => by
            have h1 := HyS.out k hk; have h2 := ZX.out; have h3 := Zbk.out; have h5 := ZY.out
            rcases h with h | h | h
            · omega
            · have h4 := (Hql.out k h).2.1; omega
            · omega))
          have HVI := Lib.hid (HVP.out.trans (ho.below (B := w1.heap.size) (fun k _ h => by obtain ⟨o1, o2, o3, o4, o5, o6, o7, o8, o9, o10⟩ := Z.out; have h1 := (HQ1.out _ h).1; omega) HVP.out.size))
          have ZI := Lib.hid (show wY.heap.size ≤ wI.heap.size from by have h1 := ZP.out; omega)
          clear hk ho hz HSP HTP HRP HBP HVP HxP HyP HQ1
          obtain ⟨ra, rc, k0, k1, hbr⟩ := HRI.out.cells
          have HBr := Lib.hid hbr
          have HQx := Lib.hid (show ∀ c, Calls Try.prog 22 #[.slice xa L xc, .slice ra L rc] (wI.drewN c) (fun e w'' => e = .returned (.bool true) ∧ ∃ m, w'' = (wI.drewN c).drewN m) from fun c => sameQ (by omega) ((ownBts HxI.out).keep (bdn (Below.refl _ _) c)) (HBr.out.keep (bdn (Below.refl _ _) c)))
          have HQy := Lib.hid (show ∀ c, Calls Try.prog 22 #[.slice ya L yc, .slice ra L rc] (wI.drewN c) (fun e w'' => e = .returned (.bool true) ∧ ∃ m, w'' = (wI.drewN c).drewN m) from fun c => sameQ (by omega) ((ownBts HyI.out).keep (bdn (Below.refl _ _) c)) (HBr.out.keep (bdn (Below.refl _ _) c)))
          have HQs := Lib.hid (fun c => count_any sb g L F2 M2 (wI.drewN c) (HSI.out.keep (bdn (Below.refl _ _) c)))
          have HQt := Lib.hid (fun c => count_any tb tg L F2 M2 (wI.drewN c) (HTI.out.keep (bdn (Below.refl _ _) c)))
          have HQn := Lib.hid (fun c => noughtQ sb g L F2 M2 (wI.drewN c) (HSI.out.keep (bdn (Below.refl _ _) c)) (by omega))
          have HQr := Lib.hid (fun c => refnoughtQ _ L F2 (wI.drewN c) (HBr.out.keep (bdn (Below.refl _ _) c)) (by omega))
          clear hbr
          go_wp2
          go_quiet ((first | (go_at_call 22; with_reducible exact Calls.quiet_of (HQx.out _)) | (go_at_call 22; with_reducible exact Calls.quiet_of (HQy.out _)) | (go_at_call 38; with_reducible exact Calls.quiet_of_same (HQs.out _)) | (go_at_call 38; with_reducible exact Calls.quiet_of_same (HQt.out _)) | (go_at_call 39; with_reducible exact Calls.quiet_of_same (HQn.out _)) | (go_at_call 40; with_reducible exact Calls.quiet_of_same (HQr.out _))))
          clear HQx HQy HQs HQt HQn HQr k0 k1
          have hb : Below wI.heap.size wI (wI.drewN nq) := bdn (Below.refl _ _) _
          have HBf := Lib.hid ((HBI.out.keep hb).mono (P' := fun k => bk < k ∧ k < (wI.drewN nq).heap.size) (Q' := fun k => ql = some k ∨ wY.heap.size ≤ k) (fun k hlt h => by
            have h2 := ZX.out; have h3 := Zbk.out
            rcases h with (h | h) | h
            · exact ⟨h.1, hlt⟩
            · have h4 := HxS.out k h; exact ⟨by omega, hlt⟩
            · have h4 := HyS.out k h; exact ⟨by omega, hlt⟩) (fun k hlt h => by
            have h4 := ZP.out
            rcases h with (h | h) | h
            · exact .inl h
            · exact .inr h
            · exact .inr (by omega)))
          obtain ⟨ql3, hb3, hq3⟩ := Bk.exact HBf.out
          have hrel : AddRel w1 w3 (wI.drewN nq) N sb g tb tg rb bk L (i + 1) F2 M2 Q ql3 :=
            ⟨HF2.out, HSI.out.keep hb, HTI.out.keep hb, HRI.out.keep hb, hb3, fun k hk => by
              obtain ⟨h1, h2⟩ := hq3 k hk
              have h3 := Zbk.out; have h4 := ZX.out; have h5 := ZY.out
              rcases h1 with h1 | h1
              · have h6 := Hql.out k h1; exact ⟨h6.1, h2, h6.2.2⟩
              · exact ⟨by omega, h2, fun e => by have h6 := HqX.out k e; omega⟩, Hq.out, via HVI.out hb, by have h3 := Zbk.out; have h4 := ZX.out; have h5 := ZY.out; have h6 := ZI.out; show bk < wI.heap.size; omega⟩
          have HRel := Lib.hid hrel
          clear hrel hb hb3 hq3 HBf HSI HTI HRI HBI HVI HxI HyI
          go_wp2
          go_roundw
          case rel => exact ⟨i + 1, F2, M2, Q, ql3, by omega, by go_num, hM3, HRel.out⟩
          case measure => simp [intOf]; omega
        · obtain rfl : i = N := by omega
          obtain ⟨F2, rfl⟩ : ∃ F2, F2 = F := ⟨_, rfl⟩
          obtain ⟨M2, rfl⟩ : ∃ M2, M2 = m := ⟨_, rfl⟩
          obtain ⟨Q, rfl⟩ : ∃ Q, Q = q := ⟨_, rfl⟩
          have Hq := Lib.hid Hq0.out
          have HBq := Lib.hid HBr'.out
          have Zr := Lib.hid (Nat.le_refl wr.heap.size)
          clear Hq0 HBr'
          have HBr := Lib.hid HBq.out
          clear HBq
          go_wp2_with fail
          refine (value_any sb g L _ _ _ HSr.out (by omega)).mono ?_
          rintro e wX ⟨x, rfl, hown, hb⟩
          have HxX := Lib.hid hown
          have HSX := Lib.hid (HSr.out.keep hb)
          have HTX := Lib.hid (HTr.out.keep hb)
          have HRX := Lib.hid (HRr.out.keep hb)
          have HBX := Lib.hid (HBr.out.keep hb)
          have HVX := Lib.hid (via HVr.out hb)
          have ZX := Lib.hid (show wr.heap.size ≤ wr.heap.size ∧ wr.heap.size ≤ wX.heap.size from ⟨Zr.out, hb.size⟩)
          have HqX := Lib.hid (show ∀ k, Q = some k → k < wX.heap.size from HRX.out.lt.2)
          clear hown hb HSr HTr HRr HBr HVr Zr
          go_wp2_with fail
          refine (value_any sb g L _ _ _ HSX.out (by omega)).mono ?_
          rintro e wY ⟨y, rfl, hown, hb⟩
          have HyY := Lib.hid hown
          have HxY := Lib.hid (own_keep hb HxX.out)
          have HSY := Lib.hid (HSX.out.keep hb)
          have HTY := Lib.hid (HTX.out.keep hb)
          have HRY := Lib.hid (HRX.out.keep hb)
          have HBY := Lib.hid (HBX.out.keep hb)
          have HVY := Lib.hid (via HVX.out hb)
          have ZY := Lib.hid (show wX.heap.size ≤ wY.heap.size from hb.size)
          have HxS := Lib.hid (show ∀ k, x.ownBlock = some k → wr.heap.size ≤ k ∧ k < wX.heap.size from HxX.out.lt)
          have HyS := Lib.hid (show ∀ k, y.ownBlock = some k → wX.heap.size ≤ k ∧ k < wY.heap.size from HyY.out.lt)
          obtain ⟨xa, xc, rfl, -, -⟩ := own_form HxX.out
          obtain ⟨ya, yc, rfl, -, -⟩ := own_form HyY.out
          clear hown hb HxX HSX HTX HRX HBX HVX
          go_wp2_with fail
          refine (bk_put (G := fun k => ((F2 k : Nat) : Int)) HBY.out HxY.out (by omega) (fun k hk => ⟨?_, fun h => ?_, fun h => ?_⟩) (by omega)).mono ?_
          · have h1 := HxS.out k hk; have h2 := ZX.out; have h3 := Zbk.out; omega
          · have h1 := HxS.out k hk; have h2 := ZX.out; omega
          · have h1 := HxS.out k hk; have h2 := ZX.out; have h3 := (Hql.out k h).2.1; omega
          rintro e wP ⟨rfl, hk, ho⟩
          have hz := ho.size
          have HBP := Lib.hid hk
          have HSP := Lib.hid (SumS.out HSY.out ho (fun h => by obtain ⟨o1, o2, o3, o4, o5, o6, o7, o8, o9, o10⟩ := Z.out; rcases h with h | h; omega; have h1 := (Hql.out _ h).1; omega) (fun h => by obtain ⟨o1, o2, o3, o4, o5, o6, o7, o8, o9, o10⟩ := Z.out; rcases h with h | h; omega; have h1 := (Hql.out _ h).1; omega))
          have HTP := Lib.hid (SumS.out HTY.out ho (fun h => by obtain ⟨o1, o2, o3, o4, o5, o6, o7, o8, o9, o10⟩ := Z.out; rcases h with h | h; omega; have h1 := (Hql.out _ h).1; omega) (fun h => by obtain ⟨o1, o2, o3, o4, o5, o6, o7, o8, o9, o10⟩ := Z.out; rcases h with h | h; omega; have h1 := (Hql.out _ h).1; omega))
          have HRP := Lib.hid (HRY.out.out ho (fun h => by obtain ⟨o1, o2, o3, o4, o5, o6, o7, o8, o9, o10⟩ := Z.out; rcases h with h | h; omega; have h1 := (Hql.out _ h).1; omega) (fun k hk h => by rcases h with h | h; exact (Hq.out k hk).2 h; exact (Hql.out k h).2.2 hk))
          have HxP := Lib.hid (ho.own HxY.out (fun k hk h => by have h1 := HxS.out k hk; have h2 := ZX.out; have h3 := Zbk.out; rcases h with h | h; omega; have h4 := (Hql.out k h).2.1; omega))
          have HyP := Lib.hid (ho.own HyY.out (fun k hk h => by have h1 := HyS.out k hk; have h2 := ZX.out; have h3 := Zbk.out; rcases h with h | h; omega; have h4 := (Hql.out k h).2.1; omega))
          have HVP := Lib.hid (HVY.out.trans (ho.below (B := w1.heap.size) (fun k _ h => by obtain ⟨o1, o2, o3, o4, o5, o6, o7, o8, o9, o10⟩ := Z.out; rcases h with h | h; omega; have h4 := (Hql.out k h).1; omega) HVY.out.size))
          have ZP := Lib.hid hz
          clear hk ho hz HSY HTY HRY HBY HVY HxY HyY
          go_wp2_with fail
          refine (bk_put (G := fun k => ((F2 k : Nat) : Int)) HBP.out HyP.out (by omega) (fun k hk => ⟨?_, fun h => ?_, fun h => ?_⟩) (by omega)).mono ?_
          · have h1 := HyS.out k hk; have h2 := ZX.out; have h3 := Zbk.out; omega
          · have h1 := HyS.out k hk; have h2 := ZX.out
            rcases h with h | h
            · omega
            · have h3 := HxS.out k h; omega
          · have h1 := HyS.out k hk; have h2 := ZX.out
            rcases h with h | h
            · have h3 := (Hql.out k h).2.1; omega
            · omega
          rintro e wI ⟨rfl, hk, ho⟩
          have hz := ho.size
          have HQ1 := Lib.hid (show ∀ k, (k = bk ∨ (ql = some k ∨ wY.heap.size ≤ k)) → bk ≤ k ∧ (k < wr.heap.size → k ≠ bk → ql = some k) ∧ (wr.heap.size ≤ k → wY.heap.size ≤ k) from fun k h => by
            have h3 := Zbk.out; have h2 := ZX.out; have h4 := ZY.out
            rcases h with h | h | h
            · omega
            · have h1 := Hql.out k h; exact ⟨by omega, fun _ _ => h, fun h5 => by omega⟩
            · exact ⟨by omega, fun h5 => by omega, fun _ => h⟩)
          have HBI := Lib.hid hk
          have HSI := Lib.hid (SumS.out HSP.out ho (fun h => by obtain ⟨o1, o2, o3, o4, o5, o6, o7, o8, o9, o10⟩ := Z.out; have h1 := (HQ1.out _ h).1; omega) (fun h => by obtain ⟨o1, o2, o3, o4, o5, o6, o7, o8, o9, o10⟩ := Z.out; have h1 := (HQ1.out _ h).1; omega))
          have HTI := Lib.hid (SumS.out HTP.out ho (fun h => by obtain ⟨o1, o2, o3, o4, o5, o6, o7, o8, o9, o10⟩ := Z.out; have h1 := (HQ1.out _ h).1; omega) (fun h => by obtain ⟨o1, o2, o3, o4, o5, o6, o7, o8, o9, o10⟩ := Z.out; have h1 := (HQ1.out _ h).1; omega))
          have HRI := Lib.hid (HRP.out.out ho (fun h => by obtain ⟨o1, o2, o3, o4, o5, o6, o7, o8, o9, o10⟩ := Z.out; have h1 := (HQ1.out _ h).1; omega) (fun k hk h => by
            rcases h with h | h | h
            · exact (Hq.out k hk).2 h
            · exact (Hql.out k h).2.2 hk
            · have h1 := HqX.out k hk; have h2 := ZY.out; omega))
          have HxI := Lib.hid (ho.own HxP.out (fun k hk h => by
            have h1 := HxS.out k hk; have h2 := ZX.out; have h3 := Zbk.out; have h5 := ZY.out
            rcases h with h | h | h
            · omega
            · have h4 := (Hql.out k h).2.1; omega
            · omega))
          have HyI := Lib.hid (ho.own HyP.out (fun k hk h => by
            have h1 := HyS.out k hk; have h2 := ZX.out; have h3 := Zbk.out; have h5 := ZY.out
            rcases h with h | h | h
            · omega
            · have h4 := (Hql.out k h).2.1; omega
            · omega))
          have HVI := Lib.hid (HVP.out.trans (ho.below (B := w1.heap.size) (fun k _ h => by obtain ⟨o1, o2, o3, o4, o5, o6, o7, o8, o9, o10⟩ := Z.out; have h1 := (HQ1.out _ h).1; omega) HVP.out.size))
          have ZI := Lib.hid (show wY.heap.size ≤ wI.heap.size from by have h1 := ZP.out; omega)
          clear hk ho hz HSP HTP HRP HBP HVP HxP HyP HQ1
          obtain ⟨ra, rc, k0, k1, hbr⟩ := HRI.out.cells
          have HBr := Lib.hid hbr
          have HQx := Lib.hid (show ∀ c, Calls Try.prog 22 #[.slice xa L xc, .slice ra L rc] (wI.drewN c) (fun e w'' => e = .returned (.bool true) ∧ ∃ m, w'' = (wI.drewN c).drewN m) from fun c => sameQ (by omega) ((ownBts HxI.out).keep (bdn (Below.refl _ _) c)) (HBr.out.keep (bdn (Below.refl _ _) c)))
          have HQy := Lib.hid (show ∀ c, Calls Try.prog 22 #[.slice ya L yc, .slice ra L rc] (wI.drewN c) (fun e w'' => e = .returned (.bool true) ∧ ∃ m, w'' = (wI.drewN c).drewN m) from fun c => sameQ (by omega) ((ownBts HyI.out).keep (bdn (Below.refl _ _) c)) (HBr.out.keep (bdn (Below.refl _ _) c)))
          have HQs := Lib.hid (fun c => count_any sb g L F2 M2 (wI.drewN c) (HSI.out.keep (bdn (Below.refl _ _) c)))
          have HQt := Lib.hid (fun c => count_any tb tg L F2 M2 (wI.drewN c) (HTI.out.keep (bdn (Below.refl _ _) c)))
          have HQn := Lib.hid (fun c => noughtQ sb g L F2 M2 (wI.drewN c) (HSI.out.keep (bdn (Below.refl _ _) c)) (by omega))
          have HQr := Lib.hid (fun c => refnoughtQ _ L F2 (wI.drewN c) (HBr.out.keep (bdn (Below.refl _ _) c)) (by omega))
          clear hbr
          go_wp2
          go_quiet ((first | (go_at_call 22; with_reducible exact Calls.quiet_of (HQx.out _)) | (go_at_call 22; with_reducible exact Calls.quiet_of (HQy.out _)) | (go_at_call 38; with_reducible exact Calls.quiet_of_same (HQs.out _)) | (go_at_call 38; with_reducible exact Calls.quiet_of_same (HQt.out _)) | (go_at_call 39; with_reducible exact Calls.quiet_of_same (HQn.out _)) | (go_at_call 40; with_reducible exact Calls.quiet_of_same (HQr.out _))))
          clear HQx HQy HQs HQt HQn HQr k0 k1
          have hb : Below wI.heap.size wI (wI.drewN nq) := bdn (Below.refl _ _) _
          have HBf := Lib.hid ((HBI.out.keep hb).mono (P' := fun k => bk < k ∧ k < (wI.drewN nq).heap.size) (Q' := fun k => ql = some k ∨ wY.heap.size ≤ k) (fun k hlt h => by
            have h2 := ZX.out; have h3 := Zbk.out
            rcases h with (h | h) | h
            · exact ⟨h.1, hlt⟩
            · have h4 := HxS.out k h; exact ⟨by omega, hlt⟩
            · have h4 := HyS.out k h; exact ⟨by omega, hlt⟩) (fun k hlt h => by
            have h4 := ZP.out
            rcases h with (h | h) | h
            · exact .inl h
            · exact .inr h
            · exact .inr (by omega)))
          have HVf := Lib.hid (via HVI.out hb)
          clear hb HSI HTI HRI HBI HVI HxI HyI
          go_wp2_with fail
          refine (bk_own HBf.out (by omega)).mono ?_
          rintro e wO ⟨rfl, ho⟩
          have HZ := Lib.hid (HW1.out.trans ((HVf.out.trans (ho.below (B := w1.heap.size) (fun k _ h => by obtain ⟨o1, o2, o3, o4, o5, o6, o7, o8, o9, o10⟩ := Z.out; omega) HVf.out.size)).mono HW1.out.size))
          clear ho HBf HVf
          go_wp2
          go_ret
          exact ⟨rfl, HZ.out⟩
  · clear HBl
    cases bl with
    | true =>
      go_wp2
      go_ret
      exact ⟨rfl, HW1.out⟩
    | false =>
      have hbig : (1000 : Int) < N := by
        have : ¬ N ≤ 1000 := fun h => hgo ⟨rfl, h⟩
        omega
      clear hgo
      go_wp2
      go_ret
      exact ⟨rfl, HW1.out⟩
theorem kinds11 : ∀ t ∈ Try.f11.params.toList, Try.prog.readableRec t = true ∧ t < Try.prog.types.size := by
  rw [Try.params11]
  intro t ht
  simp only [List.mem_cons, List.not_mem_nil, or_false] at ht
  rcases ht with rfl | rfl
  all_goals exact ⟨by kernel_rfl, of_decide_eq_true (by kernel_rfl)⟩
set_option maxRecDepth 100000 in
theorem lifted (os : Os) (started : os.Started) (H : Type) (enc : TypeId × Value → H) :
    ReturnsInHanded {} Try.checked os 11 .any (Rows.xorAddsSpec.pre6 enc Try.prog Try.f11 Rows.xorAddsRow.domain false) (Rows.xorAddsSpec.post enc Try.prog Try.f11 false true false false) := by
  refine returnsInHanded_of_change_sized (C := Try.checked) own started (by kernel_rfl) Try.func11
    (ChangeSpec.witness6 (enc := enc) (C := Try.checked) false ⟨#[], #[.int .i64 0, .slice none 0 0], []⟩ 8 (by kernel_rfl) (by kernel_rfl) (by kernel_rfl) (by kernel_rfl)) ?_
  intro W base args ds gs before hval0 hW hcnd hsz0 _
  have hval : ∀ (j : Nat) t v, Try.f11.params[j]? = some t → args[j]? = some v → Value.okWide Try.prog W .any base t v := hval0
  have hW' := hW
  obtain ⟨p, q, hA0, hV, rfl, hfz, hnd⟩ := hW
  have hA : DataW.TrodAll enc Try.prog W 0 (fun _ => true) true Try.f11.params.toList args.toList ds p := hA0
  have hA1 := hA
  have hsz : (DataW.weightsEach Try.prog (Try.f11.params.toList ++ []) (ds ++ gs)).all (· ≤ reachBytes) = true := hsz0
  rw [Try.params11] at hA hval hsz
  obtain ⟨v0, vs0, d0, ds0, p0, q0, hargs, rfl, rfl, h0, r0⟩ := trodAll_cons hA
  obtain ⟨v1, vs1, d1, ds1, p1, q1, rfl, rfl, rfl, h1, r1⟩ := trodAll_cons r0
  obtain ⟨rfl, rfl, rfl⟩ := trodAll_nil r1
  obtain rfl : args = #[v0, v1] := by cases args; simp_all
  obtain ⟨rfl, rfl⟩ := trodVars_none hV
  obtain ⟨a0, rfl, rfl, rfl, w0⟩ := open_int Try.underlying3 (hval 0 3 v0 rfl rfl) h0
  obtain ⟨N1, rv1, n1, f1, c1, e1⟩ := open_mat (hval 1 22 v1 rfl rfl) h1
  have b1 := bndM hsz (j := 1) rfl rfl e1
  clear hval0 hsz0
  refine (walk a0 v1 N1 rv1 n1 f1 W c1 b1.1 b1.2).mono fun e W' ⟨he, bel⟩ => ?_
  subst he
  exact ⟨_, rfl, _, _, _, [], _, [], hW', trodAll_mk1 (shut_bool Try.underlying4 _), carryAll laidOut bel _ _ _ _ kinds11 hA1 (fun x hx => hW'.lt x (List.mem_append.2 (.inl hx))), rfl, bel.frame _, fun h => by cases h⟩
theorem proved : Rows.XorAddsSaid :=
  OpenClaim.holds_of_wide 11 Try.f11 rfl rfl rfl rfl rfl rfl rfl ⟨rfl, rfl, rfl, rfl, rfl⟩ rfl rfl rfl rfl rfl (by kernel_rfl) Try.func11 (by kernel_rfl)
    (of_decide_eq_true (by kernel_rfl)) (by unfold Func.isWrapper; first | (rw [if_pos (by decide +kernel)]; kernel_rfl) | (rw [if_neg (by decide +kernel)]; exact ⟨rfl, rfl⟩))
    (fun os started H enc _ => lifted os started H enc)
#print axioms proved
end Go.Proofs.Ytnjcnnjdogdbdaa.Adds
