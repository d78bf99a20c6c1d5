/- known: of a model that is there. Conditions: none. -/
import Derived.Test.YtgkkmdebpekckaaMq
namespace Go.Proofs.Ytgkkmdebpekckaa
open Go.RowKit
/-- One row's bytes: nought, but for the fourth: seven. -/
def aF (k : Nat) : Nat := if k = 3 then 7 else 0
def kA : Ar := ⟨1, fun _ => 0, fun _ => 128, fun _ => aF⟩
theorem kA_chk : kA.chk 2 = 0 := by decide
theorem kA_lt : kA.lt := by
  intro i _ k _
  show aF k < 256
  unfold aF
  split <;> omega
def kS : St := (St.start fun _ => 0).wr 2 kA
theorem kS_eq : kS = (St.start fun _ => 0).write kA.bt := by
  unfold kS St.wr
  exact if_pos ⟨kA_chk, by decide⟩
theorem kS_now (p : Nat) : kS.now p = aF p := by
  rw [kS_eq]
  show layN (fun _ => 0) (fun _ => 0) (fun _ => aF) 1 p = aF p
  simp only [layN, aF]
  split
  · simp
  · split <;> omega
theorem kS_L : kS.L = 1 := by rw [kS_eq]; rfl
theorem kS_many : kS.many = 0 := by rw [kS_eq]; rfl
theorem kS_way : kS.way.N = 0 := by rw [kS_eq]; rfl
theorem kS_M : kS.M = 1 := by simp [St.M, kS_L, kS_way]
theorem kS_f0 : fate kS.sure kS.all 0 = fun _ => 0 := by rw [kS_eq]; rfl
theorem kS_f1 (p : Nat) : fate kS.sure kS.all 1 p = aF p := by
  rw [← kS_now p, kS_eq]
  rfl
theorem kS_ok : kS.ok 2 := by
  have h : Lt (128 * 2) (fun _ => 0) := fun _ _ => by show 0 < 256; omega
  have hb : kA.bt.ok 2 := (Ar.taken_of kA_chk).ok kA_lt
  rw [kS_eq]
  refine ⟨h, layN_lt h _ _ _ hb.f, fun k hk => ?_, noBt_ok 2, fun _ _ => rfl⟩
  have : k = 0 := by have : k < 0 + 1 := hk; omega
  subst this
  exact hb
theorem kS_could : kS.could 2 256 aF := ⟨1, by rw [kS_M]; omega, eqB_true fun k _ => kS_f1 k⟩
theorem kS_could0 : kS.could 2 256 (fun _ => 0) := ⟨0, by rw [kS_M]; omega, by rw [kS_f0]; exact eqB_true fun _ _ => rfl⟩
theorem kS_not (f : Nat → Nat) : ¬ kS.could 2 255 f := by
  rintro ⟨j, _, h⟩
  simp [eqB] at h
theorem own_makeB (w : World) (N : Nat) (hN : N ≤ 281474976710656) : (Instr.makeSlice 25 (.int .i64 (N : Int)) (.int .i64 (N : Int))).run Try.prog w = .ok (.slice (some ⟨w.heap.size, 0, none⟩) N N) (w.alloc (.cells (arrB N (fun _ => 0)) 5)) := by
  obtain ⟨i0, hi, hz0, hz1, hz2⟩ := info_parts Try.info5
  have := run_make (P := Try.prog) w 25 5 i0 (.int .u8 0) Try.underlying25 hi hz0 .i64 .i64 N N (by omega) (by omega) (by rw [hz2]; omega) (by omega)
  rw [this, hz1, Nat.mul_one, ← made_zero N]
  simp
set_option maxRecDepth 100000 in
set_option maxHeartbeats 1000000 in
theorem known_true (w : World) : Calls Try.prog 9 #[] w fun e w' => e = .returned (.bool true) ∧ Below w.heap.size w w' := by
  have hmk : ∀ w, (Instr.makeSlice 25 (.int .i64 256) (.int .i64 256)).run Try.prog w = .ok (.slice (some ⟨w.heap.size, 0, none⟩) 256 256) (w.alloc (.cells (arrB 256 (fun _ => 0)) 5)) := fun w => own_makeB w 256 (by omega)
  go_enter Try.func9, Try.ntmps9
  go_wp2_with fail
  refine (new_ok 2 _ (by omega) (by omega)).mono ?_
  rintro e w1 ⟨m, Z, rfl, hM, hZ, hb⟩
  have HM := Lib.hid hM
  have HZ := Lib.hid hZ
  have HB := Lib.hid hb
  clear hM hZ hb
  go_wp2_with fail
  obtain ⟨W, hW⟩ : ∃ W, (w1.alloc (.cells ((arrB 256 fun _ => 0).setIfInBounds 3 (.int .u8 7)) 5)).alloc (.cells #[.int .i64 0, .slice (some ⟨w1.heap.size, 0, none⟩) 128 256] 47) = W := ⟨_, rfl⟩
  have hbW : Below w1.heap.size w1 W := by rw [← hW]; exact bal (bal (Below.refl _ _) _) _
  have hg : W.heap[w1.heap.size]? = some (.cells (arrB 256 aF) 5 (0, 0)) := by
    have e : (arrB 256 fun _ => 0).setIfInBounds 3 (.int .u8 7) = arrB 256 aF := by
      have := arrB_set 256 (fun _ => 0) 3 7
      rw [show ((7 : Nat) : Int) = 7 from rfl] at this
      rw [this]
      rfl
    rw [← hW, e]; exact hn1 _ _ _
  have hp : W.heap[w1.heap.size + 1]? = some (.cells #[.int .i64 0, .slice (some ⟨w1.heap.size, 0, none⟩) 128 256] 47 (0, 0)) := by rw [← hW]; exact hn2 _ _ _
  have hMW := HM.out.keep hbW
  have hzz := HM.out.lt
  have hbts : ∀ k, k < 256 → W.cell? ⟨w1.heap.size, 0 + k, none⟩ = some (.int .u8 (aF k)) := fun k hk => by rw [Nat.zero_add, (cr hg).1 k, arrB_get _ _ _ hk]
  have hAr : ArX Z W (.slice (some ⟨w1.heap.size + 1, 0, none⟩) 1 1) kA := by
    refine ⟨fun _ => .slice (some ⟨w1.heap.size, 0, none⟩) 128 256, ⟨_, _, rfl, .inr ⟨_, 0, rfl, fun h => ?_, fun i hi => ?_⟩⟩, fun i hi => ⟨_, _, rfl, .inr ⟨_, 0, rfl, fun h => ?_, fun k hk => hbts k (by have : k < 128 := hk; omega)⟩⟩⟩
    · have := hzz _ h; omega
    · have : i = 0 := by have : i < 1 := hi; omega
      subst this
      exact ⟨by rw [(cr hp).1]; rfl, by rw [(cr hp).1]; rfl⟩
    · have := hzz _ h; omega
  have HWr := Lib.hid (write_any Z m 2 _ kA _ W hMW (by omega) (Nat.zero_le _) hAr)
  have HRow : Hid (BtsX Z W (.slice (some ⟨w1.heap.size, 0, none⟩) 256 256) 256 aF) := ⟨_, _, rfl, .inr ⟨_, 0, rfl, fun h => by have := hzz _ h; omega, hbts⟩⟩
  have HBW := Lib.hid (HB.out.trans (hbW.mono HB.out.size))
  have HWz := Lib.hid (show w1.heap.size < W.heap.size from (cr hg).2.2)
  rw [hW]
  have HS1 := Lib.hid HB.out.size
  clear hW hbW hg hp hMW hzz hbts hAr
  refine HWr.out.mono ?_
  clear HWr
  rintro e w2 ⟨rfl, Z2, hM2, hO2, hZ2⟩
  rw [kA_chk]
  have HM2 : Hid (MdlAt Z2 w2 m 2 kS) := hM2
  have HRow2 : Hid (BtsX Z w2 (.slice (some ⟨w1.heap.size, 0, none⟩) 256 256) 256 aF) := HRow.out.out hO2 (fun _ _ h => h)
  have HB2 : Hid (Below w.heap.size w w2) := HBW.out.trans (hO2.below (B := w.heap.size) (fun k _ h => HZ.out k h) HBW.out.size)
  clear hM2 hO2 hZ2 HM HRow HBW
  go_wp2_with fail
  refine (read_ok Z2 m 2 kS 0 2 w2 HM2.out (by omega) (by omega)).mono ?_
  rintro e w3 ⟨v3, rfl, ho3, hb3⟩
  obtain ⟨a3, c3, rfl, -⟩ := own_formN ho3
  have HB3 := Lib.hid (HB2.out.trans (hb3.mono HB2.out.size))
  have HM3 := Lib.hid (HM2.out.keep hb3)
  have HRow3 : Hid (Bts w3 (.slice (some ⟨w1.heap.size, 0, none⟩) 256 256) 256 aF) := HRow2.out.bts.keep hb3
  have HN3 := Lib.hid (own_bts ho3)
  clear ho3 hb3 HM2 HRow2 HB2
  go_wp2_with fail
  refine (same_V _ _ 256 256 aF _ w3 HRow3.out HN3.out (by omega)).mono ?_
  rintro e w4 ⟨rfl, hb⟩
  rw [eqB_true (fun k hk => by show aF k = kS.now (128 * 0 + k); rw [kS_now, Nat.mul_zero, Nat.zero_add])]
  have HB4 := Lib.hid (HB3.out.trans (hb.mono HB3.out.size))
  have HM4 := Lib.hid (HM3.out.keep hb)
  have HRow4 := Lib.hid (HRow3.out.keep hb)
  clear hb HM3 HRow3 HB3 HN3
  go_wp2_with fail
  refine (could_at Z2 m 2 kS _ 256 256 aF w4 HM4.out kS_ok (by omega) (by omega) (by rw [kS_L]; omega) HRow4.out (fun k _ => by show aF k < 256; unfold aF; split <;> omega) true (by simp [kS_could])).mono ?_
  rintro e w5 ⟨rfl, hb⟩
  have HB5 := Lib.hid (HB4.out.trans (hb.mono HB4.out.size))
  have HM5 := Lib.hid (HM4.out.keep hb)
  have HRow5 := Lib.hid (HRow4.out.keep hb)
  clear hb HM4 HRow4 HB4
  go_wp2_with fail
  have hb5 : Below w5.heap.size w5 (w5.alloc (.cells (arrB 256 fun _ => 0) 5)) := bal (Below.refl _ _) _
  refine (could_at Z2 m 2 kS _ 256 256 (fun _ => 0) _ (HM5.out.keep hb5) kS_ok (by omega) (by omega) (by rw [kS_L]; omega) (Bts.of (heap_alloc_new _ _)) (fun k _ => by show 0 < 256; omega) true (by simp [kS_could0])).mono ?_
  rintro e w6 ⟨rfl, hb⟩
  have hb := hb5.trans (hb.mono hb5.size)
  have HB6 := Lib.hid (HB5.out.trans (hb.mono HB5.out.size))
  have HM6 := Lib.hid (HM5.out.keep hb)
  have HRow6 := Lib.hid (HRow5.out.keep hb)
  clear hb HM5 HRow5 HB5 hb5
  go_wp2_with fail
  refine (fate_any Z2 m 2 kS w6 HM6.out (by rw [kS_L, kS_many]; omega)).mono ?_
  rintro e w7 ⟨rfl, hb⟩
  rw [kS_L, kS_many, kS_way]
  have HB7 := Lib.hid (HB6.out.trans (hb.mono HB6.out.size))
  have HM7 := Lib.hid (HM6.out.keep hb)
  have HRow7 := Lib.hid (HRow6.out.keep hb)
  clear hb HM6 HRow6 HB6
  go_wp2_with fail
  have hcut : Bts w7 (.slice (some ⟨w1.heap.size, 1, none⟩) 255 255) 255 (fun k => aF (1 + k)) := by
    obtain ⟨a0, c0, e0, h0⟩ := HRow7.out
    cases e0
    rcases h0 with h0 | ⟨b, o, e1, hc⟩
    · omega
    · cases e1
      exact ⟨_, _, rfl, .inr ⟨_, 1, rfl, fun k hk => by have := hc (1 + k) (by omega); rwa [Nat.zero_add] at this⟩⟩
  refine (could_at Z2 m 2 kS _ 255 255 (fun k => aF (1 + k)) w7 HM7.out kS_ok (by omega) (by omega) (by rw [kS_L]; omega) hcut (fun k _ => by show aF (1 + k) < 256; unfold aF; split <;> omega) false (by simp [kS_not])).mono ?_
  rintro e w8 ⟨rfl, hb⟩
  have HB8 := Lib.hid (HB7.out.trans (hb.mono HB7.out.size))
  clear hb HM7 HRow7 HB7 hcut
  go_wp2
  go_ret
  exact ⟨rfl, HB8.out⟩
end Go.Proofs.Ytgkkmdebpekckaa
