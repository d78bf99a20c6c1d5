/- check: whether a batch is taken. Conditions: as stated at each. -/
import Derived.Test.YtgkkmdebpekckaaMj
namespace Go.Proofs.Ytgkkmdebpekckaa
open Go.RowKit
/-- A batch as it comes: N puts, put i names block bl i and has len i bytes. -/
structure Ar where
  N : Nat
  bl : Nat → Int
  len : Nat → Nat
  f : Nat → Nat → Nat
def ArX (X : Nat → Prop) (w : World) (v : Value) (a : Ar) : Prop :=
  ∃ dv, PtsX X w v a.N a.bl dv ∧ ∀ i, i < a.N → BtsX X w (dv i) (a.len i) (a.f i)
theorem ArX.out {X S : Nat → Prop} {w w1 : World} {v : Value} {a : Ar} (h : ArX X w v a) (ho : Out S w w1) (hS : ∀ k, k < w.heap.size → S k → X k) : ArX X w1 v a := by
  obtain ⟨dv, h1, h2⟩ := h
  exact ⟨dv, h1.out ho hS, fun i hi => (h2 i hi).out ho hS⟩
theorem ArX.mono {X Y : Nat → Prop} {w : World} {v : Value} {a : Ar} (h : ArX X w v a) (hS : ∀ k, k < w.heap.size → Y k → X k) : ArX Y w v a := by
  obtain ⟨dv, h1, h2⟩ := h
  exact ⟨dv, h1.mono hS, fun i hi => (h2 i hi).mono hS⟩
def Ar.away (n : Nat) (a : Ar) (i : Nat) : Bool := decide (a.bl i < 0 ∨ (n : Int) ≤ a.bl i)
def Ar.odd (a : Ar) (i : Nat) : Bool := decide (a.len i ≠ 128)
def anyB (N : Nat) (p : Nat → Bool) : Bool := (List.range N).any p
theorem anyB_true {N : Nat} {p : Nat → Bool} (k : Nat) (h : k < N) (hp : p k = true) : anyB N p = true := by
  simp only [anyB, List.any_eq_true, List.mem_range]; exact ⟨k, h, hp⟩
theorem anyB_false {N : Nat} {p : Nat → Bool} (h : ∀ k, k < N → p k = false) : anyB N p = false := by
  cases e : anyB N p with
  | false => rfl
  | true =>
    simp only [anyB, List.any_eq_true, List.mem_range] at e
    obtain ⟨k, hk, hp⟩ := e
    rw [h k hk] at hp
    exact hp.symm
theorem anyB_no {N : Nat} {p : Nat → Bool} (h : anyB N p = false) (k : Nat) (hk : k < N) : p k = false := by
  cases e : p k with
  | false => rfl
  | true => rw [anyB_true k hk e] at h; cases h
/-- What check answers. -/
def Ar.chk (n : Nat) (a : Ar) : Int := if 256 < a.N then 1 else if anyB a.N (a.away n) then 3 else if anyB a.N a.odd then 4 else 0
set_option maxRecDepth 100000 in
set_option maxHeartbeats 400000 in
theorem none_any (bl : Int) (a0 : Option Addr) (l0 c0 : Nat) (c1 m n cN : Nat) (sv : Value) (aN : Option Addr) (mv lv wv : Value) (w : World)
    (hc : w.heap[c1]? = some (.cells #[.pointer (some ⟨m, 0, none⟩)] 29 (0, 0))) (hm : w.heap[m]? = some (.cells #[sv, .slice aN (128 * n) cN, mv, lv, wv] 68 (0, 0))) (hn : n ≤ 61440) :
    Calls Try.prog 55 #[.agg #[.int .i64 bl, .slice a0 l0 c0], .pointer (some ⟨c1, 0, none⟩)] w fun e w' => e = .returned (.bool (decide (bl < 0 ∨ (n : Int) ≤ bl))) ∧ Below w.heap.size w w' := by
  obtain ⟨k1, f1, z1⟩ := cr hc
  obtain ⟨k2, f2, z2⟩ := cr hm
  obtain ⟨L, hL⟩ : ∃ L, 128 * n = L := ⟨_, rfl⟩
  rw [hL] at k2
  clear hc hm
  by_cases hb : bl < 0
  · have hd : decide (bl < 0) = true := by simpa using hb
    have e1 : decide (bl < 0 ∨ (n : Int) ≤ bl) = true := by simp [hb]
    rw [e1]
    clear e1
    go_enter Try.func55, Try.ntmps55
    go_wp2
    go_quiet (fail)
    go_wp2
    go_ret
    exact ⟨rfl, bdn (bal (Below.refl _ _) _) _⟩
  · have hd : decide (bl < 0) = false := by simpa using hb
    have e1 : decide (bl < 0 ∨ (n : Int) ≤ bl) = decide ((n : Int) ≤ bl) := by simp [hb]
    rw [e1]
    have hq : (L : Int).tdiv 128 = (n : Int) := by
      rw [Int.tdiv_eq_ediv_of_nonneg (by omega)]; omega
    clear e1 hL
    go_enter Try.func55, Try.ntmps55
    go_wp2
    go_quiet (fail)
    go_wp2
    go_ret
    exact ⟨rfl, bdn (bal (Below.refl _ _) _) _⟩
set_option maxRecDepth 100000 in
set_option maxHeartbeats 400000 in
theorem short_any (bl : Int) (a0 : Option Addr) (l0 c0 : Nat) (w : World) :
    Calls Try.prog 56 #[.agg #[.int .i64 bl, .slice a0 l0 c0]] w fun e w' => e = .returned (.bool (decide (l0 ≠ 128))) ∧ Below w.heap.size w w' := by
  by_cases hb : l0 = 128
  · subst hb
    go_enter Try.func56, Try.ntmps56
    go_wp2
    go_ret
    exact ⟨rfl, bal (Below.refl _ _) _⟩
  · have e1 : decide (l0 ≠ 128) = true := by simp [hb]
    have e2 : ((l0 : Int) != 128) = true := by simp; omega
    rw [e1]
    go_enter Try.func56, Try.ntmps56
    go_wp2
    go_ret
    exact ⟨rfl, bal (Below.refl _ _) _⟩
def IdxP (N : Nat) (p : Nat → Bool) (w : World) (e : Ending) (w' : World) : Prop :=
  ∃ r : Int, e = .returned (.int .i64 r) ∧ decide (0 ≤ r) = anyB N p ∧ Below w.heap.size w w'
set_option maxRecDepth 100000 in
set_option maxHeartbeats 800000 in
theorem idx55_any (v : Value) (N : Nat) (bl : Nat → Int) (dv : Nat → Value) (p : Nat → Bool) (w : World) (c1 : Nat) (h : PtsX (fun _ => False) w v N bl dv) (hd : ∀ i, i < N → ∃ a l c, dv i = .slice a l c) (hN : N ≤ 256)
    (hp : ∀ i, i < N → ∀ w1, Below w.heap.size w w1 → Calls Try.prog 55 #[.agg #[.int .i64 (bl i), dv i], .pointer (some ⟨c1, 0, none⟩)] w1 fun e w' => e = .returned (.bool (p i)) ∧ Below w1.heap.size w1 w') :
    Calls Try.prog 66 #[v, .func (.func 55) #[] #[.pointer (some ⟨c1, 0, none⟩)]] w (IdxP N p w) := by
  have HP := Lib.hid hp
  have HD := Lib.hid hd
  obtain ⟨a, cap, rfl, h0⟩ := h
  have HC : Hid (∀ w1, Below w.heap.size w w1 → ∀ i, i < N → ∃ b o, a = some ⟨b, o, none⟩ ∧ w1.cell? ⟨b, o + i * 2, none⟩ = some (.int .i64 (bl i)) ∧ w1.cell? ⟨b, o + i * 2 + 1, none⟩ = some (dv i)) := fun w1 hb i hi => by
    rcases h0 with h0 | ⟨b, o, e, _, hc⟩
    · omega
    · refine ⟨b, o, e, ?_, ?_⟩
      · rw [hb.cell (p := ⟨b, o + i * 2, none⟩) (World.block_lt_of_cell? w _ (hc i hi).1)]; exact (hc i hi).1
      · rw [hb.cell (p := ⟨b, o + i * 2 + 1, none⟩) (World.block_lt_of_cell? w _ (hc i hi).2)]; exact (hc i hi).2
  clear hp hd h0
  go_enter Try.func66, Try.ntmps66
  go_wp2
  go_loopw [8] (fun s8 wr => ∃ k : Nat, k ≤ N ∧ s8 = .int .i64 k ∧ Hid ((∀ i, i < k → p i = false) ∧ Below w.heap.size w wr)) (fun s8 _ => N - (intOf s8).toNat)
  case atStart => exact ⟨0, by omega, rfl, (fun _ h => by omega), Below.refl _ _⟩
  case round =>
    obtain ⟨k, hk, rfl, HR⟩ := hrel
    by_cases hlt : k < N
    · obtain ⟨b, o, rfl, c1, c2⟩ := HC.out wr HR.out.2 k hlt
      obtain ⟨ad, ld, cd, e1⟩ := HD.out k hlt
      have HCL := Lib.hid (HP.out k hlt wr HR.out.2)
      rw [e1] at c2 HCL
      clear e1
      have i1 : (0 : Int) ≤ (k : Int) := by omega
      have i2 : (k : Int) < (N : Int) := by omega
      obtain ⟨pk, hpk⟩ : ∃ pk, p k = pk := ⟨_, rfl⟩
      rw [hpk] at HCL
      have HPK := Lib.hid hpk
      clear hpk
      cases pk
      · go_wp2_with (first | (go_at_call 55; refine HCL.out.mono ?_; clear HCL; rintro e w1 ⟨rfl, hb⟩; have HB := Lib.hid hb; clear hb))
        go_roundw
        case rel =>
          refine ⟨k + 1, by omega, by go_num, fun i hi => ?_, HR.out.2.trans (HB.out.mono HR.out.2.size)⟩
          by_cases e : i = k
          · subst e; exact HPK.out
          · exact HR.out.1 i (by omega)
        case measure => simp [intOf]; omega
      · go_wp2_with (first | (go_at_call 55; refine HCL.out.mono ?_; clear HCL; rintro e w1 ⟨rfl, hb⟩; have HB := Lib.hid hb; clear hb))
        go_ret
        exact ⟨_, rfl, by rw [anyB_true k hlt HPK.out]; simp, HR.out.2.trans (HB.out.mono HR.out.2.size)⟩
    · obtain rfl : k = N := by omega
      go_wp2
      go_ret
      exact ⟨_, rfl, by rw [anyB_false HR.out.1]; rfl, HR.out.2⟩
set_option maxRecDepth 100000 in
theorem contains55_any (v : Value) (N : Nat) (bl : Nat → Int) (dv : Nat → Value) (p : Nat → Bool) (w : World) (c1 : Nat) (h : PtsX (fun _ => False) w v N bl dv) (hd : ∀ i, i < N → ∃ a l c, dv i = .slice a l c) (hN : N ≤ 256)
    (hp : ∀ i, i < N → ∀ w1, Below w.heap.size w w1 → Calls Try.prog 55 #[.agg #[.int .i64 (bl i), dv i], .pointer (some ⟨c1, 0, none⟩)] w1 fun e w' => e = .returned (.bool (p i)) ∧ Below w1.heap.size w1 w') :
    Calls Try.prog 57 #[v, .func (.func 55) #[] #[.pointer (some ⟨c1, 0, none⟩)]] w fun e w' => e = .returned (.bool (anyB N p)) ∧ Below w.heap.size w w' := by
  have HI := Lib.hid (idx55_any v N bl dv p w c1 h hd hN hp)
  clear h hd hp
  go_enter Try.func57, Try.ntmps57
  go_wp2_with (first | (go_at_call 66; refine HI.out.mono ?_; clear HI; rintro e w1 ⟨r, rfl, hr, hb⟩; have HB := Lib.hid hb; clear hb))
  go_ret
  exact ⟨rfl, HB.out⟩
set_option maxRecDepth 100000 in
set_option maxHeartbeats 800000 in
theorem idx56_any (v : Value) (N : Nat) (bl : Nat → Int) (dv : Nat → Value) (p : Nat → Bool) (w : World) (h : PtsX (fun _ => False) w v N bl dv) (hd : ∀ i, i < N → ∃ a l c, dv i = .slice a l c) (hN : N ≤ 256)
    (hp : ∀ i, i < N → ∀ w1, Below w.heap.size w w1 → Calls Try.prog 56 #[.agg #[.int .i64 (bl i), dv i]] w1 fun e w' => e = .returned (.bool (p i)) ∧ Below w1.heap.size w1 w') :
    Calls Try.prog 66 #[v, .func (.func 56) #[] #[]] w (IdxP N p w) := by
  have HP := Lib.hid hp
  have HD := Lib.hid hd
  obtain ⟨a, cap, rfl, h0⟩ := h
  have HC : Hid (∀ w1, Below w.heap.size w w1 → ∀ i, i < N → ∃ b o, a = some ⟨b, o, none⟩ ∧ w1.cell? ⟨b, o + i * 2, none⟩ = some (.int .i64 (bl i)) ∧ w1.cell? ⟨b, o + i * 2 + 1, none⟩ = some (dv i)) := fun w1 hb i hi => by
    rcases h0 with h0 | ⟨b, o, e, _, hc⟩
    · omega
    · refine ⟨b, o, e, ?_, ?_⟩
      · rw [hb.cell (p := ⟨b, o + i * 2, none⟩) (World.block_lt_of_cell? w _ (hc i hi).1)]; exact (hc i hi).1
      · rw [hb.cell (p := ⟨b, o + i * 2 + 1, none⟩) (World.block_lt_of_cell? w _ (hc i hi).2)]; exact (hc i hi).2
  clear hp hd h0
  go_enter Try.func66, Try.ntmps66
  go_wp2
  go_loopw [8] (fun s8 wr => ∃ k : Nat, k ≤ N ∧ s8 = .int .i64 k ∧ Hid ((∀ i, i < k → p i = false) ∧ Below w.heap.size w wr)) (fun s8 _ => N - (intOf s8).toNat)
  case atStart => exact ⟨0, by omega, rfl, (fun _ h => by omega), Below.refl _ _⟩
  case round =>
    obtain ⟨k, hk, rfl, HR⟩ := hrel
    by_cases hlt : k < N
    · obtain ⟨b, o, rfl, c1, c2⟩ := HC.out wr HR.out.2 k hlt
      obtain ⟨ad, ld, cd, e1⟩ := HD.out k hlt
      have HCL := Lib.hid (HP.out k hlt wr HR.out.2)
      rw [e1] at c2 HCL
      clear e1
      have i1 : (0 : Int) ≤ (k : Int) := by omega
      have i2 : (k : Int) < (N : Int) := by omega
      obtain ⟨pk, hpk⟩ : ∃ pk, p k = pk := ⟨_, rfl⟩
      rw [hpk] at HCL
      have HPK := Lib.hid hpk
      clear hpk
      cases pk
      · go_wp2_with (first | (go_at_call 56; refine HCL.out.mono ?_; clear HCL; rintro e w1 ⟨rfl, hb⟩; have HB := Lib.hid hb; clear hb))
        go_roundw
        case rel =>
          refine ⟨k + 1, by omega, by go_num, fun i hi => ?_, HR.out.2.trans (HB.out.mono HR.out.2.size)⟩
          by_cases e : i = k
          · subst e; exact HPK.out
          · exact HR.out.1 i (by omega)
        case measure => simp [intOf]; omega
      · go_wp2_with (first | (go_at_call 56; refine HCL.out.mono ?_; clear HCL; rintro e w1 ⟨rfl, hb⟩; have HB := Lib.hid hb; clear hb))
        go_ret
        exact ⟨_, rfl, by rw [anyB_true k hlt HPK.out]; simp, HR.out.2.trans (HB.out.mono HR.out.2.size)⟩
    · obtain rfl : k = N := by omega
      go_wp2
      go_ret
      exact ⟨_, rfl, by rw [anyB_false HR.out.1]; rfl, HR.out.2⟩
set_option maxRecDepth 100000 in
theorem contains56_any (v : Value) (N : Nat) (bl : Nat → Int) (dv : Nat → Value) (p : Nat → Bool) (w : World) (h : PtsX (fun _ => False) w v N bl dv) (hd : ∀ i, i < N → ∃ a l c, dv i = .slice a l c) (hN : N ≤ 256)
    (hp : ∀ i, i < N → ∀ w1, Below w.heap.size w w1 → Calls Try.prog 56 #[.agg #[.int .i64 (bl i), dv i]] w1 fun e w' => e = .returned (.bool (p i)) ∧ Below w1.heap.size w1 w') :
    Calls Try.prog 57 #[v, .func (.func 56) #[] #[]] w fun e w' => e = .returned (.bool (anyB N p)) ∧ Below w.heap.size w w' := by
  have HI := Lib.hid (idx56_any v N bl dv p w h hd hN hp)
  clear h hd hp
  go_enter Try.func57, Try.ntmps57
  go_wp2_with (first | (go_at_call 66; refine HI.out.mono ?_; clear HI; rintro e w1 ⟨r, rfl, hr, hb⟩; have HB := Lib.hid hb; clear hb))
  go_ret
  exact ⟨rfl, HB.out⟩
end Go.Proofs.Ytgkkmdebpekckaa
