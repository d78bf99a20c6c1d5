/- XorTurns: the plain law (rows turned round), the walk and the row. Conditions: none. -/
import Derived.Test.YtnjcnnjdogdbdaaXm
namespace Go.Proofs.Ytnjcnnjdogdbdaa.Turns
open Go.ChangeShapes Go.WideShapes Go.ChangeAt Go.RowKit
open Go.Proofs.Ytnjcnnjdogdbdaa
/-- Which row is the i-th when N rows are turned round by k. -/
def trn (N k i : Nat) : Nat := if i < N - k then k + i else i - (N - k)
theorem acc_xo (a : Nat → Nat) (h : Nat → Nat → Nat) (j x : Nat) : acc a h j x = a x ^^^ acc (fun _ => 0) h j x := by
  induction j with
  | zero => simp [acc]
  | succ j ih => simp only [acc, xo]; rw [ih, Nat.xor_assoc]
theorem acc_split (h : Nat → Nat → Nat) (i j x : Nat) : acc (fun _ => 0) h (i + j) x = acc (fun _ => 0) h i x ^^^ acc (fun _ => 0) (fun r => h (i + r)) j x := by
  induction j with
  | zero => simp [acc]
  | succ j ih => rw [← Nat.add_assoc]; simp only [acc, xo]; rw [ih, Nat.xor_assoc]
theorem acc_congr {h h' : Nat → Nat → Nat} (j x : Nat) (e : ∀ r, r < j → h r x = h' r x) : acc (fun _ => 0) h j x = acc (fun _ => 0) h' j x := by
  induction j with
  | zero => rfl
  | succ j ih => simp only [acc, xo]; rw [ih fun r hr => e r (by omega), e j (by omega)]
theorem acc_trn (h : Nat → Nat → Nat) (N k x : Nat) (hk : k ≤ N) : acc (fun _ => 0) (fun i => h (trn N k i)) N x = acc (fun _ => 0) h N x := by
  have e1 := acc_split h k (N - k) x
  have e2 := acc_split (fun i => h (trn N k i)) (N - k) k x
  rw [show k + (N - k) = N by omega] at e1
  rw [show N - k + k = N by omega] at e2
  rw [e1, e2, Nat.xor_comm]
  congr 1
  · exact acc_congr _ _ fun r hr => by unfold trn; rw [if_neg (by omega), show N - k + r - (N - k) = r by omega]
  · exact acc_congr _ _ fun r hr => by unfold trn; rw [if_pos hr]
theorem trn_lt {N k i : Nat} (hk : k ≤ N) (hi : i < N) : trn N k i < N := by unfold trn; split <;> omega
theorem trn_onto {N k j : Nat} (hk : k ≤ N) (hj : j < N) : ∃ i, i < N ∧ trn N k i = j := by
  by_cases h : k ≤ j
  · exact ⟨j - k, by omega, by unfold trn; rw [if_pos (by omega)]; omega⟩
  · exact ⟨j + (N - k), by omega, by unfold trn; rw [if_neg (by omega)]; omega⟩
/-- Two answers of Of that are the same. -/
theorem alike {N k : Nat} {n : Nat → Nat} {f : Nat → Nat → Nat} {w1 w2 w1' w2' : World} {e1 e2 : Ending} (hN : 0 < N) (hk : k ≤ N) (h1 : OfP N n f w1 e1 w1') (h2 : OfP N (fun i => n (trn N k i)) (fun i => f (trn N k i)) w2 e2 w2') :
    (∃ L F, NewB L F w1 e1 w1' ∧ NewB L F w2 e2 w2' ∧ L = n 0) ∨ (BadP w1 4 e1 w1' ∧ BadP w2 4 e2 w2') := by
  rcases h1 with ⟨h0, _⟩ | ⟨_, ha, h1⟩ | ⟨_, ⟨j, hj, hne⟩, h1⟩
  · omega
  · rcases h2 with ⟨h0, _⟩ | ⟨_, _, h2⟩ | ⟨_, ⟨j, hj, hne⟩, h2⟩
    · omega
    · left
      have e : n (trn N k 0) = n 0 := ha _ (trn_lt hk hN)
      refine ⟨_, _, h1.new, ?_, rfl⟩
      have : NewB (n (trn N k 0)) _ w2 e2 w2' := h2.new
      rw [e] at this
      have e2 : acc (fun _ => 0) (fun i => f (trn N k i)) N = acc (fun _ => 0) f N := funext fun x => acc_trn f N k x hk
      rw [e2] at this
      exact this
    · exact absurd ((ha _ (trn_lt hk hj)).trans (ha _ (trn_lt hk hN)).symm) hne
  · rcases h2 with ⟨h0, _⟩ | ⟨_, hb, h2⟩ | ⟨_, _, h2⟩
    · omega
    · exfalso
      obtain ⟨i, hi, rfl⟩ := trn_onto hk hj
      obtain ⟨i0, hi0, e0⟩ := trn_onto hk hN
      have := hb i hi
      have h0 := hb i0 hi0
      simp only [e0] at h0
      exact hne (this.trans h0.symm)
    · exact .inr ⟨h1, h2⟩
theorem xs_get (N k : Nat) (rv : Nat → Value) (hk : k ≤ N) (i : Nat) (hi : i < N) : (((List.range (N - k)).map fun r => rv (k + r)) ++ (List.range k).map rv)[i]? = some (rv (trn N k i)) := by
  unfold trn
  by_cases h : i < N - k
  · rw [List.getElem?_append_left (by simpa using h), if_pos h]
    simp [h]
  · rw [List.getElem?_append_right (by simp; omega), if_neg h]
    have h2 : i - (N - k) < k := by omega
    simp [h2]
theorem mod_in (a : Int) (N : Nat) (h : 0 < N) : -(N : Int) < a.tmod N ∧ a.tmod N < N := by
  have h1 := Int.lt_tmod_of_pos a (b := (N : Int)) (by omega)
  have h2 := Int.tmod_lt_of_pos a (b := (N : Int)) (by omega)
  exact ⟨h1, h2⟩
theorem BadP.nb {w : World} {k : Int} {e : Ending} {w' : World} (h : BadP w k e w') : e = .returned (.tuple #[.slice none 0 0, .int .u16 k]) ∧ Below w.heap.size w w' := h
set_option maxRecDepth 100000 in
set_option maxHeartbeats 2000000 in
theorem walk (va : Value) (N : Nat) (rv : Nat → Value) (n : Nat → Nat) (f : Nat → Nat → Nat) (a : Int) (W : World) (hm : CameM W va N rv n f) (bN : (N : Int) ≤ 140737488351232) (bn : ∀ i, i < N → (n i : Int) ≤ 140737488351232) :
    Calls Try.prog 9 #[va, .int .i64 a] W fun e w' => e = .returned (.bool true) ∧ Below W.heap.size W w' := by
  have HR := Lib.hid hm.rows
  have HV := Lib.hid (show ∀ i, i < N → ∃ x y z, rv i = .slice x y z from fun i hi => by obtain ⟨x, y, h, _⟩ := (hm.r i hi).form; exact ⟨_, _, _, h⟩)
  have HMu := Lib.hid (much_any va N rv n f W hm.rows bN bn)
  rcases hm.l with ⟨aa, ca, rfl, rfl⟩ | ⟨b, o, cap, rfl, h0, hcap, hmax, hc⟩
  · clear hm bN bn
    go_enter Try.func9, Try.ntmps9
    go_wp2_with fail
    refine HMu.out.mono ?_
    rintro e w1 ⟨bl, rfl, hbl, hb⟩
    have HW1 := Lib.hid hb
    clear hb hbl
    cases bl with
    | true =>
      go_wp2
      go_ret
      exact ⟨rfl, HW1.out⟩
    | false =>
      go_wp2_with fail
      refine (of_nil aa ca _).mono ?_
      rintro e w2 ⟨rfl, hb⟩
      have HW2 := Lib.hid (via HW1.out hb)
      clear hb HW1
      go_wp2_with fail
      refine (known_true _).mono ?_
      rintro e w3 ⟨rfl, hb⟩
      have HW3 := Lib.hid (via HW2.out hb)
      clear hb HW2
      go_wp2
      go_ret
      exact ⟨rfl, HW3.out⟩
  · have HC := Lib.hid hc
    clear hm hc bN bn
    go_enter Try.func9, Try.ntmps9
    go_wp2_with fail
    refine HMu.out.mono ?_
    rintro e w1 ⟨bl, rfl, hbl, hb⟩
    have HW1 := Lib.hid hb
    have HR1 := Lib.hid (HR.out.keep hb)
    have HBL := Lib.hid hbl
    clear hb HMu HR hbl
    by_cases hgo : bl = false ∧ N ≤ 1000
    · obtain ⟨rfl, hN⟩ := hgo
      have htot := HBL.out rfl
      have hL : ∀ i, i < N → n i ≤ 200000 := fun i hi => by have := tot_each N n (j := N) hi; omega
      have HL := Lib.hid hL
      clear hL htot HBL
      have h1000 : ¬ (1000 : Int) < N := by omega
      go_wp2_with fail
      refine (of_any _ N rv n f _ HR1.out HL.out (by omega)).mono ?_
      rintro e w2 hO
      have hb : Below w1.heap.size w1 w2 := by
        rcases hO with ⟨_, h⟩ | ⟨_, _, h⟩ | ⟨_, _, h⟩
        · exact h.2
        · obtain ⟨_, _, _, _, h⟩ := h.new
          exact h
        · exact h.2
      have HO := Lib.hid hO
      obtain ⟨v2, x2, rfl⟩ := HO.out.form
      obtain ⟨a2, l2, c2, rfl⟩ : ∃ a2 l2 c2, v2 = .slice a2 l2 c2 := by
        rcases hO with ⟨_, h⟩ | ⟨_, _, h⟩ | ⟨_, _, h⟩
        · cases h.1; exact ⟨_, _, _, rfl⟩
        · obtain ⟨_, _, he, _⟩ := h.new; cases he; exact ⟨_, _, _, rfl⟩
        · cases h.1; exact ⟨_, _, _, rfl⟩
      have HW2 := Lib.hid (via HW1.out hb)
      have HR2 := Lib.hid (HR1.out.keep hb)
      have HC2 := Lib.hid (show ∀ i, i < N → w2.cell? ⟨b, o + i, none⟩ = some (rv i) from fun i hi => by rw [(via HW1.out hb).cell (p := ⟨b, o + i, none⟩) (World.block_lt_of_cell? W _ (HC.out i hi))]; exact HC.out i hi)
      clear hb hO HW1 HR1 HC
      go_wp2_with fail
      refine (known_true _).mono ?_
      rintro e w3 ⟨rfl, hb⟩
      have HW3 := Lib.hid (via HW2.out hb)
      have HR3 := Lib.hid (HR2.out.keep hb)
      have HB23 := Lib.hid hb
      have HC3 := Lib.hid (show ∀ i, i < N → w3.cell? ⟨b, o + i, none⟩ = some (rv i) from fun i hi => by rw [hb.cell (p := ⟨b, o + i, none⟩) (World.block_lt_of_cell? w2 _ (HC2.out i hi))]; exact HC2.out i hi)
      clear hb HW2 HR2 HC2
      obtain ⟨i0, hi, hz0, hz1, hz2⟩ := info_parts Try.info25
      obtain ⟨K, hK⟩ : ∃ K, a.tmod (N : Int) = K := ⟨_, rfl⟩
      have hKb := mod_in a N h0
      rw [hK] at hKb
      have hwK : IntKind.i64.wrap K = K := by go_arith
      have hN0 : ¬ (N : Int) = 0 := by omega
      by_cases hneg : K < 0
      · obtain ⟨k, hk⟩ : ∃ k : Nat, K + N = k := ⟨(K + N).toNat, by omega⟩
        have hkN : k < N := by omega
        have hwk : IntKind.i64.wrap (k : Int) = k := by go_arith
        have hck : ¬ cap = k := by omega
        have hk1 : k ≤ N := by omega
        have hk2 : k ≤ cap := by omega
        go_wp2_with (first | (at_builtin; refine wpList_append_own _ rfl _ _ 22 rfl w3.heap.size 25 i0 (.slice none 0 0) 1 24 Try.underlying22 hi hz0 hz1 hz2 rfl (by decide) _ 0 [] rfl (World.ownsRow_nil _ _ _ _) ⟨b, o + k, none⟩ (N - k) (cap - k) ((List.range (N - k)).map fun r => rv (k + r)) rfl (by simp) ?c1 ?c2 ?c3 ?c4 (Nat.le_refl _) ?_))
        case c1 =>
          intro q u hq
          have e : (⟨b, o + k, none⟩ : Addr).add q = ⟨b, o + (k + q), none⟩ := by unfold Addr.add; split <;> simp_all <;> omega
          rw [e]
          by_cases hlt : q < N - k
          · simp [hlt] at hq
            subst hq
            exact HC3.out (k + q) (by omega)
          · rw [List.getElem?_eq_none (by simp; omega)] at hq
            cases hq
        case c2 =>
          intro u hu
          obtain ⟨r, hr, rfl⟩ := List.mem_map.1 hu
          obtain ⟨x, y, z, e⟩ := HV.out (k + r) (by have := List.mem_range.1 hr; omega)
          rw [e]
          rfl
        case c3 => unfold maxLen; omega
        case c4 => omega
        intro v4 w4 hown hgr _
        have hb34 : Below w3.heap.size w3 w4 := (Below.refl _ _).grown hgr (Nat.le_refl _) (fun k hk => by simp [Value.ownBlock] at hk)
        have HO4 := Lib.hid hown
        have HB34 := Lib.hid hb34
        have HC4 := Lib.hid (show ∀ i, i < N → w4.cell? ⟨b, o + i, none⟩ = some (rv i) from fun i hi => by rw [hb34.cell (p := ⟨b, o + i, none⟩) (World.block_lt_of_cell? w3 _ (HC3.out i hi))]; exact HC3.out i hi)
        clear hown hgr hb34 HC3
        go_wp2_with (first | (at_builtin; refine wpList_append_own _ rfl _ _ 22 rfl w3.heap.size 25 i0 (.slice none 0 0) 1 24 Try.underlying22 hi hz0 hz1 hz2 rfl (by decide) _ (N - k) ((List.range (N - k)).map fun r => rv (k + r)) rfl HO4.out ⟨b, o, none⟩ k cap ((List.range k).map rv) rfl (by simp) ?c1 ?c2 ?c3 ?c4 HB34.out.size ?_))
        case c1 =>
          intro q u hq
          have e : (⟨b, o, none⟩ : Addr).add q = ⟨b, o + q, none⟩ := by unfold Addr.add; split <;> simp_all
          rw [e]
          by_cases hlt : q < k
          · simp [hlt] at hq
            subst hq
            exact HC4.out q (by omega)
          · rw [List.getElem?_eq_none (by simp; omega)] at hq
            cases hq
        case c2 =>
          intro u hu
          obtain ⟨r, hr, rfl⟩ := List.mem_map.1 hu
          obtain ⟨x, y, z, e⟩ := HV.out r (by have := List.mem_range.1 hr; omega)
          rw [e]
          rfl
        case c3 => unfold maxLen; omega
        case c4 => omega
        intro v5 w5 hown hgr _
        have hb35 : Below w3.heap.size w3 w5 := HB34.out.grown hgr HB34.out.size (fun k hk => (HO4.out.lt k hk).1)
        have hrw : Rws w5 v5 N fun i => rv (trn N k i) := by
          have hown' : w5.ownsRow w3.heap.size 25 1 v5 N (((List.range (N - k)).map fun r => rv (k + r)) ++ (List.range k).map rv) := by
            have e := hown
            first | exact e | (rw [show N - k + k = N by omega] at e; exact e)
          exact ownRws hown' (xs_get N k rv hk1)
        have hrows : Rows2 w5 v5 N (fun i => rv (trn N k i)) (fun i => n (trn N k i)) (fun i => f (trn N k i)) :=
          ⟨hrw, fun i hi => (HR3.out.b _ (trn_lt hk1 hi)).keep hb35, fun i hi => HR3.out.lt _ (trn_lt hk1 hi)⟩
        obtain ⟨av, cv, rfl, -⟩ := hrw
        have HRR := Lib.hid hrows
        have HB35 := Lib.hid hb35
        have HL5 := Lib.hid (show ∀ i, i < N → n (trn N k i) ≤ 200000 from fun i hi => HL.out _ (trn_lt hk1 hi))
        clear hown hgr hrows hb35 HC4 HR3 HO4 HB34
        go_wp2_with fail
        refine (of_any _ N _ _ _ _ HRR.out HL5.out (by omega)).mono ?_
        rintro e w6 hO2
        rcases alike h0 hk1 HO.out hO2 with ⟨L, F, ⟨a1, c1, he1, hB1, -⟩, ⟨a6, c6, rfl, hB6, hb6⟩, hLe⟩ | ⟨⟨he1, -⟩, ⟨rfl, hb6⟩⟩
        · subst hLe
          have hLL : n 0 ≤ 200000 := HL.out 0 h0
          cases he1
          have HB1 := Lib.hid ((hB1.keep HB23.out).keep (HB35.out.trans (hb6.mono HB35.out.size)))
          have HB6 := Lib.hid hB6
          have HW6 := Lib.hid (HW3.out.trans ((HB35.out.trans (hb6.mono HB35.out.size)).mono HW3.out.size))
          clear hB1 hB6 hb6 hO2
          go_wp2_with fail
          refine (same_V hLL HB1.out HB6.out).mono ?_
          rintro e w7 ⟨rfl, hb⟩
          have HW7 := Lib.hid (via HW6.out hb)
          clear hb
          go_wp2
          go_ret
          exact ⟨rfl, HW7.out⟩
        · cases he1
          have HW6 := Lib.hid (HW3.out.trans ((HB35.out.trans (hb6.mono HB35.out.size)).mono HW3.out.size))
          clear hb6 hO2
          go_wp2_with fail
          refine (same_zero _ _ _ _ _).mono ?_
          rintro e w7 ⟨rfl, hb⟩
          have HW7 := Lib.hid (via HW6.out hb)
          clear hb
          go_wp2
          go_ret
          exact ⟨rfl, HW7.out⟩
      · obtain ⟨k, rfl⟩ : ∃ k : Nat, K = k := ⟨K.toNat, by omega⟩
        have hkN : k < N := by omega
        have hck : ¬ cap = k := by omega
        have hk1 : k ≤ N := by omega
        have hk2 : k ≤ cap := by omega
        go_wp2_with (first | (at_builtin; refine wpList_append_own _ rfl _ _ 22 rfl w3.heap.size 25 i0 (.slice none 0 0) 1 24 Try.underlying22 hi hz0 hz1 hz2 rfl (by decide) _ 0 [] rfl (World.ownsRow_nil _ _ _ _) ⟨b, o + k, none⟩ (N - k) (cap - k) ((List.range (N - k)).map fun r => rv (k + r)) rfl (by simp) ?c1 ?c2 ?c3 ?c4 (Nat.le_refl _) ?_))
        case c1 =>
          intro q u hq
          have e : (⟨b, o + k, none⟩ : Addr).add q = ⟨b, o + (k + q), none⟩ := by unfold Addr.add; split <;> simp_all <;> omega
          rw [e]
          by_cases hlt : q < N - k
          · simp [hlt] at hq
            subst hq
            exact HC3.out (k + q) (by omega)
          · rw [List.getElem?_eq_none (by simp; omega)] at hq
            cases hq
        case c2 =>
          intro u hu
          obtain ⟨r, hr, rfl⟩ := List.mem_map.1 hu
          obtain ⟨x, y, z, e⟩ := HV.out (k + r) (by have := List.mem_range.1 hr; omega)
          rw [e]
          rfl
        case c3 => unfold maxLen; omega
        case c4 => omega
        intro v4 w4 hown hgr _
        have hb34 : Below w3.heap.size w3 w4 := (Below.refl _ _).grown hgr (Nat.le_refl _) (fun k hk => by simp [Value.ownBlock] at hk)
        have HO4 := Lib.hid hown
        have HB34 := Lib.hid hb34
        have HC4 := Lib.hid (show ∀ i, i < N → w4.cell? ⟨b, o + i, none⟩ = some (rv i) from fun i hi => by rw [hb34.cell (p := ⟨b, o + i, none⟩) (World.block_lt_of_cell? w3 _ (HC3.out i hi))]; exact HC3.out i hi)
        clear hown hgr hb34 HC3
        go_wp2_with (first | (at_builtin; refine wpList_append_own _ rfl _ _ 22 rfl w3.heap.size 25 i0 (.slice none 0 0) 1 24 Try.underlying22 hi hz0 hz1 hz2 rfl (by decide) _ (N - k) ((List.range (N - k)).map fun r => rv (k + r)) rfl HO4.out ⟨b, o, none⟩ k cap ((List.range k).map rv) rfl (by simp) ?c1 ?c2 ?c3 ?c4 HB34.out.size ?_))
        case c1 =>
          intro q u hq
          have e : (⟨b, o, none⟩ : Addr).add q = ⟨b, o + q, none⟩ := by unfold Addr.add; split <;> simp_all
          rw [e]
          by_cases hlt : q < k
          · simp [hlt] at hq
            subst hq
            exact HC4.out q (by omega)
          · rw [List.getElem?_eq_none (by simp; omega)] at hq
            cases hq
        case c2 =>
          intro u hu
          obtain ⟨r, hr, rfl⟩ := List.mem_map.1 hu
          obtain ⟨x, y, z, e⟩ := HV.out r (by have := List.mem_range.1 hr; omega)
          rw [e]
          rfl
        case c3 => unfold maxLen; omega
        case c4 => omega
        intro v5 w5 hown hgr _
        have hb35 : Below w3.heap.size w3 w5 := HB34.out.grown hgr HB34.out.size (fun k hk => (HO4.out.lt k hk).1)
        have hrw : Rws w5 v5 N fun i => rv (trn N k i) := by
          have hown' : w5.ownsRow w3.heap.size 25 1 v5 N (((List.range (N - k)).map fun r => rv (k + r)) ++ (List.range k).map rv) := by
            have e := hown
            first | exact e | (rw [show N - k + k = N by omega] at e; exact e)
          exact ownRws hown' (xs_get N k rv hk1)
        have hrows : Rows2 w5 v5 N (fun i => rv (trn N k i)) (fun i => n (trn N k i)) (fun i => f (trn N k i)) :=
          ⟨hrw, fun i hi => (HR3.out.b _ (trn_lt hk1 hi)).keep hb35, fun i hi => HR3.out.lt _ (trn_lt hk1 hi)⟩
        obtain ⟨av, cv, rfl, -⟩ := hrw
        have HRR := Lib.hid hrows
        have HB35 := Lib.hid hb35
        have HL5 := Lib.hid (show ∀ i, i < N → n (trn N k i) ≤ 200000 from fun i hi => HL.out _ (trn_lt hk1 hi))
        clear hown hgr hrows hb35 HC4 HR3 HO4 HB34
        go_wp2_with fail
        refine (of_any _ N _ _ _ _ HRR.out HL5.out (by omega)).mono ?_
        rintro e w6 hO2
        rcases alike h0 hk1 HO.out hO2 with ⟨L, F, ⟨a1, c1, he1, hB1, -⟩, ⟨a6, c6, rfl, hB6, hb6⟩, hLe⟩ | ⟨⟨he1, -⟩, ⟨rfl, hb6⟩⟩
        · subst hLe
          have hLL : n 0 ≤ 200000 := HL.out 0 h0
          cases he1
          have HB1 := Lib.hid ((hB1.keep HB23.out).keep (HB35.out.trans (hb6.mono HB35.out.size)))
          have HB6 := Lib.hid hB6
          have HW6 := Lib.hid (HW3.out.trans ((HB35.out.trans (hb6.mono HB35.out.size)).mono HW3.out.size))
          clear hB1 hB6 hb6 hO2
          go_wp2_with fail
          refine (same_V hLL HB1.out HB6.out).mono ?_
          rintro e w7 ⟨rfl, hb⟩
          have HW7 := Lib.hid (via HW6.out hb)
          clear hb
          go_wp2
          go_ret
          exact ⟨rfl, HW7.out⟩
        · cases he1
          have HW6 := Lib.hid (HW3.out.trans ((HB35.out.trans (hb6.mono HB35.out.size)).mono HW3.out.size))
          clear hb6 hO2
          go_wp2_with fail
          refine (same_zero _ _ _ _ _).mono ?_
          rintro e w7 ⟨rfl, hb⟩
          have HW7 := Lib.hid (via HW6.out hb)
          clear hb
          go_wp2
          go_ret
          exact ⟨rfl, HW7.out⟩
    · clear HBL
      cases bl with
      | true =>
        go_wp2
        go_ret
        exact ⟨rfl, HW1.out⟩
      | false =>
        have hbig : (1000 : Int) < N := by
          have : ¬ N ≤ 1000 := fun h => hgo ⟨rfl, h⟩
          omega
        clear hgo
        go_wp2
        go_ret
        exact ⟨rfl, HW1.out⟩
theorem kinds9 : ∀ t ∈ Try.f9.params.toList, Try.prog.readableRec t = true ∧ t < Try.prog.types.size := by
  rw [Try.params9]
  intro t ht
  simp only [List.mem_cons, List.not_mem_nil, or_false] at ht
  rcases ht with rfl | rfl
  all_goals exact ⟨by kernel_rfl, of_decide_eq_true (by kernel_rfl)⟩
set_option maxRecDepth 100000 in
theorem lifted (os : Os) (started : os.Started) (H : Type) (enc : TypeId × Value → H) :
    ReturnsInHanded {} Try.checked os 9 .any (Rows.xorTurnsSpec.pre6 enc Try.prog Try.f9 Rows.xorTurnsRow.domain false) (Rows.xorTurnsSpec.post enc Try.prog Try.f9 false true false false) := by
  refine returnsInHanded_of_change_sized (C := Try.checked) own started (by kernel_rfl) Try.func9
    (ChangeSpec.witness6 (enc := enc) (C := Try.checked) false ⟨#[], #[.slice none 0 0, .int .i64 0], []⟩ 8 (by kernel_rfl) (by kernel_rfl) (by kernel_rfl) (by kernel_rfl)) ?_
  intro W base args ds gs before hval0 hW hcnd hsz0 _
  have hval : ∀ (j : Nat) t v, Try.f9.params[j]? = some t → args[j]? = some v → Value.okWide Try.prog W .any base t v := hval0
  have hW' := hW
  obtain ⟨p, q, hA0, hV, rfl, hfz, hnd⟩ := hW
  have hA : DataW.TrodAll enc Try.prog W 0 (fun _ => true) true Try.f9.params.toList args.toList ds p := hA0
  have hA1 := hA
  have hsz : (DataW.weightsEach Try.prog (Try.f9.params.toList ++ []) (ds ++ gs)).all (· ≤ reachBytes) = true := hsz0
  rw [Try.params9] at hA hval hsz
  obtain ⟨v0, vs0, d0, ds0, p0, q0, hargs, rfl, rfl, h0, r0⟩ := trodAll_cons hA
  obtain ⟨v1, vs1, d1, ds1, p1, q1, rfl, rfl, rfl, h1, r1⟩ := trodAll_cons r0
  obtain ⟨rfl, rfl, rfl⟩ := trodAll_nil r1
  obtain rfl : args = #[v0, v1] := by cases args; simp_all
  obtain ⟨rfl, rfl⟩ := trodVars_none hV
  obtain ⟨N0, rv0, n0, f0, c0, e0⟩ := open_mat (hval 0 22 v0 rfl rfl) h0
  have b0 := bndM hsz (j := 0) rfl rfl e0
  obtain ⟨a1, rfl, rfl, rfl, w1⟩ := open_int Try.underlying3 (hval 1 3 v1 rfl rfl) h1
  clear hval0 hsz0
  refine (walk v0 N0 rv0 n0 f0 a1 W c0 b0.1 b0.2).mono fun e W' ⟨he, bel⟩ => ?_
  subst he
  exact ⟨_, rfl, _, _, _, [], _, [], hW', trodAll_mk1 (shut_bool Try.underlying4 _), carryAll laidOut bel _ _ _ _ kinds9 hA1 (fun x hx => hW'.lt x (List.mem_append.2 (.inl hx))), rfl, bel.frame _, fun h => by cases h⟩
theorem proved : Rows.XorTurnsSaid :=
  OpenClaim.holds_of_wide 9 Try.f9 rfl rfl rfl rfl rfl rfl rfl ⟨rfl, rfl, rfl, rfl, rfl⟩ rfl rfl rfl rfl rfl (by kernel_rfl) Try.func9 (by kernel_rfl)
    (of_decide_eq_true (by kernel_rfl)) (by unfold Func.isWrapper; first | (rw [if_pos (by decide +kernel)]; kernel_rfl) | (rw [if_neg (by decide +kernel)]; exact ⟨rfl, rfl⟩))
    (fun os started H enc _ => lifted os started H enc)
#print axioms proved
end Go.Proofs.Ytnjcnnjdogdbdaa.Turns
