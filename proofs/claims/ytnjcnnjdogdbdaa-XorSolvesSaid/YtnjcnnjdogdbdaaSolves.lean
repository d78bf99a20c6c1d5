/- XorSolves: the plain law, the walk and the row. Conditions: as stated at each. -/
import Derived.Test.YtnjcnnjdogdbdaaBm
import Derived.Test.YtnjcnnjdogdbdaaXx
import Derived.Deep.CutRange
import Derived.Deep.DeepCutAuto
namespace Go.Proofs.Ytnjcnnjdogdbdaa.Solves
open Go.ChangeShapes Go.WideShapes Go.ChangeAt Go.RowKit
open Go.Proofs.Ytnjcnnjdogdbdaa
theorem acc_congr {h h' : Nat → Nat → Nat} (j : Nat) (e : ∀ r, r < j → h r = h' r) : acc (fun _ => 0) h j = acc (fun _ => 0) h' j := by
  induction j with
  | zero => rfl
  | succ j ih => simp only [acc]; rw [ih fun r hr => e r (by omega), e j (by omega)]
theorem acc_split (h : Nat → Nat → Nat) (i j x : Nat) : acc (fun _ => 0) h (i + j) x = acc (fun _ => 0) h i x ^^^ acc (fun _ => 0) (fun r => h (i + r)) j x := by
  induction j with
  | zero => simp [acc]
  | succ j ih => rw [← Nat.add_assoc]; simp only [acc, xo]; rw [ih, Nat.xor_assoc]
theorem acc_but (f : Nat → Nat → Nat) (i x : Nat) : ∀ M, i ≤ M → acc (fun _ => 0) (but i f) M x ^^^ f i x = acc (fun _ => 0) f (M + 1) x
  | 0, h => by
    obtain rfl : i = 0 := by omega
    simp [acc, xo]
  | M + 1, h => by
    by_cases e : i = M + 1
    · subst e
      have : acc (fun _ => 0) (but (M + 1) f) (M + 1) = acc (fun _ => 0) f (M + 1) := acc_congr _ fun r hr => by unfold but; rw [if_pos hr]
      rw [this]
      rfl
    · have ih := acc_but f i x M (by omega)
      have e1 : but i f M = f (M + 1) := by unfold but; rw [if_neg (by omega)]
      have e2 : acc (fun _ => 0) (but i f) (M + 1) x = acc (fun _ => 0) (but i f) M x ^^^ f (M + 1) x := by rw [← e1]; rfl
      have e3 : acc (fun _ => 0) f (M + 1 + 1) x = acc (fun _ => 0) f (M + 1) x ^^^ f (M + 1) x := rfl
      rw [e2, e3, ← ih, Nat.xor_assoc, Nat.xor_assoc, Nat.xor_comm (f (M + 1) x)]
theorem xor_cancel {a b : Nat} (h : a ^^^ b = 0) : a = b := xz h
/-- The rows and their parity. -/
theorem acc_all (h : Nat → Nat → Nat) (N x : Nat) : acc (fun _ => 0) (put N h (acc (fun _ => 0) h N)) (N + 1) x = 0 := by
  have e : acc (fun _ => 0) (put N h (acc (fun _ => 0) h N)) N = acc (fun _ => 0) h N := acc_congr _ fun r hr => put_lt _ _ hr
  show (acc (fun _ => 0) (put N h (acc (fun _ => 0) h N)) N x) ^^^ (put N h (acc (fun _ => 0) h N) N x) = 0
  rw [e, put_at, Nat.xor_self]
theorem acc_back (h : Nat → Nat → Nat) (N i : Nat) (hi : i ≤ N) : acc (fun _ => 0) (but i (put N h (acc (fun _ => 0) h N))) N = put N h (acc (fun _ => 0) h N) i := by
  funext x
  refine xor_cancel ?_
  rw [acc_but _ i x N hi]
  exact acc_all h N x
/-- One row is another one: f has g at k, and at N what makes up for it. -/
def swp {α : Type} (N k : Nat) (h : Nat → α) (g q : α) (i : Nat) : α := if i = N then q else if i = k then g else h i
theorem acc_swap (h : Nat → Nat → Nat) (g : Nat → Nat) (k x : Nat) : ∀ N, k < N → acc (fun _ => 0) (fun i => if i = k then g else h i) N x = acc (fun _ => 0) h N x ^^^ h k x ^^^ g x
  | 0, h => absurd h (Nat.not_lt_zero _)
  | N + 1, hk => by
    by_cases e : k = N
    · subst e
      have e1 : acc (fun _ => 0) (fun i => if i = k then g else h i) k = acc (fun _ => 0) h k := acc_congr _ fun r hr => by rw [if_neg (by omega)]
      show (acc (fun _ => 0) (fun i => if i = k then g else h i) k x) ^^^ ((if k = k then g else h k) x) = _
      rw [e1, if_pos rfl]
      show _ = (acc (fun _ => 0) h k x ^^^ h k x) ^^^ h k x ^^^ g x
      rw [Nat.xor_assoc (acc (fun _ => 0) h k x), Nat.xor_self, Nat.xor_zero]
    · have ih := acc_swap h g k x N (by omega)
      show (acc (fun _ => 0) (fun i => if i = k then g else h i) N x) ^^^ ((if N = k then g else h N) x) = _
      rw [ih, if_neg (by omega)]
      show _ = (acc (fun _ => 0) h N x ^^^ h N x) ^^^ h k x ^^^ g x
      rw [Nat.xor_assoc (acc (fun _ => 0) h N x ^^^ h k x), Nat.xor_comm (g x), ← Nat.xor_assoc, Nat.xor_assoc (acc (fun _ => 0) h N x), Nat.xor_comm (h k x), ← Nat.xor_assoc]
theorem acc_swp (h : Nat → Nat → Nat) (g : Nat → Nat) (N k x : Nat) (hk : k < N) : acc (fun _ => 0) (swp N k h g (xo (xo (acc (fun _ => 0) h N) (h k)) g)) (N + 1) x = 0 := by
  have e : acc (fun _ => 0) (swp N k h g (xo (xo (acc (fun _ => 0) h N) (h k)) g)) N = acc (fun _ => 0) (fun i => if i = k then g else h i) N := acc_congr _ fun r hr => by unfold swp; rw [if_neg (by omega)]
  show (acc (fun _ => 0) (swp N k h g (xo (xo (acc (fun _ => 0) h N) (h k)) g)) N x) ^^^ (swp N k h g (xo (xo (acc (fun _ => 0) h N) (h k)) g) N x) = 0
  rw [e, acc_swap h g k x N hk]
  unfold swp
  rw [if_pos rfl]
  simp only [xo, Nat.xor_self]
/-- Turned round, and one row twice more. -/
def trd {α : Type} (N k : Nat) (h : Nat → α) (i : Nat) : α := if i < N then h (N - 1 - i) else h k
theorem acc_rev (h : Nat → Nat → Nat) (x : Nat) : ∀ N, acc (fun _ => 0) (fun i => h (N - 1 - i)) N x = acc (fun _ => 0) h N x
  | 0 => rfl
  | N + 1 => by
    have e := acc_split (fun i => h (N + 1 - 1 - i)) 1 N x
    rw [Nat.add_comm 1 N] at e
    have e2 : acc (fun _ => 0) (fun r => h (N + 1 - 1 - (1 + r))) N = acc (fun _ => 0) (fun r => h (N - 1 - r)) N := acc_congr _ fun r hr => by congr 1; omega
    rw [e, e2, acc_rev h x N]
    show (0 ^^^ h (N + 1 - 1 - 0) x) ^^^ _ = acc (fun _ => 0) h N x ^^^ h N x
    rw [Nat.zero_xor, show N + 1 - 1 - 0 = N from rfl, Nat.xor_comm]
theorem acc_trd (h : Nat → Nat → Nat) (N k : Nat) : acc (fun _ => 0) (trd N k h) (N + 2) = acc (fun _ => 0) h N := by
  funext x
  have e : acc (fun _ => 0) (trd N k h) N = acc (fun _ => 0) (fun i => h (N - 1 - i)) N := acc_congr _ fun r hr => by unfold trd; rw [if_pos hr]
  show (acc (fun _ => 0) (trd N k h) N x ^^^ trd N k h N x) ^^^ trd N k h (N + 1) x = _
  rw [e, acc_rev]
  unfold trd
  rw [if_neg (by omega), if_neg (by omega), Nat.xor_assoc, Nat.xor_self, Nat.xor_zero]
theorem mod_in (a : Int) (N : Nat) (h : 0 < N) : -(N : Int) < a.tmod N ∧ a.tmod N < N := by
  have h1 := Int.lt_tmod_of_pos a (b := (N : Int)) (by omega)
  have h2 := Int.tmod_lt_of_pos a (b := (N : Int)) (by omega)
  exact ⟨h1, h2⟩
theorem map_trd (N k j : Nat) (rv : Nat → Value) (hj : j < N) : ((List.range j).map (trd N k rv)) ++ [rv (N - 1 - j)] = (List.range (j + 1)).map (trd N k rv) := by
  have e : trd N k rv j = rv (N - 1 - j) := if_pos hj
  rw [List.range_succ, List.map_append, List.map_singleton, e]
theorem map_trd2 (N k : Nat) (rv : Nat → Value) : ((List.range N).map (trd N k rv)) ++ [rv k, rv k] = (List.range (N + 2)).map (trd N k rv) := by
  have e1 : trd N k rv N = rv k := if_neg (by omega)
  have e2 : trd N k rv (N + 1) = rv k := if_neg (by omega)
  rw [List.range_succ, List.range_succ, List.map_append, List.map_append, List.map_singleton, List.map_singleton, e1, e2, List.append_assoc]
  rfl
theorem OfP.own {N L : Nat} {n : Nat → Nat} {h : Nat → Nat → Nat} {f : Nat → Nat} {w : World} {e : Ending} {w' : World} (H : OfP N n h w e w') (h0 : 0 < N) (hL : ∀ i, i < N → n i = L) (hf : acc (fun _ => 0) h N = f) : OwnP L f w e w' := by
  rcases H with ⟨a, _⟩ | ⟨_, _, c⟩ | ⟨_, ⟨j, hj, hne⟩, _⟩
  · omega
  · rw [hf, hL 0 h0] at c
    exact c
  · rw [hL j hj, hL 0 h0] at hne
    exact absurd rfl hne
theorem set_swp (N k : Nat) (rv : Nat → Value) (p g q : Value) (hk : k < N) : (((List.range (N + 1)).map (put N rv p)).set k g).set N q = (List.range (N + 1)).map (swp N k rv g q) := by
  apply List.ext_getElem
  · simp
  · intro i h1 h2
    have hi : i < N + 1 := by simpa using h2
    simp only [List.getElem_set, List.getElem_map, List.getElem_range, swp, put]
    by_cases e : N = i
    · subst e; simp
    · by_cases e2 : k = i
      · subst e2; simp [e, show ¬ k = N by omega]
      · simp [e, e2, show ¬ i = N by omega, show ¬ i = k by omega]
set_option maxRecDepth 100000 in
set_option maxHeartbeats 4000000 in
theorem walk (v0 : Value) (N : Nat) (rv : Nat → Value) (n : Nat → Nat) (h : Nat → Nat → Nat) (a : Int) (v2 : Value) (nn : Nat) (fn : Nat → Nat) (W : World) (hm : CameM W v0 N rv n h) (bN : (N : Int) ≤ 140737488351232) (bn : ∀ i, i < N → (n i : Int) ≤ 140737488351232)
    (hw : Came W v2 nn fn) (lw : Lt nn fn) (bw : (nn : Int) ≤ 140737488351232) :
    Calls Try.prog 7 #[v0, .int .i64 a, v2] W fun e w' => e = .returned (.bool true) ∧ Below W.heap.size W w' := by
  have HR := Lib.hid hm.rows
  obtain ⟨av, cv, rfl, hcl⟩ := hm.rows.l
  obtain ⟨an, cn, rfl, -⟩ := hw.form
  have HCL := Lib.hid hcl
  have HBn := Lib.hid bn
  have HNow := Lib.hid hw.bts
  have HLn := Lib.hid lw
  have HLt := Lib.hid (show ∀ i, i < N → ∀ k, k < n i → h i k < 256 from hm.lt)
  have HCap := Lib.hid (show 0 < N → ∃ b o, av = some ⟨b, o, none⟩ ∧ ∀ k, k < N → W.cell? ⟨b, o + k, none⟩ = some (rv k) from fun h0 => by
    rcases hcl with h1 | h1
    · omega
    · exact h1)
  clear hm bn hcl hw lw
  go_enter Try.func7, Try.ntmps7
  go_wp2_with fail
  refine (much_any _ N _ n h _ HR.out bN HBn.out).mono ?_
  rintro e w1 ⟨bl, rfl, hbl, hb⟩
  have HW1 := Lib.hid hb
  have HBl := Lib.hid hbl
  clear hb hbl HBn
  by_cases hgo : bl = false ∧ N ≤ 100
  · obtain ⟨rfl, hN⟩ := hgo
    have htot := HBl.out rfl
    have HL := Lib.hid (show ∀ i, i < N → n i ≤ 200000 from fun i hi => by have := tot_each N n (j := N) hi; omega)
    clear HBl bN htot
    have h100 : ¬ (100 : Int) < N := by omega
    go_wp2_with fail
    refine (of_any _ N _ n h _ (HR.out.keep HW1.out) HL.out (by omega)).mono ?_
    rintro e w2 H
    rcases H with ⟨h0, rfl, hb⟩ | ⟨h0, hall, hown⟩ | ⟨h0, ⟨j, hj, hne⟩, rfl, hb⟩
    · have HW2 := Lib.hid (via HW1.out hb)
      have HN0 := Lib.hid h0
      have t1 : ((N : Int) == 0) = true := by simp [h0]
      clear hb h0 HCap
      go_wp2_with fail
      refine (known_true _).mono ?_
      rintro e w3 ⟨rfl, hb⟩
      have HW3 := Lib.hid (via HW2.out hb)
      clear hb HW2
      go_wp2
      go_ret
      exact ⟨rfl, HW3.out⟩
    · obtain ⟨vp, rfl, ho, hb⟩ := hown
      obtain ⟨L, hL⟩ : ∃ L, n 0 = L := ⟨_, rfl⟩
      have hLb : L ≤ 200000 := by rw [← hL]; exact HL.out 0 h0
      rw [hL] at ho
      have HAll := Lib.hid (show ∀ i, i < N → n i = L from fun i hi => (hall i hi).trans hL)
      obtain ⟨P, hP⟩ : ∃ P, acc (fun _ => 0) h N = P := ⟨_, rfl⟩
      rw [hP] at ho
      have HPe := Lib.hid hP
      have HLP := Lib.hid (show Lt L P from fun k hk => by rw [← hP]; exact acc_lt h k N fun r hr => HLt.out r hr k (by rw [HAll.out r hr]; exact hk))
      have HP2 := Lib.hid ho
      have HW2 := Lib.hid (via HW1.out hb)
      obtain ⟨pa, pc, rfl, -, -⟩ := own_form ho
      clear ho hb hL hall hP HL HW1
      have h0' : 0 < N := h0
      obtain ⟨lb, lo, rfl, hlc⟩ := HCap.out h0'
      have HLC := Lib.hid hlc
      have HForm := Lib.hid (show ∀ i, i < N → ∃ ar cr, rv i = .slice ar L cr from fun i hi => by
        obtain ⟨ar, cr, e⟩ := (HR.out.b i hi).form
        rw [HAll.out i hi] at e
        exact ⟨ar, cr, e⟩)
      clear hlc HCap HCL
      obtain ⟨i1, hi1, hy0, hy1, hy2⟩ := info_parts Try.info25
      go_wp2_with fail
      refine (known_true _).mono ?_
      rintro e w3 ⟨rfl, hb⟩
      have HP3 := Lib.hid (own_keep hb HP2.out)
      have HW3 := Lib.hid (via HW2.out hb)
      clear hb HW2 HP2
      have HLC3 := Lib.hid (show ∀ k, k < N → w3.cell? ⟨lb, lo + k, none⟩ = some (rv k) from fun k hk => by
        rw [HW3.out.cell (p := ⟨lb, lo + k, none⟩) (World.block_lt_of_cell? W _ (HLC.out k hk))]; exact HLC.out k hk)
      have e0 : ∀ q : Nat, (⟨lb, lo, none⟩ : Addr).add q = ⟨lb, lo + q, none⟩ := fun q => by unfold Addr.add; split <;> simp_all
      have E0 := Lib.hid e0
      have HOne := Lib.hid (show ∀ u ∈ (List.range N).map rv, u.oneCell' = true from fun u hu => by
        obtain ⟨r, hr, rfl⟩ := List.mem_map.1 hu
        obtain ⟨ar, cr, e⟩ := HForm.out r (by simpa using hr)
        rw [e]; rfl)
      clear e0
      go_wp2_with (first | (at_builtin; refine wpList_append_own _ rfl _ _ 22 rfl w3.heap.size 25 i1 (.slice none 0 0) 1 24 Try.underlying22 hi1 hy0 hy1 hy2 rfl (by decide) _ 0 [] rfl (World.ownsRow_nil _ _ _ _) ⟨lb, lo, none⟩ N cv ((List.range N).map rv) rfl (by simp) ?c1 HOne.out ?c3 ?c4 (Nat.le_refl _) ?_))
      case c1 =>
        intro q u hq
        rw [E0.out]
        by_cases hlt : q < N
        · simp [hlt] at hq
          subst hq
          exact HLC3.out q hlt
        · rw [List.getElem?_eq_none (by simp; omega)] at hq
          cases hq
      case c3 => unfold maxLen; omega
      case c4 => omega
      intro v4 w4 hown hgr _
      have hb : Below w3.heap.size w3 w4 := (Below.refl _ _).grown hgr (Nat.le_refl _) (fun k hk => by simp [Value.ownBlock] at hk)
      have HO4 := Lib.hid (show w4.ownsRow w3.heap.size 25 1 v4 N ((List.range N).map rv) from by
        have e := hown
        first | exact e | (rw [Nat.zero_add] at e; exact e))
      have HV4 := Lib.hid hb
      have HP4 := Lib.hid (own_keep hb HP3.out)
      clear hown hgr hb
      go_wp2_with (first | (at_builtin; refine wpList_append_own _ rfl _ _ 22 rfl w3.heap.size 25 i1 (.slice none 0 0) 1 24 Try.underlying22 hi1 hy0 hy1 hy2 rfl (by decide) _ N _ rfl (HO4.out.alloc _) ⟨w4.heap.size, 0, none⟩ 1 1 [.slice pa L pc] rfl rfl ?d1 ?d2 ?d3 ?d4 ?d5 ?_))
      case d1 => exact new_cells _ _ _
      case d2 => exact one_cell rfl
      case d3 => unfold maxLen; omega
      case d4 => omega
      case d5 => have h1 := HV4.out.size; simp; omega
      intro v5 w5 hown hgr _
      have hb : Below w3.heap.size w3 w5 := (HV4.out.alloc HV4.out.size _).grown hgr (by have h1 := HV4.out.size; simp; omega) fun k hk => (HO4.out.lt k hk).1
      rw [← map_put] at hown
      obtain ⟨aa, ac, rfl, hac, haa⟩ := own_form hown
      rcases haa with h1 | ⟨ab, rfl⟩
      · omega
      have HO5 := Lib.hid hown
      have HV5 := Lib.hid hb
      have HP5 := Lib.hid (own_keep hb HP3.out)
      have HA5 := Lib.hid (show ∀ w', Below w5.heap.size w5 w' → Rows2 w' (.slice (some ⟨ab, 0, none⟩) (N + 1) ac) (N + 1) (put N rv (.slice pa L pc)) (fun _ => L) (put N h P) from fun w' hb' => by
        have hbw : Below W.heap.size W w' := HW3.out.trans ((hb.trans (hb'.mono hb.size)).mono HW3.out.size)
        refine ⟨ownRws (own_keep hb' hown) fun i hi => by simp [hi], fun i hi => ?_, fun i hi k hk => ?_⟩
        · by_cases e : i = N
          · subst e; rw [put_at, put_at]; exact ownBts (own_keep hb' (own_keep hb HP3.out))
          · rw [put_lt _ _ (by omega), put_lt _ _ (by omega)]
            have := (HR.out.b i (by omega)).keep hbw
            rw [HAll.out i (by omega)] at this
            exact this
        · by_cases e : i = N
          · subst e; rw [put_at]; exact HLP.out k hk
          · rw [put_lt _ _ (by omega)]; exact HLt.out i (by omega) k (by rw [HAll.out i (by omega)]; exact hk))
      have HCe := Lib.hid (show ∀ i, i < N + 1 → ∃ ar cr, put N rv (.slice pa L pc) i = .slice ar L cr ∧ w5.cell? ⟨ab, i, none⟩ = some (.slice ar L cr) from fun i hi => by
        have hc := (own_cell hown (k := i) (u := put N rv (.slice pa L pc) i) (by simp [hi])).1
        by_cases e : i = N
        · subst e; rw [put_at] at hc ⊢; exact ⟨_, _, rfl, hc⟩
        · rw [put_lt _ _ (by omega)] at hc ⊢
          obtain ⟨ar, cr, e2⟩ := HForm.out i (by omega)
          exact ⟨ar, cr, e2, e2 ▸ hc⟩)
      have hab := (hown.lt ab rfl).1
      clear hown hgr hb HO4 HV4 HP4 HLC3
      go_wp2_with fail
      refine ((even_any _ (N + 1) _ _ _ _ (HA5.out _ (Below.refl _ _)) (fun _ _ => hLb) (by omega)).mono fun e w' H => H.ok (f := fun _ => 0) (w0 := w5) (by omega) (fun _ _ => rfl) (by funext x; rw [← HPe.out]; exact acc_all h N x) (Below.refl _ _)).mono ?_
      rw [allZ_true (fun _ _ => rfl)]
      rintro e w6 ⟨rfl, hb⟩
      have HV6 := Lib.hid hb
      clear hb
      go_wp2
      go_loopw [12] (fun s12 wr => ∃ i : Nat, i ≤ N + 1 ∧ s12 = .int .i64 i ∧ Below w5.heap.size w5 wr) (fun s12 _ => N + 1 - (intOf s12).toNat)
      case atStart => exact ⟨0, by omega, rfl, HV6.out⟩
      case round =>
        obtain ⟨i, hi, rfl, hb⟩ := hrel
        have HV := Lib.hid hb
        clear hb
        by_cases hlt : i < N + 1
        · go_wp2_with fail
          refine ((missing_any ab 0 (N + 1) ac _ _ _ _ (HA5.out _ HV.out) i hlt hac (fun _ _ => hLb) (by omega)).mono fun e w' H => H.ok (L := L) (f := put N h P i) (by omega) (fun j _ => by unfold but; split <;> rfl) (by rw [← HPe.out]; exact acc_back h N i (by omega))).mono ?_
          rintro e wa ⟨ma, mc, rfl, hM, hb⟩
          obtain ⟨ar, cr, er, hce⟩ := HCe.out i hlt
          have HM := Lib.hid hM
          have HVa := Lib.hid (via HV.out hb)
          have hrb : Bts wa (.slice ar L cr) L (put N h P i) := by
            have := (HA5.out _ (via HV.out hb)).b i hlt
            rw [er] at this
            exact this
          have hca : wa.cell? ⟨ab, i, none⟩ = some (.slice ar L cr) := by rw [(via HV.out hb).cell (p := ⟨ab, i, none⟩) (World.block_lt_of_cell? w5 _ hce)]; exact hce
          have HRB := Lib.hid hrb
          clear hM hb hrb hce er HV
          go_wp2_with fail
          refine (same_V hLb HM.out HRB.out).mono ?_
          rintro e wb ⟨rfl, hb⟩
          have HVb := Lib.hid (via HVa.out hb)
          clear hb hca HM HRB HVa
          go_wp2
          go_roundw
          case rel => exact ⟨i + 1, by omega, by go_num, HVb.out⟩
          case measure => simp [intOf]; omega
        · have hge : N + 1 ≤ i := by omega
          clear hlt
          obtain ⟨K, hK⟩ : ∃ K, a.tmod (N : Int) = K := ⟨_, rfl⟩
          have hKb := mod_in a N h0
          rw [hK] at hKb
          have hwK : IntKind.i64.wrap K = K := by go_arith
          have hN0 : ¬ (N : Int) = 0 := by omega
          go_upto_if 100 with (fail)
          go_cut [15] (fun s15 wx => ∃ k : Nat, k < N ∧ s15 = .int .i64 k ∧ wx = wr)
          case first =>
            by_cases hneg : K < 0
            · obtain ⟨k, hk⟩ : ∃ k : Nat, K + N = k := ⟨(K + N).toNat, by omega⟩
              have hwk : IntKind.i64.wrap (k : Int) = k := by go_arith
              go_wp2_with fail
              go_meet
              case rel => exact ⟨k, by omega, rfl, rfl⟩
            · obtain ⟨k, rfl⟩ : ∃ k : Nat, K = k := ⟨K.toNat, by omega⟩
              go_wp2_with fail
              go_meet
              case rel => exact ⟨k, by omega, rfl, rfl⟩
          case rest =>
            obtain ⟨k, hk, rfl, rfl⟩ := hcut
            obtain ⟨wr, rfl⟩ : ∃ wr, wr = wc := ⟨_, rfl⟩
            clear hK hKb hwK hN0
            have hbW : Below W.heap.size W wr := HW3.out.trans ((HV5.out.trans (HV.out.mono HV5.out.size)).mono HW3.out.size)
            have hb3 : Below w3.heap.size w3 wr := HV5.out.trans (HV.out.mono HV5.out.size)
            obtain ⟨ark, crk, erk⟩ := HForm.out k hk
            have hlk : wr.cell? ⟨lb, lo + k, none⟩ = some (.slice ark L crk) := by
              rw [hbW.cell (p := ⟨lb, lo + k, none⟩) (World.block_lt_of_cell? W _ (HLC.out k hk)), HLC.out k hk, erk]
            have HERK := Lib.hid erk
            have HB3 := Lib.hid hb3
            have HBW := Lib.hid hbW
            have hWs := HW3.out.size
            have hlbW : lb < W.heap.size := World.block_lt_of_cell? W _ (HLC.out k hk)
            clear hb3 hbW erk
            go_upto_if 109 with (fail)
            go_cut [16] (fun s16 wx => Below w3.heap.size w3 wx)
            case first =>
              by_cases hnn : nn = L
              · obtain rfl : L = nn := hnn.symm
                have t1 : ((L : Int) == (L : Int)) = true := by simp
                clear hnn
                have hbtk : Bts wr (.slice ark L crk) L (h k) := by
                  have := (HR.out.b k hk).keep HBW.out
                  rw [HAll.out k hk, HERK.out] at this
                  exact this
                have HPat := Lib.hid ((patch_any (.slice pa L pc) (.slice ark L crk) (.slice an L cn) (sel3 _ _ _) (fun _ => L) (sel3 P (h k) fn) wr rfl rfl rfl (three (ownBts (own_keep HB3.out HP3.out)) hbtk (HNow.out.keep HBW.out)) (three HLP.out (fun x hx => HLt.out k hk x (by rw [HAll.out k hk]; exact hx)) HLn.out) (fun _ _ => hLb)).mono fun e w' H => OfP.own H (L := L) (by omega) (fun _ _ => rfl) (acc3 P (h k) fn))
                clear hbtk
                go_wp2_with fail
                refine HPat.out.mono ?_
                rintro e wa ⟨vq, rfl, hown, hb⟩
                have hO := own_keep (HV.out.trans (hb.mono HV.out.size)) HO5.out
                have hz1 := HV.out.size
                have hz5 := HV5.out.size
                have hab5 := (HO5.out.lt ab rfl).2
                obtain ⟨d1, d2⟩ := own_cell hO (k := k) (u := put N rv (.slice pa L pc) k) (by rw [List.getElem?_map, List.getElem?_range (by omega)]; rfl)
                obtain ⟨d3, d4⟩ := own_cell hO (k := N) (u := put N rv (.slice pa L pc) N) (by rw [List.getElem?_map, List.getElem?_range (by omega)]; rfl)
                have hqb : vq.ownBlock ≠ some ab := fun e => by have := (hown.lt ab e).1; omega
                have hset := own_set (own_set hO k (.slice an L cn)) N vq
                rw [set_swp N k rv _ _ _ hk] at hset
                have hq2 := ownsRow_setCell_other (ownsRow_setCell_other hown hqb (a := ⟨ab, k, none⟩) (.slice an L cn)) hqb (a := ⟨ab, N, none⟩) vq
                have hbWS : Below W.heap.size W ((wa.setCell ⟨ab, k, none⟩ (.slice an L cn)).setCell ⟨ab, N, none⟩ vq) :=
                  ((HBW.out.trans (hb.mono HBW.out.size)).setCell (by show W.heap.size ≤ ab; omega) _).setCell (by show W.heap.size ≤ ab; omega) _
                have hb3S : Below w3.heap.size w3 ((wa.setCell ⟨ab, k, none⟩ (.slice an L cn)).setCell ⟨ab, N, none⟩ vq) :=
                  ((HB3.out.trans (hb.mono HB3.out.size)).setCell hab _).setCell hab _
                have HEv := Lib.hid ((even_any (.slice (some ⟨ab, 0, none⟩) (N + 1) ac) (N + 1) (swp N k rv (.slice an L cn) vq) (fun _ => L) (swp N k h fn (xo (xo P (h k)) fn)) _ ⟨ownRws hset fun i hi => by simp [hi], fun i hi => by
                  unfold swp
                  by_cases e : i = N
                  · rw [if_pos e, if_pos e]; exact ownBts hq2
                  · rw [if_neg e, if_neg e]
                    by_cases e2 : i = k
                    · rw [if_pos e2, if_pos e2]; exact HNow.out.keep hbWS
                    · rw [if_neg e2, if_neg e2]
                      have := (HR.out.b i (by omega)).keep hbWS
                      rw [HAll.out i (by omega)] at this
                      exact this, fun i hi x hx => by
                  unfold swp
                  by_cases e : i = N
                  · rw [if_pos e]; exact xoLt (xoLt HLP.out (fun x hx => HLt.out k hk x (by rw [HAll.out k hk]; exact hx))) HLn.out x hx
                  · rw [if_neg e]
                    by_cases e2 : i = k
                    · rw [if_pos e2]; exact HLn.out x hx
                    · rw [if_neg e2]; exact HLt.out i (by omega) x (by rw [HAll.out i (by omega)]; exact hx)⟩ (fun _ _ => hLb) (by omega)).mono fun e w' H => H.ok (f := fun _ => 0) (w0 := (wa.setCell ⟨ab, k, none⟩ (.slice an L cn)).setCell ⟨ab, N, none⟩ vq) (by omega) (fun _ _ => rfl) (by funext x; rw [← HPe.out]; exact acc_swp h fn N k x hk) (Below.refl _ _))
                rw [allZ_true (fun _ _ => rfl)] at HEv
                obtain ⟨qa, qc, rfl, -, -⟩ := own_form hown
                have HB3S := Lib.hid hb3S
                have habw : ab < wa.heap.size := by have := hb.size; omega
                have i1 : (k : Int) < (N : Int) + 1 := by omega
                have i2 : (N : Int) < (N : Int) + 1 := by omega
                clear hb hown hO hset hq2 hbWS hb3S hlk HPat hqb hz1 hz5
                go_wp2_with fail
                refine HEv.out.mono ?_
                rintro e wb ⟨rfl, hb⟩
                have HF := Lib.hid (HB3S.out.trans (hb.mono HB3S.out.size))
                clear hb HEv HB3S
                go_wp2_with fail
                go_meet
                case rel => exact HF.out
              · have t1 : ((nn : Int) == (L : Int)) = false := by simp; omega
                go_wp2_with fail
                go_meet
                case rel => exact HB3.out
            case rest =>
              have HC := Lib.hid hcut
              clear hcut hlk HV HB3 HBW
              go_wp2
              go_loopw [18, 19] (fun s18 s19 wr => ∃ j : Nat, j ≤ N ∧ s19 = .int .i64 ((N : Int) - 1 - j) ∧ wr.ownsRow w3.heap.size 25 1 s18 j ((List.range j).map (trd N k rv)) ∧ Below w3.heap.size w3 wr) (fun _ s19 _ => (intOf s19 + 1).toNat)
              case atStart => exact ⟨0, by omega, by simp, World.ownsRow_nil _ _ _ _, HC.out⟩
              case round =>
                obtain ⟨j, hj, rfl, ho, hb⟩ := hrel
                have HO := Lib.hid ho
                have HB := Lib.hid hb
                clear ho hb
                by_cases hlt : j < N
                · obtain ⟨i, hi⟩ : ∃ i : Nat, (N : Int) - 1 - j = i := ⟨N - 1 - j, by omega⟩
                  have hin : i < N := by omega
                  obtain ⟨ari, cri, eri⟩ := HForm.out i hin
                  have hbW : Below W.heap.size W wr := HW3.out.trans (HB.out.mono HW3.out.size)
                  have hli : wr.cell? ⟨lb, lo + i, none⟩ = some (.slice ari L cri) := by
                    rw [hbW.cell (p := ⟨lb, lo + i, none⟩) (World.block_lt_of_cell? W _ (HLC.out i hin)), HLC.out i hin, eri]
                  have HERI := Lib.hid eri
                  have HI := Lib.hid hi
                  rw [hi]
                  clear hbW eri hi
                  go_wp2_with (first | (at_builtin; refine wpList_append_own _ rfl _ _ 22 rfl w3.heap.size 25 i1 (.slice none 0 0) 1 24 Try.underlying22 hi1 hy0 hy1 hy2 rfl (by decide) _ j _ rfl (HO.out.alloc _) ⟨wr.heap.size, 0, none⟩ 1 1 [.slice ari L cri] rfl rfl ?f1 ?f2 ?f3 ?f4 ?f5 ?_))
                  case f1 => exact new_cells _ _ _
                  case f2 => exact one_cell rfl
                  case f3 => unfold maxLen; omega
                  case f4 => omega
                  case f5 => have h1 := HB.out.size; simp; omega
                  intro v' w' hown hgr _
                  have hbel : Below w3.heap.size w3 w' := (HB.out.alloc HB.out.size _).grown hgr (by have h1 := HB.out.size; simp; omega) fun k hk => (HO.out.lt k hk).1
                  have e5 : i = N - 1 - j := by have := HI.out; omega
                  rw [← HERI.out, e5, map_trd N k j rv hlt] at hown
                  have HO2 := Lib.hid hown
                  have HB2 := Lib.hid hbel
                  have HE5 := Lib.hid e5
                  clear hown hgr hbel e5 hli
                  go_wp2
                  go_roundw
                  case rel => exact ⟨j + 1, by omega, (by rw [show ((N : Int) - 1 - ((j + 1 : Nat) : Int)) = (i : Int) - 1 from by have := HI.out; omega]), HO2.out, HB2.out⟩
                  case measure => first | (simp [intOf]; done) | (simp [intOf]; omega)
                · obtain rfl : j = N := by omega
                  have eN : (j : Int) - 1 - (j : Int) = -1 := by omega
                  rw [eN]
                  clear eN
                  have hbW : Below W.heap.size W wr := HW3.out.trans (HB.out.mono HW3.out.size)
                  have hlk : wr.cell? ⟨lb, lo + k, none⟩ = some (.slice ark L crk) := by
                    rw [hbW.cell (p := ⟨lb, lo + k, none⟩) (World.block_lt_of_cell? W _ (HLC.out k hk)), HLC.out k hk, HERK.out]
                  have hlbr : lb < wr.heap.size := World.block_lt_of_cell? _ _ hlk
                  have hu : u18.ownBlock ≠ some lb := fun e => by have := (HO.out.lt lb e).1; omega
                  have HU := Lib.hid hu
                  have hz := HB.out.size
                  have hk0 : (0 : Int) ≤ (k : Int) := by omega
                  have hk1 : (k : Int) < (j : Int) := by omega
                  clear hbW hu
                  have HSl := Lib.hid (show w3.heap.size ≤ wr.heap.size ∧ lb < w3.heap.size from ⟨hz, by omega⟩)
                  go_wp2_with fail
                  go_region_held3 (fun w' => w'.cell? ⟨lb, lo + k, none⟩ = some (.slice ark L crk)) (first | go_keep | (rw [hgrow.cell_far _ (by simp; omega) (Ne.symm HU.out)]; assumption))
                    ((refine step_append_lies _ (by rfl) _ _ _ (by rfl) w3.heap.size 25 i1 _ 1 24 Try.underlying22 hi1 hy0 hy1 hy2 rfl (by omega) u18 j _ (by rfl) ((HO.out.alloc _).drew)
                        ⟨wr.heap.size, 0, none⟩ 2 2 [.slice ark L crk, .slice ark L crk] (by rfl) (by rfl) (World.news_of_block (cs := #[.slice ark L crk, .slice ark L crk]) (t := 25) (fr := (0, 0)) (heap_alloc_new wr _)) (two_cells rfl rfl)
                        (by omega) (by unfold maxLen; omega) (by omega) (by simp; omega) (wr.heap.size + 1) (by simp) ?_; intro gg cap w' hown1 hgrow hat hlt1))
                  have hbel : Below w3.heap.size w3 w' := ((HB.out.alloc HB.out.size _).drew).grown hgrow (by have h1 := HB.out.size; simp; omega) fun k hk => (HO.out.lt k hk).1
                  rw [← HERK.out, map_trd2] at hown1
                  have hrows : Rows2 w' (.slice (some ⟨gg, 0, none⟩) (j + 2) cap) (j + 2) (trd j k rv) (fun _ => L) (trd j k h) := by
                    have hbw : Below W.heap.size W w' := HW3.out.trans (hbel.mono HW3.out.size)
                    have hr1 : ∀ r, r < j → Bts w' (rv r) L (h r) := fun r hr => by
                      have := (HR.out.b r hr).keep hbw
                      rw [HAll.out r hr] at this
                      exact this
                    have hl1 : ∀ r, r < j → Lt L (h r) := fun r hr x hx => HLt.out r hr x (by rw [HAll.out r hr]; exact hx)
                    refine ⟨ownRws hown1 fun i hi => by simp [hi], fun i hi => ?_, fun i hi => ?_⟩
                    · unfold trd
                      by_cases e : i < j
                      · rw [if_pos e, if_pos e]; exact hr1 _ (by omega)
                      · rw [if_neg e, if_neg e]; exact hr1 k hk
                    · unfold trd
                      by_cases e : i < j
                      · rw [if_pos e]; exact hl1 _ (by omega)
                      · rw [if_neg e]; exact hl1 k hk
                  have HRows := Lib.hid hrows
                  have HBf := Lib.hid hbel
                  clear hown1 hgrow hat hbel hrows
                  rename_i hHeld
                  clear hHeld
                  go_wp2_with fail
                  refine ((of_any _ (j + 2) _ _ _ _ HRows.out (fun _ _ => hLb) (by omega)).mono fun e w' H => H.ok (L := L) (f := P) (by omega) (fun _ _ => rfl) (by rw [← HPe.out]; exact acc_trd h j k)).mono ?_
                  rintro e wd ⟨qa2, qc2, rfl, hQ, hb⟩
                  have HQ2 := Lib.hid hQ
                  have HBd := Lib.hid (HBf.out.trans (hb.mono HBf.out.size))
                  clear hQ hb
                  go_wp2_with fail
                  refine (same_V hLb (ownBts (own_keep HBd.out HP3.out)) HQ2.out).mono ?_
                  rintro e we ⟨rfl, hb⟩
                  have HZ := Lib.hid (HW3.out.trans ((HBd.out.trans (hb.mono HBd.out.size)).mono HW3.out.size))
                  clear hb
                  go_wp2
                  go_ret
                  exact ⟨rfl, HZ.out⟩
    · have HW2 := Lib.hid (via HW1.out hb)
      have h1 : (1 : Int) < N := by
        have : j ≠ 0 := fun e => hne (by rw [e])
        omega
      have t1 : ((N : Int) == 0) = false := by simp; omega
      clear hb HCap hne
      go_wp2_with fail
      refine (known_true _).mono ?_
      rintro e w3 ⟨rfl, hb⟩
      have HW3 := Lib.hid (via HW2.out hb)
      clear hb HW2
      go_wp2
      go_ret
      exact ⟨rfl, HW3.out⟩
  · clear HBl HCap
    cases bl with
    | true =>
      go_wp2
      go_ret
      exact ⟨rfl, HW1.out⟩
    | false =>
      have hbig : (100 : Int) < N := by
        have : ¬ N ≤ 100 := fun h => hgo ⟨rfl, h⟩
        omega
      clear hgo
      go_wp2
      go_ret
      exact ⟨rfl, HW1.out⟩
theorem kinds7 : ∀ t ∈ Try.f7.params.toList, Try.prog.readableRec t = true ∧ t < Try.prog.types.size := by
  rw [Try.params7]
  intro t ht
  simp only [List.mem_cons, List.not_mem_nil, or_false] at ht
  rcases ht with rfl | rfl | rfl
  all_goals exact ⟨by kernel_rfl, of_decide_eq_true (by kernel_rfl)⟩
set_option maxRecDepth 100000 in
theorem lifted (os : Os) (started : os.Started) (H : Type) (enc : TypeId × Value → H) :
    ReturnsInHanded {} Try.checked os 7 .any (Rows.xorSolvesSpec.pre6 enc Try.prog Try.f7 Rows.xorSolvesRow.domain false) (Rows.xorSolvesSpec.post enc Try.prog Try.f7 false true false false) := by
  refine returnsInHanded_of_change_sized (C := Try.checked) own started (by kernel_rfl) Try.func7
    (ChangeSpec.witness6 (enc := enc) (C := Try.checked) false ⟨#[], #[.slice none 0 0, .int .i64 0, .slice none 0 0], []⟩ 8 (by kernel_rfl) (by kernel_rfl) (by kernel_rfl) (by kernel_rfl)) ?_
  intro W base args ds gs before hval0 hW hcnd hsz0 _
  have hval : ∀ (j : Nat) t v, Try.f7.params[j]? = some t → args[j]? = some v → Value.okWide Try.prog W .any base t v := hval0
  have hW' := hW
  obtain ⟨p, q, hA0, hV, rfl, hfz, hnd⟩ := hW
  have hA : DataW.TrodAll enc Try.prog W 0 (fun _ => true) true Try.f7.params.toList args.toList ds p := hA0
  have hA1 := hA
  have hsz : (DataW.weightsEach Try.prog (Try.f7.params.toList ++ []) (ds ++ gs)).all (· ≤ reachBytes) = true := hsz0
  rw [Try.params7] at hA hval hsz
  obtain ⟨v0, vs0, d0, ds0, p0, q0, hargs, rfl, rfl, h0, r0⟩ := trodAll_cons hA
  obtain ⟨v1, vs1, d1, ds1, p1, q1, rfl, rfl, rfl, h1, r1⟩ := trodAll_cons r0
  obtain ⟨v2, vs2, d2, ds2, p2, q2, rfl, rfl, rfl, h2, r2⟩ := trodAll_cons r1
  obtain ⟨rfl, rfl, rfl⟩ := trodAll_nil r2
  obtain rfl : args = #[v0, v1, v2] := by cases args; simp_all
  obtain ⟨rfl, rfl⟩ := trodVars_none hV
  obtain ⟨N0, rv0, n0, f0, c0, e0⟩ := open_mat (hval 0 22 v0 rfl rfl) h0
  have b0 := bndM hsz (j := 0) rfl rfl e0
  obtain ⟨a1, rfl, rfl, rfl, w1⟩ := open_int Try.underlying3 (hval 1 3 v1 rfl rfl) h1
  obtain ⟨n2, f2, c2, l2, e2⟩ := open_bts (hval 2 25 v2 rfl rfl) h2
  have b2 := bnd hsz (j := 2) rfl rfl e2
  clear hval0 hsz0
  refine (walk v0 N0 rv0 n0 f0 a1 v2 n2 f2 W c0 b0.1 b0.2 c2 l2 b2).mono fun e W' ⟨he, bel⟩ => ?_
  subst he
  exact ⟨_, rfl, _, _, _, [], _, [], hW', trodAll_mk1 (shut_bool Try.underlying4 _), carryAll laidOut bel _ _ _ _ kinds7 hA1 (fun x hx => hW'.lt x (List.mem_append.2 (.inl hx))), rfl, bel.frame _, fun h => by cases h⟩
theorem proved : Rows.XorSolvesSaid :=
  OpenClaim.holds_of_wide 7 Try.f7 rfl rfl rfl rfl rfl rfl rfl ⟨rfl, rfl, rfl, rfl, rfl⟩ rfl rfl rfl rfl rfl (by kernel_rfl) Try.func7 (by kernel_rfl)
    (of_decide_eq_true (by kernel_rfl)) (by unfold Func.isWrapper; first | (rw [if_pos (by decide +kernel)]; kernel_rfl) | (rw [if_neg (by decide +kernel)]; exact ⟨rfl, rfl⟩))
    (fun os started H enc _ => lifted os started H enc)
#print axioms proved
end Go.Proofs.Ytnjcnnjdogdbdaa.Solves
