/- For ModelPrefixes: the script that is built, two lists beside each other, what covers the fates. Conditions: as stated at each. -/
import Derived.Test.YtgkkmdebpekckaaMt
namespace Go.Proofs.Ytgkkmdebpekckaa
open Go.RowKit
theorem Try.info27 : (Try.prog.info? 27).map (fun i => (i.zero, i.size, i.bytes)) = some (some (.agg #[.int .i64 0, .int .i64 0, .int .i64 0, .slice none 0 0, .slice none 0 0]), 5, 72) := by kernel_rfl
/-- The cells of a script of writes. -/
def wrC (pv : Nat → Value) (k : Nat) : Value := if k % 5 = 0 then .int .i64 2 else if k % 5 = 3 then pv (k / 5) else if k % 5 = 4 then .slice none 0 0 else .int .i64 0
def wrL (N : Nat) (pv : Nat → Value) : List Value := (List.range (N * 5)).map (wrC pv)
theorem wrL_len (N : Nat) (pv : Nat → Value) : (wrL N pv).length = N * 5 := by simp [wrL]
theorem wrL_get (N : Nat) (pv : Nat → Value) (k : Nat) (h : k < N * 5) : (wrL N pv)[k]? = some (wrC pv k) := by simp [wrL, h]
theorem wrL_snoc (N : Nat) (pv : Nat → Value) : wrL N pv ++ [.int .i64 2, .int .i64 0, .int .i64 0, pv N, .slice none 0 0] = wrL (N + 1) pv := by
  apply List.ext_getElem?
  intro k
  by_cases h1 : k < N * 5
  · rw [List.getElem?_append_left (by rw [wrL_len]; exact h1), wrL_get _ _ _ h1, wrL_get _ _ _ (by omega)]
  · by_cases h2 : k < (N + 1) * 5
    · rw [List.getElem?_append_right (by rw [wrL_len]; omega), wrL_get _ _ _ h2, wrL_len]
      obtain ⟨j, hj, rfl⟩ : ∃ j, j < 5 ∧ k = N * 5 + j := ⟨k - N * 5, by omega, by omega⟩
      rw [show N * 5 + j - N * 5 = j by omega]
      have e1 : (N * 5 + j) % 5 = j := by omega
      have e2 : (N * 5 + j) / 5 = N := by omega
      unfold wrC
      rw [e1, e2]
      match j, hj with
      | 0, _ => rfl
      | 1, _ => rfl
      | 2, _ => rfl
      | 3, _ => rfl
      | 4, _ => rfl
    · rw [List.getElem?_append_right (by rw [wrL_len]; omega), List.getElem?_eq_none (by simp [wrL_len]; omega), List.getElem?_eq_none (by rw [wrL_len]; omega)]
def wrO (bs : Nat → Ar) (i : Nat) : Opc := ⟨2, 0, 0, bs i, 0, fun _ => 0⟩
theorem wr_ops {w : World} {B : Nat} {sv : Value} {N : Nat} {pv : Nat → Value} {bs : Nat → Ar} (h : w.ownsRow B 27 5 sv N (wrL N pv)) (hp : ∀ i, i < N → ArX (fun _ => False) w (pv i) (bs i)) :
    ∃ a cap, sv = .slice a N cap ∧ OpsX (fun _ => False) w a N (wrO bs) pv (fun _ => .slice none 0 0) := by
  obtain ⟨a, cap, rfl, hf⟩ := own_formN h
  refine ⟨a, cap, rfl, ?_, hp, fun i _ => ⟨_, _, rfl, .inl rfl⟩⟩
  rcases hf with h0 | ⟨g, rfl⟩
  · exact .inl h0
  · refine .inr ⟨g, 0, rfl, id, fun i hi => ?_⟩
    have hc : ∀ j, j < 5 → w.cell? ⟨g, 0 + (i * 5 + j), none⟩ = some (wrC pv (i * 5 + j)) := fun j hj => by
      have := h.cells (g := g) rfl (i * 5 + j) _ (wrL_get N pv _ (by omega))
      rwa [addk] at this
    have e : ∀ j, j < 5 → wrC pv (i * 5 + j) = if j = 0 then .int .i64 2 else if j = 3 then pv i else if j = 4 then .slice none 0 0 else .int .i64 0 := fun j hj => by
      unfold wrC
      rw [show (i * 5 + j) % 5 = j by omega, show (i * 5 + j) / 5 = i by omega]
    refine ⟨?_, ?_, ?_, ?_, ?_⟩
    · have := hc 0 (by omega); rw [e 0 (by omega)] at this; exact this
    · have := hc 1 (by omega); rw [e 1 (by omega)] at this; rw [Nat.add_assoc]; exact this
    · have := hc 2 (by omega); rw [e 2 (by omega)] at this; rw [Nat.add_assoc]; exact this
    · have := hc 3 (by omega); rw [e 3 (by omega)] at this; rw [Nat.add_assoc]; exact this
    · have := hc 4 (by omega); rw [e 4 (by omega)] at this; rw [Nat.add_assoc]; exact this
/-- A list that is kept, while what S names is written. -/
theorem Lst.past {Y Y' S : Nat → Prop} {w w1 : World} {B : Nat} {lv : Value} {N : Nat} {rv : Nat → Value} {L : Nat} {F : Nat → Nat → Nat} (h : Lst Y w B lv N rv L F) (ho : Out S w w1) (hS : ∀ k, k < w.heap.size → S k → Y k) (hz : ∀ k, Y' k → Y k ∨ w.heap.size ≤ k) : Lst Y' w1 B lv N rv L F := by
  have h1 : Lst (fun k => Y k ∨ w.heap.size ≤ k) w B lv N rv L F := h.mono fun k hk e => e.elim id fun e => by omega
  exact (h1.out ho fun k hk e => .inl (hS k hk e)).mono fun k _ e => hz k e
/-- s' has come of s by batches behind it. -/
structure Ext (s s' : St) : Prop where
  sure : s'.sure = s.sure
  L : s.L ≤ s'.L
  bt : ∀ k, k < s.L → s'.bt k = s.bt k
theorem Ext.refl (s : St) : Ext s s := ⟨rfl, Nat.le_refl _, fun _ _ => rfl⟩
theorem Ext.trans {a b c : St} (h : Ext a b) (k : Ext b c) : Ext a c := ⟨k.sure.trans h.sure, Nat.le_trans h.L k.L, fun i hi => (k.bt i (Nat.lt_of_lt_of_le hi h.L)).trans (h.bt i hi)⟩
theorem Ext.wr (s : St) (n : Nat) (a : Ar) : Ext s (s.wr n a) := by
  unfold St.wr
  by_cases e : a.chk n = 0 ∧ 0 < a.N
  · rw [if_pos e]
    exact ⟨rfl, Nat.le_succ _, fun k hk => if_neg (by omega)⟩
  · rw [if_neg e]; exact Ext.refl s
theorem could_ext {n : Nat} {s s' : St} (h : s.ok n) (he : Ext s s') : s'.could n (128 * n) s.now := by
  refine ⟨s.L, by unfold St.M; have := he.L; omega, eqB_true fun k hk => ?_⟩
  rw [h.nowE k hk, he.sure]
  exact fate_congr _ _ rfl fun j hj => by
    have e : s'.all j = s'.bt j := if_pos (Nat.lt_of_lt_of_le hj he.L)
    rw [e, he.bt j hj]
def Past (n : Nat) (s : St) (f : Nat → Nat) : Prop := ∃ s' : St, s'.ok n ∧ Ext s' s ∧ f = s'.now
def AllF (P : (Nat → Nat) → Prop) (N : Nat) (F : Nat → Nat → Nat) : Prop := ∀ i, i < N → P (F i)
theorem AllF.push {P : (Nat → Nat) → Prop} {N : Nat} {F : Nat → Nat → Nat} {f : Nat → Nat} (h : AllF P N F) (hf : P f) : AllF P (N + 1) (putF N F f) := fun i hi => by
  by_cases e : i = N
  · subst e; rw [putF_at]; exact hf
  · rw [putF_lt _ _ (by omega)]; exact h i (by omega)
theorem AllF.mono {P Q : (Nat → Nat) → Prop} {N : Nat} {F : Nat → Nat → Nat} (h : AllF P N F) (hq : ∀ f, P f → Q f) : AllF Q N F := fun i hi => hq _ (h i hi)
theorem Past.ext {n : Nat} {s s' : St} {f : Nat → Nat} (h : Past n s f) (he : Ext s s') : Past n s' f := by
  obtain ⟨t, h1, h2, h3⟩ := h
  exact ⟨t, h1, h2.trans he, h3⟩
theorem Past.now {n : Nat} {s : St} (h : s.ok n) : Past n s s.now := ⟨s, h, Ext.refl s, rfl⟩
theorem Past.could {n : Nat} {s : St} {f : Nat → Nat} (h : Past n s f) : s.could n (128 * n) f := by
  obtain ⟨t, h1, h2, rfl⟩ := h
  exact could_ext h1 h2
theorem Past.lt {n : Nat} {s : St} {f : Nat → Nat} (h : Past n s f) : Lt (128 * n) f := by
  obtain ⟨t, h1, h2, rfl⟩ := h
  exact h1.now
/-- The first c fates are among the rows. -/
def Cov (n : Nat) (s : St) (N : Nat) (F : Nat → Nat → Nat) (c : Nat) : Prop := ∀ j, j < c → ∃ i, i < N ∧ ∀ p, p < 128 * n → F i p = fate s.sure s.bt j p
theorem Cov.push {n : Nat} {s : St} {N : Nat} {F : Nat → Nat → Nat} (h : Cov n s N F s.L) (hs : s.ok n) : Cov n s (N + 1) (putF N F s.now) (s.L + 1) := fun j hj => by
  by_cases e : j = s.L
  · subst e
    exact ⟨N, by omega, fun p hp => by rw [putF_at]; exact hs.nowE p hp⟩
  · obtain ⟨i, hi, h1⟩ := h j (by omega)
    exact ⟨i, by omega, fun p hp => by rw [putF_lt _ _ hi]; exact h1 p hp⟩
theorem Cov.wr {n : Nat} {s : St} {N : Nat} {F : Nat → Nat → Nat} (h : Cov n s N F (s.L + 1)) (a : Ar) : Cov n (s.wr n a) N F (s.wr n a).L := fun j hj => by
  have he := Ext.wr s n a
  have hL : (s.wr n a).L ≤ s.L + 1 := by
    unfold St.wr
    by_cases e : a.chk n = 0 ∧ 0 < a.N
    · rw [if_pos e]; exact Nat.le_refl _
    · rw [if_neg e]; exact Nat.le_succ _
  obtain ⟨i, hi, h1⟩ := h j (by omega)
  refine ⟨i, hi, fun p hp => ?_⟩
  rw [h1 p hp, he.sure]
  exact (fate_congr _ _ rfl fun q hq => (he.bt q (by omega)).symm)
theorem could_cov {n : Nat} {s : St} {N : Nat} {F : Nat → Nat → Nat} (hw : s.way.N = 0) (h : Cov n s N F (s.L + 1)) (hp : AllF (Past n s) N F) (f : Nat → Nat) : s.could n (128 * n) f ↔ anyB N (fun i => eqB (128 * n) (128 * n) f (F i)) = true := by
  constructor
  · rintro ⟨j, hj, he⟩
    have hM : s.M = s.L := by simp [St.M, hw]
    obtain ⟨i, hi, h1⟩ := h j (by omega)
    refine anyB_true i hi ?_
    simp only [eqB, decide_eq_true_eq] at he
    refine eqB_true fun k hk => ?_
    rw [← he.2 k hk, h1 k hk]
    exact fate_congr _ _ rfl fun q hq => if_pos (by omega)
  · intro h2
    simp only [anyB, List.any_eq_true, List.mem_range] at h2
    obtain ⟨i, hi, h3⟩ := h2
    obtain ⟨j, hj, h4⟩ := (hp i hi).could
    refine ⟨j, hj, ?_⟩
    simp only [eqB, decide_eq_true_eq] at h3 h4 ⊢
    exact ⟨trivial, fun k hk => (h4.2 k hk).trans (h3.2 k hk).symm⟩
theorem wr_small (n : Nat) (s : St) (a : Ar) : (s.wr n a).many + (s.wr n a).L ≤ s.many + s.L + 1 ∧ ((s.way.N = 0) → (s.wr n a).way.N = 0) := by
  unfold St.wr
  by_cases e : a.chk n = 0 ∧ 0 < a.N
  · rw [if_pos e]; exact ⟨Nat.le_refl _, fun _ => rfl⟩
  · rw [if_neg e]; exact ⟨Nat.le_succ _, id⟩
end Go.Proofs.Ytgkkmdebpekckaa
