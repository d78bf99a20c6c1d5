/- Plain laws of a model's states. Conditions: as stated at each. -/
import Derived.Test.YtgkkmdebpekckaaMr
namespace Go.Proofs.Ytgkkmdebpekckaa
theorem layN_congr {x y : Nat → Nat} (bl : Nat → Nat) (f : Nat → Nat → Nat) (N p : Nat) (h : x p = y p) : layN x bl f N p = layN y bl f N p := by
  induction N with
  | zero => exact h
  | succ N ih => simp only [layN]; rw [ih]
theorem fate_congr {x y : Nat → Nat} {a b : Nat → Bt} (k p : Nat) (h : x p = y p) (hb : ∀ j, j < k → a j = b j) : fate x a k p = fate y b k p := by
  induction k with
  | zero => exact h
  | succ k ih =>
    simp only [fate]
    rw [hb k (by omega)]
    exact layN_congr _ _ _ _ (ih fun j hj => hb j (by omega))
theorem St.ok.write {n : Nat} {s : St} (h : s.ok n) {b : Bt} (hb : b.ok n) : (s.write b).ok n := by
  refine ⟨h.sure, layN_lt h.now _ _ _ hb.f, fun k hk => ?_, noBt_ok n, fun k hk => ?_⟩
  · show (if k = s.L then b else s.bt k).ok n
    by_cases e : k = s.L
    · rw [if_pos e]; exact hb
    · rw [if_neg e]; exact h.bat k (by have : k < s.L + 1 := hk; omega)
  · show layN s.now b.bl b.f b.N k = layN (fate s.sure (fun k => if k = s.L then b else s.bt k) s.L) ((if s.L = s.L then b else s.bt s.L)).bl ((if s.L = s.L then b else s.bt s.L)).f ((if s.L = s.L then b else s.bt s.L)).N k
    rw [if_pos rfl]
    refine layN_congr _ _ _ _ ?_
    rw [h.nowE k hk]
    exact fate_congr _ _ rfl fun j hj => by rw [if_neg (by omega)]
theorem St.ok.mkSure {n : Nat} {s : St} (h : s.ok n) : s.mkSure.ok n := ⟨h.now, h.now, fun _ hk => absurd hk (Nat.not_lt_zero _), h.way, fun _ _ => rfl⟩
theorem St.ok.under {n : Nat} {s : St} (h : s.ok n) {b : Bt} (hb : b.ok n) : (s.under b).ok n := ⟨h.sure, h.now, h.bat, hb, h.nowE⟩
theorem St.ok.wr {n : Nat} {s : St} (h : s.ok n) {a : Ar} (ha : a.lt) : (s.wr n a).ok n := by
  unfold St.wr
  by_cases e : a.chk n = 0 ∧ 0 < a.N
  · rw [if_pos e]; exact h.write ((Ar.taken_of e.1).ok ha)
  · rw [if_neg e]; exact h
theorem St.ok.un {n : Nat} {s : St} (h : s.ok n) {a : Ar} (ha : a.lt) : (s.un n a).ok n := by
  unfold St.un
  by_cases e : a.chk n = 0
  · rw [if_pos e]; exact h.under ((Ar.taken_of e).ok ha)
  · rw [if_neg e]; exact h
/-- What is read now may be found. -/
theorem St.ok.could_now {n : Nat} {s : St} (h : s.ok n) (f : Nat → Nat) (hf : ∀ k, k < 128 * n → f k = s.now k) : s.could n (128 * n) f := by
  refine ⟨s.L, by unfold St.M; omega, eqB_true fun k hk => ?_⟩
  rw [hf k hk, h.nowE k hk]
  exact fate_congr _ _ rfl fun j hj => if_pos hj
/-- What is sure may be found where nothing is loose. -/
theorem St.could_sure {n : Nat} {s : St} (f : Nat → Nat) (hf : ∀ k, k < 128 * n → f k = s.sure k) : s.could n (128 * n) f :=
  ⟨0, Nat.zero_le _, eqB_true fun k hk => (hf k hk).symm⟩
/-- With one loose batch, and none under way, there are two fates. -/
theorem St.ok.could_one {n : Nat} {s : St} (h : s.ok n) (hL : s.L = 1) (hw : s.way.N = 0) (f : Nat → Nat) (h1 : ∃ k, k < 128 * n ∧ f k ≠ s.sure k) (h2 : ∃ k, k < 128 * n ∧ f k ≠ s.now k) : ¬ s.could n (128 * n) f := by
  rintro ⟨j, hj, he⟩
  have hM : s.M = 1 := by simp [St.M, hL, hw]
  simp only [eqB, decide_eq_true_eq] at he
  obtain ⟨_, he⟩ := he
  obtain rfl | rfl : j = 0 ∨ j = 1 := by omega
  · obtain ⟨k, hk, hne⟩ := h1
    exact hne (he k hk).symm
  · obtain ⟨k, hk, hne⟩ := h2
    refine hne ?_
    rw [← he k hk, h.nowE k hk, hL]
    exact fate_congr _ _ rfl fun j hj => by show s.all j = s.bt j; exact if_pos (by omega)
/-- The last that is changed, and the one ahead of it, among the first j. -/
def lastB (c : Nat → Bool) : Nat → Int
  | 0 => -1
  | j + 1 => if c j = true then (j : Int) else lastB c j
def prevB (c : Nat → Bool) : Nat → Int
  | 0 => -1
  | j + 1 => if c j = true then lastB c j else prevB c j
theorem lastB_at (c : Nat → Bool) (j : Nat) : lastB c j = -1 ∨ ∃ k, k < j ∧ lastB c j = (k : Int) ∧ c k = true := by
  induction j with
  | zero => exact .inl rfl
  | succ j ih =>
    simp only [lastB]
    by_cases e : c j = true
    · rw [if_pos e]; exact .inr ⟨j, by omega, rfl, e⟩
    · rw [if_neg e]
      rcases ih with h | ⟨k, h1, h2, h3⟩
      · exact .inl h
      · exact .inr ⟨k, by omega, h2, h3⟩
theorem prevB_at (c : Nat → Bool) (j : Nat) : prevB c j = -1 ∨ ∃ k q, k < q ∧ q < j ∧ lastB c j = (q : Int) ∧ prevB c j = (k : Int) ∧ c k = true ∧ c q = true := by
  induction j with
  | zero => exact .inl rfl
  | succ j ih =>
    simp only [lastB, prevB]
    by_cases e : c j = true
    · rw [if_pos e, if_pos e]
      rcases lastB_at c j with h | ⟨k, h1, h2, h3⟩
      · exact .inl h
      · exact .inr ⟨k, j, h1, by omega, rfl, h2, h3, e⟩
    · rw [if_neg e, if_neg e]
      rcases ih with h | ⟨k, q, h1, h2, h3, h4, h5, h6⟩
      · exact .inl h
      · exact .inr ⟨k, q, h1, by omega, h3, h4, h5, h6⟩
theorem lastB_bd (c : Nat → Bool) (j : Nat) : -1 ≤ lastB c j ∧ lastB c j < j := by
  rcases lastB_at c j with h | ⟨k, h1, h2, _⟩ <;> omega
theorem prevB_bd (c : Nat → Bool) (j : Nat) : -1 ≤ prevB c j ∧ prevB c j < j := by
  rcases prevB_at c j with h | ⟨k, q, h1, h2, h3, h4, _⟩ <;> omega
/-- A block of the bytes: the bytes behind 128 * k. -/
def blkOf (f : Nat → Nat) (k : Nat) (j : Nat) : Nat := f (128 * k + j)
def diffB (f g : Nat → Nat) (k : Nat) : Bool := !eqB 128 128 (blkOf f k) (blkOf g k)
theorem diffB_at {f g : Nat → Nat} {k n : Nat} (h : diffB f g k = true) (hk : k < n) : ∃ p, p < 128 * n ∧ 128 * k ≤ p ∧ p < 128 * k + 128 ∧ f p ≠ g p := by
  by_cases h2 : ∃ j, j < 128 ∧ f (128 * k + j) ≠ g (128 * k + j)
  · obtain ⟨j, h3, h4⟩ := h2
    exact ⟨128 * k + j, by omega, by omega, by omega, h4⟩
  · exfalso
    have h3 : ∀ j, j < 128 → f (128 * k + j) = g (128 * k + j) := fun j hj => by
      by_cases e : f (128 * k + j) = g (128 * k + j)
      · exact e
      · exact absurd ⟨j, hj, e⟩ h2
    have h4 : eqB 128 128 (blkOf f k) (blkOf g k) = true := eqB_true h3
    simp [diffB, h4] at h
/-- The bytes now, with block q as it was. -/
def halfB (was now : Nat → Nat) (q : Nat) (p : Nat) : Nat := if 128 * q ≤ p ∧ p < 128 * q + 128 then was p else now p
theorem half_splice (n q : Nat) (was now : Nat → Nat) (h : q < n) : splice (bytesL (128 * n) now) (128 * q) (bytesL 128 (blkOf was q)) = bytesL (128 * n) (halfB was now q) := by
  apply List.ext_getElem?
  intro p
  rw [splice_get _ _ _ _ (by rw [bytesL_len, bytesL_len]; omega), bytesL_len]
  by_cases hp : p < 128 * n
  · by_cases h1 : 128 * q ≤ p ∧ p < 128 * q + 128
    · rw [if_pos h1, bytesL_get _ _ _ (by omega), bytesL_get _ _ _ hp]
      have e : halfB was now q p = was p := if_pos h1
      rw [e]
      unfold blkOf
      rw [show 128 * q + (p - 128 * q) = p by omega]
    · rw [if_neg h1, bytesL_get _ _ _ hp, bytesL_get _ _ _ hp]
      have e : halfB was now q p = now p := if_neg h1
      rw [e]
  · rw [if_neg (by omega), List.getElem?_eq_none (by rw [bytesL_len]; omega), List.getElem?_eq_none (by rw [bytesL_len]; omega)]
theorem halfB_lt {L : Nat} {was now : Nat → Nat} (h1 : Lt L was) (h2 : Lt L now) (q : Nat) : Lt L (halfB was now q) := by
  intro p hp
  unfold halfB
  split
  · exact h1 p hp
  · exact h2 p hp
theorem half_not {n : Nat} {s : St} (h : s.ok n) (hL : s.L = 1) (hw : s.way.N = 0) {was now : Nat → Nat} (h1 : ∀ k, k < 128 * n → was k = s.sure k) (h2 : ∀ k, k < 128 * n → now k = s.now k) {k q : Nat} (hkq : k < q) (hq : q < n) (dk : diffB was now k = true) (dq : diffB was now q = true) :
    ¬ s.could n (128 * n) (halfB was now q) := by
  obtain ⟨p, p1, p2, p3, p4⟩ := diffB_at dk (show k < n by omega)
  obtain ⟨r, r1, r2, r3, r4⟩ := diffB_at dq hq
  refine h.could_one hL hw _ ⟨p, p1, fun e => ?_⟩ ⟨r, r1, fun e => ?_⟩
  · unfold halfB at e
    rw [if_neg (by omega)] at e
    exact p4 ((h1 p p1).trans e.symm)
  · unfold halfB at e
    rw [if_pos (by omega)] at e
    exact r4 (e.trans (h2 r r1).symm)
end Go.Proofs.Ytgkkmdebpekckaa
