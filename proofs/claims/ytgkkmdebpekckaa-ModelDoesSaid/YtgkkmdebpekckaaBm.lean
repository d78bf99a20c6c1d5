/- A book, told by where its lists lie: Bytes (or its like), Own. Conditions: as stated at each. -/
import Derived.Test.YtgkkmdebpekckaaBo
namespace Go.Proofs.Ytgkkmdebpekckaa
open Go.RowKit
/-- A book of N lists, which lie where P says; its list of lists lies where Q says. -/
def Bk (w : World) (bk N : Nat) (P Q : Nat → Prop) : Prop :=
  ∃ lv v n F, BookS w bk lv N v n F ∧ (∀ r, r < N → n r ≤ 1099511627776) ∧ (∀ r, r < N → ∀ k, (v r).ownBlock = some k → P k) ∧ ∀ k, lv.ownBlock = some k → Q k
theorem Bk.start {w : World} {bk : Nat} (h : w.heap[bk]? = some (.cells (bkCells (.slice none 0 0)) 64 (0, 0))) : Bk w bk 0 (fun _ => False) (fun _ => False) :=
  ⟨_, _, _, _, BookS.start h, fun _ h => absurd h (Nat.not_lt_zero _), fun _ h => absurd h (Nat.not_lt_zero _), fun k hk => by cases hk⟩
theorem Bk.mono {w : World} {bk N : Nat} {P Q P' Q' : Nat → Prop} (h : Bk w bk N P Q) (hP : ∀ k, k < w.heap.size → P k → P' k) (hQ : ∀ k, k < w.heap.size → Q k → Q' k) : Bk w bk N P' Q' := by
  obtain ⟨lv, v, n, F, hB, h1, h2, h3⟩ := h
  obtain ⟨z1, z2, z3⟩ := hB.lt
  exact ⟨lv, v, n, F, hB, h1, fun r hr k hk => hP k (z3 r hr k hk) (h2 r hr k hk), fun k hk => hQ k (z2 k hk) (h3 k hk)⟩
theorem Bk.out {S : Nat → Prop} {w w1 : World} {bk N : Nat} {P Q : Nat → Prop} (h : Bk w bk N P Q) (ho : Out S w w1) (h1 : ¬ S bk) (h2 : ∀ k, P k → ¬ S k) (h3 : ∀ k, Q k → ¬ S k) : Bk w1 bk N P Q := by
  obtain ⟨lv, v, n, F, hB, q1, q2, q3⟩ := h
  exact ⟨lv, v, n, F, hB.out ho h1 (fun k hk => h3 k (q3 k hk)) (fun r hr k hk => h2 k (q2 r hr k hk)), q1, q2, q3⟩
theorem Bk.keep {w w1 : World} {bk N : Nat} {P Q : Nat → Prop} (h : Bk w bk N P Q) (hb : Below w.heap.size w w1) : Bk w1 bk N P Q :=
  h.out (S := fun _ => False) (Out.of_below hb) id (fun _ _ => id) (fun _ _ => id)
theorem Bk.lt {w : World} {bk N : Nat} {P Q : Nat → Prop} (h : Bk w bk N P Q) : bk < w.heap.size := by
  obtain ⟨lv, v, n, F, hB, _⟩ := h
  exact hB.lt.1
def BkP (w : World) (bk N : Nat) (P Q : Nat → Prop) (x : Value) (e : Ending) (w' : World) : Prop :=
  e = .returned (.tuple #[]) ∧ Bk w' bk (N + 1) (fun k => P k ∨ x.ownBlock = some k) (fun k => Q k ∨ w.heap.size ≤ k) ∧ Out (fun k => k = bk ∨ Q k) w w'
theorem bk_put {w : World} {bk N m : Nat} {P Q : Nat → Prop} {x : Value} {G : Nat → Int} {B : Nat} (h : Bk w bk N P Q) (hx : w.ownsRow B 5 1 x m (rowL .u8 m G)) (hm : m ≤ 1099511627776) (hn : ∀ k, x.ownBlock = some k → k ≠ bk ∧ ¬ P k ∧ ¬ Q k) (hN : N ≤ 1000000) :
    Calls Try.prog 41 #[.pointer (some ⟨bk, 0, none⟩), x] w (BkP w bk N P Q x) := by
  obtain ⟨lv, v, n, F, hB, q1, q2, q3⟩ := h
  refine (book_put bk N m lv x v n F G w hB (own_base0 hx) (fun k hk => ⟨(hn k hk).1, fun e => (hn k hk).2.2 (q3 k e), fun r hr e => (hn k hk).2.1 (q2 r hr k e)⟩) hN).mono fun e w' ⟨he, ho, lv', hB', hl⟩ => ⟨he, ⟨lv', _, _, _, hB', fun r hr => ?_, fun r hr k hk => ?_, fun k hk => ?_⟩, ho.mono fun k _ hk => hk.elim .inl fun h => .inr (q3 k h)⟩
  · by_cases e : r = N
    · subst e; rw [put_at]; exact hm
    · rw [put_lt _ _ (by omega)]; exact q1 r (by omega)
  · by_cases e : r = N
    · subst e; rw [put_at] at hk; exact .inr hk
    · rw [put_lt _ _ (by omega)] at hk; exact .inl (q2 r (by omega) k hk)
  · exact (hl k hk).elim (fun h => .inl (q3 k h)) .inr
def BkO (w : World) (P : Nat → Prop) (e : Ending) (w' : World) : Prop := e = .returned (.bool true) ∧ Out P w w'
theorem bk_own {w : World} {bk N : Nat} {P Q : Nat → Prop} (h : Bk w bk N P Q) (hN : N ≤ 1000000) : Calls Try.prog 20 #[.pointer (some ⟨bk, 0, none⟩)] w (BkO w P) := by
  obtain ⟨lv, v, n, F, hB, q1, q2, q3⟩ := h
  exact (book_own bk N lv v n F w hB hN q1).mono fun e w' ⟨he, ho⟩ => ⟨he, ho.mono fun k _ ⟨r, hr, hk⟩ => q2 r hr k hk⟩
end Go.Proofs.Ytgkkmdebpekckaa
