/- Lists of byte lists that the law itself grows. Conditions: as stated at each. -/
import Derived.Test.YtgkkmdebpekckaaMs
namespace Go.Proofs.Ytgkkmdebpekckaa
open Go.RowKit
/-- A list lv of N byte lists of length L each; it lies at or beyond B, and outside the blocks Z. -/
structure Lst (Z : Nat → Prop) (w : World) (B : Nat) (lv : Value) (N : Nat) (rv : Nat → Value) (L : Nat) (F : Nat → Nat → Nat) : Prop where
  own : w.ownsRow B 25 1 lv N ((List.range N).map rv)
  nz : ∀ k, lv.ownBlock = some k → ¬ Z k
  row : ∀ i, i < N → BtsX (fun k => Z k ∨ lv.ownBlock = some k) w (rv i) L (F i)
theorem Lst.nil (Z : Nat → Prop) (w : World) (B L : Nat) (rv : Nat → Value) (F : Nat → Nat → Nat) : Lst Z w B (.slice none 0 0) 0 rv L F :=
  ⟨World.ownsRow_nil _ _ _ _, fun k hk => (by cases hk), fun _ h => absurd h (Nat.not_lt_zero _)⟩
theorem Lst.out {Z S : Nat → Prop} {w w1 : World} {B : Nat} {lv : Value} {N : Nat} {rv : Nat → Value} {L : Nat} {F : Nat → Nat → Nat} (h : Lst Z w B lv N rv L F) (ho : Out S w w1) (hS : ∀ k, k < w.heap.size → S k → Z k) : Lst Z w1 B lv N rv L F :=
  ⟨ho.own h.own fun k hk hs => h.nz k hk (hS k (h.own.lt k hk).2 hs), h.nz, fun i hi => (h.row i hi).out ho fun k hk hs => .inl (hS k hk hs)⟩
theorem Lst.keep {Z : Nat → Prop} {w w1 : World} {B : Nat} {lv : Value} {N : Nat} {rv : Nat → Value} {L : Nat} {F : Nat → Nat → Nat} (h : Lst Z w B lv N rv L F) (hb : Below w.heap.size w w1) : Lst Z w1 B lv N rv L F :=
  h.out (Out.of_below (S := fun _ => False) hb) (fun _ _ h => h.elim)
/-- The blocks to be kept away from may be others, as long as they are new. -/
theorem Lst.mono {Z Z' : Nat → Prop} {w : World} {B : Nat} {lv : Value} {N : Nat} {rv : Nat → Value} {L : Nat} {F : Nat → Nat → Nat} (h : Lst Z w B lv N rv L F) (hz : ∀ k, k < w.heap.size → Z' k → Z k) : Lst Z' w B lv N rv L F :=
  ⟨h.own, fun k hk hs => h.nz k hk (hz k (h.own.lt k hk).2 hs), fun i hi => (h.row i hi).mono fun k hk e => e.imp (hz k hk) id⟩
theorem Lst.mut {Z Z' : Nat → Prop} {w w1 : World} {B : Nat} {lv : Value} {N : Nat} {rv : Nat → Value} {L : Nat} {F : Nat → Nat → Nat} (h : Lst Z w B lv N rv L F) (ho : Out Z w w1) (hz : ∀ k, Z' k → Z k ∨ w.heap.size ≤ k) : Lst Z' w1 B lv N rv L F := by
  have h1 : Lst (fun k => Z k ∨ w.heap.size ≤ k) w B lv N rv L F := h.mono fun k hk e => e.elim id fun e => by omega
  exact (h1.out ho fun _ _ e => .inl e).mono fun k _ e => hz k e
def putF {α : Type} (N : Nat) (f : Nat → α) (x : α) (i : Nat) : α := if i = N then x else f i
theorem putF_at {α : Type} (N : Nat) (f : Nat → α) (x : α) : putF N f x N = x := if_pos rfl
theorem putF_lt {α : Type} {N i : Nat} (f : Nat → α) (x : α) (h : i < N) : putF N f x i = f i := if_neg (by omega)
theorem Lst.push {Z : Nat → Prop} {w w' : World} {B : Nat} {lv lv' : Value} {N : Nat} {rv : Nat → Value} {L : Nat} {F : Nat → Nat → Nat} {x : Value} {fx : Nat → Nat} {o : Obj} (h : Lst Z w B lv N rv L F)
    (hx : BtsX (fun k => Z k ∨ lv.ownBlock = some k) w x L fx) (hz : ∀ k, Z k → k < w.heap.size) (hl : w'.ownsRow B 25 1 lv' (N + 1) ((List.range N).map rv ++ [x])) (ht : Two (w.heap.size + 1) (w.alloc o) lv N 1 lv' w') :
    Lst Z w' B lv' (N + 1) (putF N rv x) L (putF N F fx) ∧ Out (fun k => lv.ownBlock = some k) w w' ∧ ∀ k, lv'.ownBlock = some k → lv.ownBlock = some k ∨ w.heap.size ≤ k := by
  have hbl : ∀ k, lv'.ownBlock = some k → lv.ownBlock = some k ∨ w.heap.size ≤ k := fun k hk => (ht.block hk).imp id fun e => by omega
  have ho : Out (fun k => lv.ownBlock = some k) w w' := ht.out ((Out.refl _ _).alloc o) fun k hk _ => hk
  refine ⟨⟨?_, fun k hk hs => ?_, fun i hi => ?_⟩, ho, hbl⟩
  · have e : (List.range (N + 1)).map (putF N rv x) = (List.range N).map rv ++ [x] := map_snoc N rv x
    rw [e]; exact hl
  · rcases hbl k hk with h1 | h1
    · exact h.nz k h1 hs
    · have := hz k hs; omega
  · have key : BtsX (fun k => Z k ∨ lv.ownBlock = some k) w (putF N rv x i) L (putF N F fx i) := by
      by_cases e : i = N
      · subst e; rw [putF_at, putF_at]; exact hx
      · rw [putF_lt _ _ (by omega), putF_lt _ _ (by omega)]; exact h.row i (by omega)
    have key2 : BtsX (fun k => (Z k ∨ lv.ownBlock = some k) ∨ w.heap.size ≤ k) w (putF N rv x i) L (putF N F fx i) := key.mono fun k hk e => e.elim id fun e => by omega
    refine (key2.out ho fun k _ e => .inl (.inr e)).mono fun k _ e => ?_
    rcases e with e | e
    · exact .inl (.inl e)
    · exact (hbl k e).imp .inr id
/-- What is read of element i. -/
theorem Lst.cell {Z : Nat → Prop} {w : World} {B : Nat} {g cap : Nat} {N : Nat} {rv : Nat → Value} {L : Nat} {F : Nat → Nat → Nat} (h : Lst Z w B (.slice (some ⟨g, 0, none⟩) N cap) N rv L F) {i : Nat} (hi : i < N) : w.cell? ⟨g, i, none⟩ = some (rv i) :=
  (own_cell h.own (by simp [hi])).1
theorem Lst.form {Z : Nat → Prop} {w : World} {B : Nat} {lv : Value} {N : Nat} {rv : Nat → Value} {L : Nat} {F : Nat → Nat → Nat} (h : Lst Z w B lv N rv L F) : ∃ a cap, lv = .slice a N cap ∧ N ≤ cap ∧ (N = 0 ∨ ∃ g, a = some ⟨g, 0, none⟩) := own_form h.own
theorem Lst.rform {Z : Nat → Prop} {w : World} {B : Nat} {lv : Value} {N : Nat} {rv : Nat → Value} {L : Nat} {F : Nat → Nat → Nat} (h : Lst Z w B lv N rv L F) {i : Nat} (hi : i < N) : ∃ a cap, rv i = .slice a L cap := by
  obtain ⟨a, c, e, _⟩ := h.row i hi
  exact ⟨a, c, e⟩
/-- The model in its surroundings: all that is its own is new. -/
structure Env (Z : Nat → Prop) (W w : World) (m n : Nat) (s : St) : Prop where
  mdl : MdlAt Z w m n s
  zb : ∀ k, Z k → W.heap.size ≤ k
  bel : Below W.heap.size W w
theorem Env.out {Z S : Nat → Prop} {W w w1 : World} {m n : Nat} {s : St} (h : Env Z W w m n s) (ho : Out S w w1) (hS : ∀ k, S k → W.heap.size ≤ k) (hZ : ∀ k, S k → ¬ Z k) : Env Z W w1 m n s :=
  ⟨h.mdl.out ho fun k _ hs => hZ k hs, h.zb, h.bel.trans (ho.below (fun k _ hk => hS k hk) h.bel.size)⟩
theorem Env.keep {Z : Nat → Prop} {W w w1 : World} {m n : Nat} {s : St} (h : Env Z W w m n s) (hb : Below w.heap.size w w1) : Env Z W w1 m n s :=
  ⟨h.mdl.keep hb, h.zb, h.bel.trans (hb.mono h.bel.size)⟩
theorem Env.mut {Z Z' : Nat → Prop} {W w w1 : World} {m n : Nat} {s s' : St} (h : Env Z W w m n s) (hm : MdlAt Z' w1 m n s') (ho : Out Z w w1) (hz : ∀ k, Z' k → Z k ∨ w.heap.size ≤ k) : Env Z' W w1 m n s' := by
  have hs := h.bel.size
  exact ⟨hm, fun k hk => (hz k hk).elim (h.zb k) (fun e => by omega), h.bel.trans (ho.below (fun k _ hk => h.zb k hk) hs)⟩
/-- One more list in it: the model stays. -/
theorem Env.pushed {Z : Nat → Prop} {W w w' : World} {m n : Nat} {s : St} {lv : Value} {N : Nat} {rv : Nat → Value} {L : Nat} {F : Nat → Nat → Nat} (h : Env Z W w m n s) (hl : Lst Z w W.heap.size lv N rv L F) (ho : Out (fun k => lv.ownBlock = some k) w w') : Env Z W w' m n s :=
  h.out ho (fun k hk => (hl.own.lt k hk).1) (fun k hk => hl.nz k hk)
theorem btsX_mut {Z Z' : Nat → Prop} {w w1 : World} {v : Value} {n : Nat} {f : Nat → Nat} (h : BtsX Z w v n f) (ho : Out Z w w1) (hz : ∀ k, Z' k → Z k ∨ w.heap.size ≤ k) : BtsX Z' w1 v n f := by
  have h1 : BtsX (fun k => Z k ∨ w.heap.size ≤ k) w v n f := h.mono fun k hk e => e.elim id fun e => by omega
  exact (h1.out ho fun _ _ e => .inl e).mono fun k _ e => hz k e
theorem btsX_keep {Z : Nat → Prop} {w w1 : World} {v : Value} {n : Nat} {f : Nat → Nat} (h : BtsX Z w v n f) (hb : Below w.heap.size w w1) : BtsX Z w1 v n f :=
  h.out (Out.of_below (S := fun _ => False) hb) (fun _ _ h => h.elim)
def ReadAllP (n : Nat) (s : St) (w : World) (e : Ending) (w' : World) : Prop :=
  ∃ a c, e = .returned (.tuple #[.slice a (128 * n) c, .int .u16 0]) ∧ w'.ownsRow w.heap.size 5 1 (.slice a (128 * n) c) (128 * n) (bytesL (128 * n) s.now) ∧ 128 * n ≤ c ∧ Below w.heap.size w w'
theorem read_all (Z : Nat → Prop) (m n : Nat) (s : St) (w : World) (h : MdlAt Z w m n s) (hn : n ≤ 61440) : Calls Try.prog 11 #[.pointer (some ⟨m, 0, none⟩), .int .i64 0, .int .i64 n] w (ReadAllP n s w) := by
  refine (read_ok Z m n s 0 n w h hn (by omega)).mono ?_
  rintro e w' ⟨v, rfl, ho, hb⟩
  obtain ⟨a, c, rfl, hcap, -⟩ := own_form ho
  have e : (fun j => s.now (128 * 0 + j)) = s.now := by funext j; rw [Nat.mul_zero, Nat.zero_add]
  rw [e] at ho
  exact ⟨a, c, rfl, ho, hcap, hb⟩
/-- A fresh row, seen beside a list. -/
theorem fresh_L {Z : Nat → Prop} {w w1 : World} {B : Nat} {lv : Value} {N : Nat} {rv : Nat → Value} {L : Nat} {F : Nat → Nat → Nat} (h : Lst Z w B lv N rv L F) (hz : ∀ k, Z k → k < w.heap.size) {v : Value} {f : Nat → Nat} {n : Nat} (ho : w1.ownsRow w.heap.size 5 1 v n (bytesL n f)) :
    BtsX (fun k => Z k ∨ lv.ownBlock = some k) w1 v n f :=
  own_btsX ho fun q hq e => by
    have h1 := (ho.lt q hq).1
    rcases e with e | e
    · have := hz q e; omega
    · have := (h.own.lt q e).2; omega
theorem fresh_X {Z : Nat → Prop} {w w1 : World} {v : Value} {n : Nat} {f : Nat → Nat} (hz : ∀ k, Z k → k < w.heap.size) (ho : w1.ownsRow w.heap.size 5 1 v n (bytesL n f)) : BtsX Z w1 v n f :=
  own_btsX ho fun q hq h => by have h1 := (ho.lt q hq).1; have := hz q h; omega
end Go.Proofs.Ytgkkmdebpekckaa
