/- The reference's states against the model's; both, with the book, in one invariant. Conditions: as stated at each. -/
import Derived.Test.YtgkkmdebpekckaaNq
namespace Go.Proofs.Ytgkkmdebpekckaa
open Go.RowKit Go.Shelf
theorem fate_same {x : Nat → Nat} {a b : Nat → Bt} (k : Nat) (h : ∀ j, j < k → a j = b j) : fate x a k = fate x b k := by
  funext p
  exact fate_congr k p rfl h
theorem Rf.write_st (s : Rf) (b : Bt) (hm : s.many ≤ s.NB) : (s.write b).st = s.st.write b := by
  have e1 : (fun k => (s.write b).rb (s.many + k)) = fun k => if k = s.NB - s.many then b else s.rb (s.many + k) := by
    funext k
    show (if s.many + k = s.NB then b else s.rb (s.many + k)) = _
    by_cases e : k = s.NB - s.many
    · rw [if_pos e, if_pos (by omega)]
    · rw [if_neg e, if_neg (by omega)]
  have e2 : s.NB + 1 - s.many = s.NB - s.many + 1 := by omega
  have e3 : fate s.x0 (s.write b).rb s.many = fate s.x0 s.rb s.many := fate_same _ fun j hj => if_neg (by omega)
  have e4 : fate s.x0 (s.write b).rb (s.NB + 1) = layN (fate s.x0 s.rb s.NB) b.bl b.f b.N := by
    show layN (fate s.x0 (s.write b).rb s.NB) ((s.write b).rb s.NB).bl ((s.write b).rb s.NB).f ((s.write b).rb s.NB).N = _
    have e5 : (s.write b).rb s.NB = b := if_pos rfl
    have e6 : fate s.x0 (s.write b).rb s.NB = fate s.x0 s.rb s.NB := fate_same _ fun j hj => if_neg (by omega)
    rw [e5, e6]
  show St.mk s.many (s.NB + 1 - s.many) (fun k => (s.write b).rb (s.many + k)) noBt (fate s.x0 (s.write b).rb s.many) (fate s.x0 (s.write b).rb (s.NB + 1)) = _
  rw [e1, e2, e3, e4]
  rfl
theorem Rf.under_st (s : Rf) (b : Bt) : (s.under b).st = s.st.under b := rfl
theorem Rf.crash_st (x : Nat → Nat) : (Rf.crash x).st = St.start x := rfl
theorem Rf.start_st : Rf.start.st = St.start fun _ => 0 := rfl
/-- Two states that are alike as far as anything looks. -/
structure St.like (s t : St) : Prop where
  many : s.many = t.many
  L : s.L = t.L
  bt : ∀ k, k < s.L → s.bt k = t.bt k
  way : s.way = t.way
  sure : s.sure = t.sure
  now : s.now = t.now
theorem MdlAt.like {Z : Nat → Prop} {w : World} {m n : Nat} {s t : St} (h : MdlAt Z w m n s) (e : s.like t) : MdlAt Z w m n t := by
  obtain ⟨_, _, _, _, _, _, _, h⟩ := h
  refine ⟨_, _, _, _, _, _, _, ⟨by rw [← e.many]; exact h.blk, by rw [← e.sure]; exact h.sure, by rw [← e.now]; exact h.now, by rw [← e.L]; exact h.loose, fun k hk => ?_, by rw [← e.way]; exact h.way, h.zx, h.zlt, h.d1, h.d2, h.d3, h.d4⟩⟩
  rw [← e.L] at hk
  rw [← e.bt k hk]
  exact h.bat k hk
theorem Rf.sure_like (s : Rf) (hm : s.many ≤ s.NB) : s.st.mkSure.like s.mkSure.st :=
  ⟨by show s.many + (s.NB - s.many) = s.NB; omega, (Nat.sub_self _).symm, fun k hk => absurd hk (Nat.not_lt_zero _), rfl, rfl, rfl⟩
theorem Rf.ok.st {n : Nat} {s : Rf} (h : s.ok n) : s.st.ok n := by
  refine ⟨fate_lt h.x0 _ fun j hj => h.bat j (by have := h.many; omega), fate_lt h.x0 _ fun j hj => h.bat j hj, fun k hk => h.bat _ (by have : k < s.NB - s.many := hk; omega), h.way, fun k _ => ?_⟩
  show fate s.x0 s.rb s.NB k = fate (fate s.x0 s.rb s.many) (fun k => s.rb (s.many + k)) (s.NB - s.many) k
  rw [fate_add, show s.many + (s.NB - s.many) = s.NB by have := h.many; omega]
theorem Rf.ok.write {n : Nat} {s : Rf} (h : s.ok n) {b : Bt} (hb : b.ok n) : (s.write b).ok n := by
  refine ⟨h.x0, fun k hk => ?_, noBt_ok n, Nat.le_trans h.many (Nat.le_succ _)⟩
  show (if k = s.NB then b else s.rb k).ok n
  by_cases e : k = s.NB
  · rw [if_pos e]; exact hb
  · rw [if_neg e]; exact h.bat k (by have : k < s.NB + 1 := hk; omega)
theorem Rf.ok.under {n : Nat} {s : Rf} (h : s.ok n) {b : Bt} (hb : b.ok n) : (s.under b).ok n := ⟨h.x0, h.bat, hb, h.many⟩
theorem Rf.ok.crash {n : Nat} {x : Nat → Nat} (h : Lt (128 * n) x) : (Rf.crash x).ok n := ⟨h, fun _ hk => absurd hk (Nat.not_lt_zero _), noBt_ok n, Nat.le_refl _⟩
theorem Rf.ok.start {n : Nat} : Rf.start.ok n := ⟨fun _ _ => (by show 0 < 256; omega), fun _ hk => absurd hk (Nat.not_lt_zero _), noBt_ok n, Nat.le_refl _⟩
/-- The model (in the blocks Zm), the reference's (in Zr), the book (P: its lists, Q: its list of lists): apart from each other, all behind w0. -/
structure DI (w0 w : World) (m r bk n N : Nat) (s : St) (R : Rf) (Zm Zr P Q : Nat → Prop) : Prop where
  mdl : MdlAt Zm w m n s
  ref : RMdAt Zr w r n R
  sok : s.ok n
  rok : R.ok n
  book : Bk w bk N P Q
  bel : Below w0.heap.size w0 w
  bb : w0.heap.size ≤ bk
  zm : ∀ k, Zm k → w0.heap.size ≤ k ∧ ¬ Zr k ∧ k ≠ bk ∧ ¬ P k ∧ ¬ Q k
  zr : ∀ k, Zr k → w0.heap.size ≤ k ∧ k ≠ bk ∧ ¬ P k ∧ ¬ Q k
  zp : ∀ k, P k → w0.heap.size ≤ k ∧ k < w.heap.size
  zq : ∀ k, Q k → w0.heap.size ≤ k ∧ k < w.heap.size
theorem RMdAt.lt {Z : Nat → Prop} {w : World} {r n : Nat} {s : Rf} (h : RMdAt Z w r n s) : ∀ k, Z k → k < w.heap.size := by
  obtain ⟨_, _, _, _, _, h⟩ := h
  exact h.zlt
section
variable {w0 w w' : World} {m r bk n N : Nat} {s s' : St} {R R' : Rf} {Zm Zr P Q S Z' : Nat → Prop}
/-- What lies in none of the blocks S. -/
theorem DI.out (h : DI w0 w m r bk n N s R Zm Zr P Q) (ho : Out S w w') (hS : ∀ k, k < w.heap.size → S k → w0.heap.size ≤ k ∧ ¬ Zm k ∧ ¬ Zr k ∧ k ≠ bk ∧ ¬ P k ∧ ¬ Q k) : DI w0 w' m r bk n N s R Zm Zr P Q := by
  have hb := h.book.lt
  have hs0 := h.bel.size
  refine ⟨h.mdl.out ho fun k hk e => (hS k hk e).2.1, h.ref.out ho fun k hk e => (hS k hk e).2.2.1, h.sok, h.rok, h.book.out ho (fun e => (hS _ hb e).2.2.2.1 rfl) (fun k hk e => (hS k (h.zp k hk).2 e).2.2.2.2.1 hk) (fun k hk e => (hS k (h.zq k hk).2 e).2.2.2.2.2 hk), h.bel.trans (ho.below (fun k hk e => (hS k hk e).1) hs0), h.bb, h.zm, h.zr,
    fun k hk => ⟨(h.zp k hk).1, Nat.lt_of_lt_of_le (h.zp k hk).2 ho.size⟩, fun k hk => ⟨(h.zq k hk).1, Nat.lt_of_lt_of_le (h.zq k hk).2 ho.size⟩⟩
theorem DI.keep (h : DI w0 w m r bk n N s R Zm Zr P Q) (hb : Below w.heap.size w w') : DI w0 w' m r bk n N s R Zm Zr P Q :=
  h.out (S := fun _ => False) (Out.of_below hb) fun _ _ e => e.elim
/-- The model has moved. -/
theorem DI.mutM (h : DI w0 w m r bk n N s R Zm Zr P Q) (hM : MdlAt Z' w' m n s') (ho : Out Zm w w') (hZ : ∀ k, Z' k → Zm k ∨ w.heap.size ≤ k) (hs : s'.ok n) : DI w0 w' m r bk n N s' R Z' Zr P Q := by
  have hb := h.book.lt
  have hs0 := h.bel.size
  have hzr := h.ref.lt
  refine ⟨hM, h.ref.out ho fun k _ e => (h.zm k e).2.1, hs, h.rok, h.book.out ho (fun e => (h.zm _ e).2.2.1 rfl) (fun k hk e => (h.zm k e).2.2.2.1 hk) (fun k hk e => (h.zm k e).2.2.2.2 hk), h.bel.trans (ho.below (fun k hk e => (h.zm k e).1) hs0), h.bb, fun k hk => ?_, h.zr,
    fun k hk => ⟨(h.zp k hk).1, Nat.lt_of_lt_of_le (h.zp k hk).2 ho.size⟩, fun k hk => ⟨(h.zq k hk).1, Nat.lt_of_lt_of_le (h.zq k hk).2 ho.size⟩⟩
  rcases hZ k hk with h1 | h1
  · exact h.zm k h1
  · exact ⟨by omega, fun e => by have := hzr k e; omega, by omega, fun e => by have := (h.zp k e).2; omega, fun e => by have := (h.zq k e).2; omega⟩
/-- The reference's has moved. -/
theorem DI.mutR (h : DI w0 w m r bk n N s R Zm Zr P Q) (hM : RMdAt Z' w' r n R') (ho : Out Zr w w') (hZ : ∀ k, Z' k → Zr k ∨ w.heap.size ≤ k) (hs : R'.ok n) : DI w0 w' m r bk n N s R' Zm Z' P Q := by
  have hb := h.book.lt
  have hs0 := h.bel.size
  have hzm := h.mdl.lt
  refine ⟨h.mdl.out ho fun k _ e hz => (h.zm k hz).2.1 e, hM, h.sok, hs, h.book.out ho (fun e => (h.zr _ e).2.1 rfl) (fun k hk e => (h.zr k e).2.2.1 hk) (fun k hk e => (h.zr k e).2.2.2 hk), h.bel.trans (ho.below (fun k hk e => (h.zr k e).1) hs0), h.bb, fun k hk => ?_, fun k hk => ?_,
    fun k hk => ⟨(h.zp k hk).1, Nat.lt_of_lt_of_le (h.zp k hk).2 ho.size⟩, fun k hk => ⟨(h.zq k hk).1, Nat.lt_of_lt_of_le (h.zq k hk).2 ho.size⟩⟩
  · obtain ⟨h1, h2, h3⟩ := h.zm k hk
    refine ⟨h1, fun e => ?_, h3⟩
    rcases hZ k e with e | e
    · exact h2 e
    · have := hzm k hk; omega
  · rcases hZ k hk with h1 | h1
    · exact h.zr k h1
    · exact ⟨by omega, by omega, fun e => by have := (h.zp k e).2; omega, fun e => by have := (h.zq k e).2; omega⟩
/-- A list is new to all of them. -/
def NewD (w0 : World) (bk : Nat) (Zm Zr P Q : Nat → Prop) (x : Value) : Prop := ∀ k, x.ownBlock = some k → w0.heap.size ≤ k ∧ ¬ Zm k ∧ ¬ Zr k ∧ k ≠ bk ∧ ¬ P k ∧ ¬ Q k
/-- The book has moved. -/
theorem DI.put {x : Value} (h : DI w0 w m r bk n N s R Zm Zr P Q) (hx : NewD w0 bk Zm Zr P Q x) (hB : Bk w' bk (N + 1) (fun k => P k ∨ x.ownBlock = some k) (fun k => Q k ∨ w.heap.size ≤ k)) (ho : Out (fun k => k = bk ∨ Q k) w w') (hxl : ∀ k, x.ownBlock = some k → k < w.heap.size) :
    DI w0 w' m r bk n (N + 1) s R Zm Zr (fun k => P k ∨ x.ownBlock = some k) (fun k => Q k ∨ (w.heap.size ≤ k ∧ k < w'.heap.size)) := by
  have hs0 := h.bel.size
  have hzm := h.mdl.lt
  have hzr := h.ref.lt
  have hsz := ho.size
  refine ⟨h.mdl.out ho fun k _ e hz => e.elim (h.zm k hz).2.2.1 (h.zm k hz).2.2.2.2, h.ref.out ho fun k _ e hz => e.elim (h.zr k hz).2.1 (h.zr k hz).2.2.2, h.sok, h.rok, hB.mono (fun _ _ h => h) (fun k hk e => e.imp id fun e => ⟨e, hk⟩),
    h.bel.trans (ho.below (fun k hk e => e.elim (fun e => by rw [e]; exact h.bb) fun e => (h.zq k e).1) hs0), h.bb, fun k hk => ?_, fun k hk => ?_, fun k hk => ?_, fun k hk => ?_⟩
  · obtain ⟨h1, h2, h3, h4, h5⟩ := h.zm k hk
    exact ⟨h1, h2, h3, fun e => e.elim h4 fun e => (hx k e).2.1 hk, fun e => e.elim h5 fun e => by have := hzm k hk; omega⟩
  · obtain ⟨h1, h3, h4, h5⟩ := h.zr k hk
    exact ⟨h1, h3, fun e => e.elim h4 fun e => (hx k e).2.2.1 hk, fun e => e.elim h5 fun e => by have := hzr k hk; omega⟩
  · rcases hk with hk | hk
    · exact ⟨(h.zp k hk).1, Nat.lt_of_lt_of_le (h.zp k hk).2 hsz⟩
    · exact ⟨(hx k hk).1, Nat.lt_of_lt_of_le (hxl k hk) hsz⟩
  · rcases hk with hk | hk
    · exact ⟨(h.zq k hk).1, Nat.lt_of_lt_of_le (h.zq k hk).2 hsz⟩
    · exact ⟨by omega, hk.2⟩
/-- Fresh blocks are new. -/
theorem DI.fresh (h : DI w0 w m r bk n N s R Zm Zr P Q) {k : Nat} (hk : w.heap.size ≤ k) : w0.heap.size ≤ k ∧ ¬ Zm k ∧ ¬ Zr k ∧ k ≠ bk ∧ ¬ P k ∧ ¬ Q k := by
  have := h.bel.size
  have := h.book.lt
  exact ⟨by omega, fun e => by have := h.mdl.lt k e; omega, fun e => by have := h.ref.lt k e; omega, by omega, fun e => by have := (h.zp k e).2; omega, fun e => by have := (h.zq k e).2; omega⟩
end
/-- What a call leaves: the two are alike again. -/
def DoesP (w0 : World) (m r bk n N : Nat) (R : Rf) (e : Ending) (w' : World) : Prop :=
  e = .returned (.bool true) ∧ ∃ R' N' Zm Zr P Q, DI w0 w' m r bk n N' R'.st R' Zm Zr P Q ∧ N' ≤ N + 1 ∧ R'.NB ≤ R.NB + 1
end Go.Proofs.Ytgkkmdebpekckaa
