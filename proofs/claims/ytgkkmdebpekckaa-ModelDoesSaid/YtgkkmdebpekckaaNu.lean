/- A call and what it must answer: Write and Under. Conditions: as stated at each. -/
import Derived.Test.YtgkkmdebpekckaaNt
namespace Go.Proofs.Ytgkkmdebpekckaa
open Go.RowKit Go.Shelf
theorem RMutP.same {r n : Nat} {c : Int} {Z : Nat → Prop} {s : Rf} {w w' : World} {e : Ending} (h : RMdAt Z w r n s) (he : e = .returned (.int .i64 c)) (hb : Below w.heap.size w w') : RMutP r n c Z s w e w' :=
  ⟨he, Z, h.keep hb, Out.of_below hb, fun _ h => .inl h⟩
def Rf.wr (n : Nat) (s : Rf) (a : Ar) : Rf := if a.chk n = 0 ∧ 0 < a.N then s.write a.bt else s
def Rf.un (n : Nat) (s : Rf) (a : Ar) : Rf := if a.chk n = 0 then s.under a.bt else s
theorem Rf.wr_st (n : Nat) (s : Rf) (a : Ar) (hm : s.many ≤ s.NB) : (s.wr n a).st = s.st.wr n a := by
  unfold Rf.wr St.wr
  by_cases e : a.chk n = 0 ∧ 0 < a.N
  · rw [if_pos e, if_pos e]; exact s.write_st _ hm
  · rw [if_neg e, if_neg e]
theorem Rf.un_st (n : Nat) (s : Rf) (a : Ar) : (s.un n a).st = s.st.un n a := by
  unfold Rf.un St.un
  by_cases e : a.chk n = 0
  · rw [if_pos e, if_pos e]; rfl
  · rw [if_neg e, if_neg e]
theorem Rf.wr_NB (n : Nat) (s : Rf) (a : Ar) : (s.wr n a).NB ≤ s.NB + 1 := by
  unfold Rf.wr
  by_cases e : a.chk n = 0 ∧ 0 < a.N
  · rw [if_pos e]; exact Nat.le_refl _
  · rw [if_neg e]; exact Nat.le_succ _
theorem Rf.un_NB (n : Nat) (s : Rf) (a : Ar) : (s.un n a).NB ≤ s.NB + 1 := by
  unfold Rf.un
  by_cases e : a.chk n = 0
  · rw [if_pos e]; exact Nat.le_succ _
  · rw [if_neg e]; exact Nat.le_succ _
theorem Rf.ok.wr {n : Nat} {s : Rf} (h : s.ok n) {a : Ar} (ha : a.lt) : (s.wr n a).ok n := by
  unfold Rf.wr
  by_cases e : a.chk n = 0 ∧ 0 < a.N
  · rw [if_pos e]; exact h.write ((Ar.taken_of e.1).ok ha)
  · rw [if_neg e]; exact h
theorem Rf.ok.un {n : Nat} {s : Rf} (h : s.ok n) {a : Ar} (ha : a.lt) : (s.un n a).ok n := by
  unfold Rf.un
  by_cases e : a.chk n = 0
  · rw [if_pos e]; exact h.under ((Ar.taken_of e).ok ha)
  · rw [if_neg e]; exact h
theorem rwrite_any (Z : Nat → Prop) (r n : Nat) (s : Rf) (v : Value) (a : Ar) (w : World) (h : RMdAt Z w r n s) (hn : n ≤ 61440) (hNB : s.NB ≤ 1000000) (hv : ArX (fun _ => False) w v a) :
    Calls Try.prog 30 #[.pointer (some ⟨r, 0, none⟩), v] w (RMutP r n (a.chk n) Z (s.wr n a) w) := by
  by_cases hc : a.chk n = 0
  · by_cases h0 : a.N = 0
    · have e : s.wr n a = s := if_neg (by omega)
      rw [e, hc]
      exact (rwrite_none Z r n s v a w h hn hv hc h0).mono fun e w' ⟨he, hb⟩ => RMutP.same h he hb
    · have e : s.wr n a = s.write a.bt := if_pos ⟨hc, by omega⟩
      rw [e, hc]
      exact rwrite_ok Z r n s v a w h hn hNB hv hc (by omega)
  · have e : s.wr n a = s := if_neg fun e => hc e.1
    rw [e]
    exact (rwrite_bad Z r n s v a w h hn hv hc).mono fun e w' ⟨he, hb⟩ => RMutP.same h he hb
theorem runder_any (Z : Nat → Prop) (r n : Nat) (s : Rf) (v : Value) (a : Ar) (w : World) (h : RMdAt Z w r n s) (hn : n ≤ 61440) (hv : ArX (fun _ => False) w v a) :
    Calls Try.prog 31 #[.pointer (some ⟨r, 0, none⟩), v] w (RMutP r n (a.chk n) Z (s.un n a) w) := by
  by_cases hc : a.chk n = 0
  · have e : s.un n a = s.under a.bt := if_pos hc
    rw [e, hc]
    exact runder_ok Z r n s v a w h hn hv hc
  · have e : s.un n a = s := if_neg hc
    rw [e]
    exact (runder_bad Z r n s v a w h hn hv hc).mono fun e w' ⟨he, hb⟩ => RMutP.same h he hb
theorem chk_bounds (n : Nat) (a : Ar) : 0 ≤ a.chk n ∧ a.chk n ≤ 180 := by
  rcases chk_cases n a with h | ⟨_, h | h | h⟩ <;> omega
/-- What lies in new blocks lies in none of them, whatever they come to be. -/
def Free (w0 : World) (bk : Nat) (Zm Zr P Q : Nat → Prop) (B E : Nat) : Prop := ∀ k, B ≤ k → k < E → w0.heap.size ≤ k ∧ ¬ Zm k ∧ ¬ Zr k ∧ k ≠ bk ∧ ¬ P k ∧ ¬ Q k
theorem Free.mutM {w0 : World} {bk : Nat} {Zm Zr P Q Z' : Nat → Prop} {B E F : Nat} (h : Free w0 bk Zm Zr P Q B E) (hZ : ∀ k, Z' k → Zm k ∨ F ≤ k) (hE : E ≤ F) : Free w0 bk Z' Zr P Q B E := fun k h1 h2 => by
  obtain ⟨a, b, c⟩ := h k h1 h2
  exact ⟨a, fun e => (hZ k e).elim b fun e => by omega, c⟩
theorem Free.mutR {w0 : World} {bk : Nat} {Zm Zr P Q Z' : Nat → Prop} {B E F : Nat} (h : Free w0 bk Zm Zr P Q B E) (hZ : ∀ k, Z' k → Zr k ∨ F ≤ k) (hE : E ≤ F) : Free w0 bk Zm Z' P Q B E := fun k h1 h2 => by
  obtain ⟨a, b, c, d⟩ := h k h1 h2
  exact ⟨a, b, fun e => (hZ k e).elim c fun e => by omega, d⟩
theorem ArX.far {w0 w : World} {v : Value} {a : Ar} (h : ArX (fun k => w0.heap.size ≤ k) w0 v a) (hb : Below w0.heap.size w0 w) : ArX (fun k => w0.heap.size ≤ k) w v a := h.out (Out.of_below (S := fun _ => False) hb) fun _ _ e => e.elim
set_option maxRecDepth 1000000 in
set_option maxHeartbeats 8000000 in
theorem does_write {w0 w : World} {m r bk n N : Nat} {R : Rf} {Zm Zr P Q : Nat → Prop} (b k : Int) (a : Ar) (pa aa : Option Addr) (pN pc aN ac : Nat) (HD : DI w0 w m r bk n N R.st R Zm Zr P Q) (hn0 : 0 < n) (hn : n ≤ 61440) (hN : N ≤ 1000000) (hNB : R.NB ≤ 1000000) (hp : ArX (fun k => w0.heap.size ≤ k) w0 (.slice pa pN pc) a) (hlt : a.lt) (hN9 : a.N ≤ 1000000) (hl9 : ∀ i, i < a.N → a.len i ≤ 140737488351232) :
    Calls Try.prog 19 #[.pointer (some ⟨m, 0, none⟩), .pointer (some ⟨r, 0, none⟩), .agg #[.int .i64 2, .int .i64 b, .int .i64 k, .slice pa pN pc, .slice aa aN ac], .pointer (some ⟨bk, 0, none⟩)] w (DoesP w0 m r bk n N R) := by
  have hnn := And.intro hn0 hn
  clear hnn
  have hb1 : Below w.heap.size w (w.alloc (.cells #[.int .i64 2, .int .i64 b, .int .i64 k, .slice pa pN pc, .slice aa aN ac] 27)) := bal (Below.refl _ _) _
  obtain ⟨w1, hw1⟩ : ∃ w1, w.alloc (.cells #[.int .i64 2, .int .i64 b, .int .i64 k, .slice pa pN pc, .slice aa aN ac] 27) = w1 := ⟨_, rfl⟩
  have HBx1 : Hid (Box w1 w.heap.size (.int .i64 2) (.int .i64 b) (.int .i64 k) (.slice pa pN pc) (.slice aa aN ac)) := by rw [← hw1]; exact heap_alloc_new _ _
  have hI0 := HD
  rw [hw1] at hb1
  have HI1 := Lib.hid (HD.keep hb1)
  have HF := Lib.hid (show ∀ k, w.heap.size ≤ k → w0.heap.size ≤ k ∧ ¬ Zm k ∧ ¬ Zr k ∧ k ≠ bk ∧ ¬ P k ∧ ¬ Q k from fun k hk => HD.fresh hk)
  obtain ⟨g, hg⟩ : ∃ g, w.heap.size = g := ⟨_, rfl⟩
  have hgz : g < w1.heap.size := by rw [← hg, ← hw1, World.size_alloc]; omega
  have HG := Lib.hid (HF.out g (by omega))
  rw [hg] at HBx1 HF
  have HW1 := Lib.hid hw1
  have HGe := Lib.hid hg
  have HP := Lib.hid hp
  have HLt := Lib.hid hlt
  have HL9 := Lib.hid hl9
  have HAr1 := Lib.hid (lent_puts (fun _ => False) (.slice pa pN pc) a w1 ((hp.far HI1.out.bel).mono fun _ _ h => h.elim) hN9 hl9)
  have hE9 : pN = a.N := by obtain ⟨_, _, e⟩ := hp.form; cases e; rfl
  subst hE9
  clear hp hlt hl9
  clear HD hb1 hI0 hw1 hg
  go_enter Try.func19, Try.ntmps19
  go_upto_block 0 with fail
  rw [HW1.out, HGe.out]
  clear HW1 HGe
  go_cut [9, 10, 11, 12] (fun s9 s10 s11 s12 wx => TailR w0 m r bk n N R s9 s10 s11 s12 wx)
  case rest =>
    obtain ⟨c, R', L, f, Zm', Zr', P', Q', rfl, rfl, h0, h1, hD, hx, hnx, hy, hL, hR⟩ := hcut
    rename_i hK
    refine hK _ _ ?_
    exact does_tail c _ _ f h0 h1 hD hx hnx hy hL hN (by omega) (Nat.le_refl _) hR
  case first =>
    obtain ⟨x0, x1, x2, x3, x4, xz⟩ := HBx1.out.c
    go_wp2_with fail
    refine HAr1.out.mono ?_
    rintro e w2 ⟨gl, cl, dv, rfl, hlp, hb2⟩
    have HI2 := Lib.hid (HI1.out.keep hb2)
    have HBx2 := Lib.hid (HBx1.out.keep hb2)
    have HLp2 := Lib.hid hlp
    have HFr : Hid (Free w0 bk Zm Zr P Q w1.heap.size w2.heap.size) := fun k h1 _ => HI1.out.fresh h1
    clear x0 x1 x2 x3 x4 xz
    obtain ⟨x0, x1, x2, x3, x4, xz⟩ := HBx2.out.c
    clear hlp hb2 HAr1
    go_wp2_with fail
    refine (write_any Zm m n R.st a _ w2 HI2.out.mdl hn (by show R.NB - R.many ≤ _; omega) (HLp2.out.at fun k h1 h2 => (HFr.out k h1 h2).2.1)).mono ?_
    rintro e w3 ⟨rfl, Zm', hM, ho, hZ⟩
    have HI3 := Lib.hid (HI2.out.mutM hM ho hZ (HI2.out.sok.wr HLt.out))
    have HBx3 := Lib.hid (HBx2.out.out ho HG.out.2.1)
    have HLp3 := Lib.hid (HLp2.out.out ho fun k h1 h2 => (HFr.out k h1 h2).2.1)
    have HFr3 := Lib.hid (HFr.out.mutM hZ (Nat.le_refl _))
    have hz23 : w2.heap.size ≤ w3.heap.size := ho.size
    clear x0 x1 x2 x3 x4 xz
    obtain ⟨x0, x1, x2, x3, x4, xz⟩ := HBx3.out.c
    clear hM ho hZ
    obtain ⟨c, hcc⟩ : ∃ c, a.chk n = c := ⟨_, rfl⟩
    have HCc := Lib.hid hcc
    rw [hcc]
    clear hcc
    go_wp2_with fail
    refine (rwrite_any Zr r n R _ a w3 HI3.out.ref hn hNB ((HP.out.far HI3.out.bel).mono fun _ _ h => h.elim)).mono ?_
    rintro e w4 ⟨rfl, Zr', hM, ho, hZ⟩
    rw [HCc.out]
    have HI4 := Lib.hid (HI3.out.mutR hM ho hZ (HI3.out.rok.wr HLt.out))
    have HBx4 := Lib.hid (HBx3.out.out ho HG.out.2.2.1)
    have HLp4 := Lib.hid (HLp3.out.out ho fun k h1 h2 => (HFr3.out k h1 h2).2.2.1)
    have HFr4 := Lib.hid (HFr3.out.mutR hZ hz23)
    clear x0 x1 x2 x3 x4 xz
    obtain ⟨x0, x1, x2, x3, x4, xz⟩ := HBx4.out.c
    clear hM ho hZ
    go_wp2_with fail
    refine (whole_puts (fun _ => False) _ _ gl cl _ a dv w4 HLp4.out ((HP.out.far HI4.out.bel).mono fun _ _ h => h.elim) hN9 HL9.out).mono ?_
    rintro e w5 ⟨rfl, hb5⟩
    have HI5 := Lib.hid (HI4.out.keep hb5)
    have HLp5 := Lib.hid (HLp4.out.out (Out.of_below (S := fun _ => False) hb5) fun _ _ _ e => e)
    clear x0 x1 x2 x3 x4 xz
    clear hb5
    go_wp2_with fail
    refine (spoil_puts _ _ gl cl a dv w5 HLp5.out hN9).mono ?_
    rintro e w6 ⟨rfl, ho⟩
    have HI6 := Lib.hid (HI5.out.out ho fun k _ e => HFr4.out k e.1 e.2)
    clear ho
    go_wp2_with fail
    go_meet
    have hD := HI6.out
    rw [← R.wr_st n a HI1.out.rok.many] at hD
    exact TailR.nil hD (by rw [← HCc.out]; exact (chk_bounds n a).1) (by rw [← HCc.out]; exact (chk_bounds n a).2) (Rf.wr_NB n R a)
set_option maxRecDepth 1000000 in
set_option maxHeartbeats 8000000 in
theorem does_under {w0 w : World} {m r bk n N : Nat} {R : Rf} {Zm Zr P Q : Nat → Prop} (b k : Int) (a : Ar) (pa aa : Option Addr) (pN pc aN ac : Nat) (HD : DI w0 w m r bk n N R.st R Zm Zr P Q) (hn0 : 0 < n) (hn : n ≤ 61440) (hN : N ≤ 1000000) (hNB : R.NB ≤ 1000000) (hp : ArX (fun k => w0.heap.size ≤ k) w0 (.slice pa pN pc) a) (hlt : a.lt) (hN9 : a.N ≤ 1000000) (hl9 : ∀ i, i < a.N → a.len i ≤ 140737488351232) :
    Calls Try.prog 19 #[.pointer (some ⟨m, 0, none⟩), .pointer (some ⟨r, 0, none⟩), .agg #[.int .i64 4, .int .i64 b, .int .i64 k, .slice pa pN pc, .slice aa aN ac], .pointer (some ⟨bk, 0, none⟩)] w (DoesP w0 m r bk n N R) := by
  have hnn := And.intro hn0 hn
  clear hnn
  have hb1 : Below w.heap.size w (w.alloc (.cells #[.int .i64 4, .int .i64 b, .int .i64 k, .slice pa pN pc, .slice aa aN ac] 27)) := bal (Below.refl _ _) _
  obtain ⟨w1, hw1⟩ : ∃ w1, w.alloc (.cells #[.int .i64 4, .int .i64 b, .int .i64 k, .slice pa pN pc, .slice aa aN ac] 27) = w1 := ⟨_, rfl⟩
  have HBx1 : Hid (Box w1 w.heap.size (.int .i64 4) (.int .i64 b) (.int .i64 k) (.slice pa pN pc) (.slice aa aN ac)) := by rw [← hw1]; exact heap_alloc_new _ _
  have hI0 := HD
  rw [hw1] at hb1
  have HI1 := Lib.hid (HD.keep hb1)
  have HF := Lib.hid (show ∀ k, w.heap.size ≤ k → w0.heap.size ≤ k ∧ ¬ Zm k ∧ ¬ Zr k ∧ k ≠ bk ∧ ¬ P k ∧ ¬ Q k from fun k hk => HD.fresh hk)
  obtain ⟨g, hg⟩ : ∃ g, w.heap.size = g := ⟨_, rfl⟩
  have hgz : g < w1.heap.size := by rw [← hg, ← hw1, World.size_alloc]; omega
  have HG := Lib.hid (HF.out g (by omega))
  rw [hg] at HBx1 HF
  have HW1 := Lib.hid hw1
  have HGe := Lib.hid hg
  have HP := Lib.hid hp
  have HLt := Lib.hid hlt
  have HL9 := Lib.hid hl9
  have HAr1 := Lib.hid (lent_puts (fun _ => False) (.slice pa pN pc) a w1 ((hp.far HI1.out.bel).mono fun _ _ h => h.elim) hN9 hl9)
  have hE9 : pN = a.N := by obtain ⟨_, _, e⟩ := hp.form; cases e; rfl
  subst hE9
  clear hp hlt hl9
  clear HD hb1 hI0 hw1 hg
  go_enter Try.func19, Try.ntmps19
  go_upto_block 0 with fail
  rw [HW1.out, HGe.out]
  clear HW1 HGe
  go_cut [9, 10, 11, 12] (fun s9 s10 s11 s12 wx => TailR w0 m r bk n N R s9 s10 s11 s12 wx)
  case rest =>
    obtain ⟨c, R', L, f, Zm', Zr', P', Q', rfl, rfl, h0, h1, hD, hx, hnx, hy, hL, hR⟩ := hcut
    rename_i hK
    refine hK _ _ ?_
    exact does_tail c _ _ f h0 h1 hD hx hnx hy hL hN (by omega) (Nat.le_refl _) hR
  case first =>
    obtain ⟨x0, x1, x2, x3, x4, xz⟩ := HBx1.out.c
    go_wp2_with fail
    refine HAr1.out.mono ?_
    rintro e w2 ⟨gl, cl, dv, rfl, hlp, hb2⟩
    have HI2 := Lib.hid (HI1.out.keep hb2)
    have HBx2 := Lib.hid (HBx1.out.keep hb2)
    have HLp2 := Lib.hid hlp
    have HFr : Hid (Free w0 bk Zm Zr P Q w1.heap.size w2.heap.size) := fun k h1 _ => HI1.out.fresh h1
    clear x0 x1 x2 x3 x4 xz
    obtain ⟨x0, x1, x2, x3, x4, xz⟩ := HBx2.out.c
    clear hlp hb2 HAr1
    go_wp2_with fail
    refine (under_any Zm m n R.st a _ w2 HI2.out.mdl hn ((HLp2.out.at fun k h1 h2 => (HFr.out k h1 h2).2.1).mono fun _ _ h => h.elim)).mono ?_
    rintro e w3 ⟨rfl, Zm', hM, ho, hZ⟩
    have HI3 := Lib.hid (HI2.out.mutM hM ho hZ (HI2.out.sok.un HLt.out))
    have HBx3 := Lib.hid (HBx2.out.out ho HG.out.2.1)
    have HLp3 := Lib.hid (HLp2.out.out ho fun k h1 h2 => (HFr.out k h1 h2).2.1)
    have HFr3 := Lib.hid (HFr.out.mutM hZ (Nat.le_refl _))
    have hz23 : w2.heap.size ≤ w3.heap.size := ho.size
    clear x0 x1 x2 x3 x4 xz
    obtain ⟨x0, x1, x2, x3, x4, xz⟩ := HBx3.out.c
    clear hM ho hZ
    obtain ⟨c, hcc⟩ : ∃ c, a.chk n = c := ⟨_, rfl⟩
    have HCc := Lib.hid hcc
    rw [hcc]
    clear hcc
    go_wp2_with fail
    refine (runder_any Zr r n R _ a w3 HI3.out.ref hn ((HP.out.far HI3.out.bel).mono fun _ _ h => h.elim)).mono ?_
    rintro e w4 ⟨rfl, Zr', hM, ho, hZ⟩
    rw [HCc.out]
    have HI4 := Lib.hid (HI3.out.mutR hM ho hZ (HI3.out.rok.un HLt.out))
    have HBx4 := Lib.hid (HBx3.out.out ho HG.out.2.2.1)
    have HLp4 := Lib.hid (HLp3.out.out ho fun k h1 h2 => (HFr3.out k h1 h2).2.2.1)
    have HFr4 := Lib.hid (HFr3.out.mutR hZ hz23)
    clear x0 x1 x2 x3 x4 xz
    obtain ⟨x0, x1, x2, x3, x4, xz⟩ := HBx4.out.c
    clear hM ho hZ
    go_wp2_with fail
    refine (whole_puts (fun _ => False) _ _ gl cl _ a dv w4 HLp4.out ((HP.out.far HI4.out.bel).mono fun _ _ h => h.elim) hN9 HL9.out).mono ?_
    rintro e w5 ⟨rfl, hb5⟩
    have HI5 := Lib.hid (HI4.out.keep hb5)
    have HLp5 := Lib.hid (HLp4.out.out (Out.of_below (S := fun _ => False) hb5) fun _ _ _ e => e)
    clear x0 x1 x2 x3 x4 xz
    clear hb5
    go_wp2_with fail
    refine (spoil_puts _ _ gl cl a dv w5 HLp5.out hN9).mono ?_
    rintro e w6 ⟨rfl, ho⟩
    have HI6 := Lib.hid (HI5.out.out ho fun k _ e => HFr4.out k e.1 e.2)
    clear ho
    go_wp2_with fail
    go_meet
    have hD := HI6.out
    rw [← R.un_st n a] at hD
    exact TailR.nil hD (by rw [← HCc.out]; exact (chk_bounds n a).1) (by rw [← HCc.out]; exact (chk_bounds n a).2) (Rf.un_NB n R a)
end Go.Proofs.Ytgkkmdebpekckaa
