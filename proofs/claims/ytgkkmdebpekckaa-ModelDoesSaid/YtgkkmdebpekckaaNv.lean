/- A call and what it must answer: Could and Crash. Conditions: as stated at each. -/
import Derived.Test.YtgkkmdebpekckaaNu
namespace Go.Proofs.Ytgkkmdebpekckaa
open Go.RowKit Go.Shelf
theorem BtsX.far {w0 w : World} {v : Value} {n : Nat} {f : Nat → Nat} (h : BtsX (fun k => w0.heap.size ≤ k) w0 v n f) (hb : Below w0.heap.size w0 w) : BtsX (fun k => w0.heap.size ≤ k) w v n f := h.out (Out.of_below (S := fun _ => False) hb) fun _ _ e => e.elim
theorem Lent.out {S : Nat → Prop} {w w1 : World} {g n cap : Nat} {f : Nat → Nat} (h : Lent w g n cap f) (ho : Out S w w1) (hS : ¬ S g) : Lent w1 g n cap f :=
  ⟨fun k hk => ho.cell (h.c k hk) hS, ho.cell h.m0 hS, ho.cell h.m1 hS, h.cap⟩
theorem Blk.out {S : Nat → Prop} {w w1 : World} {g c : Nat} {T : TypeId} (h : Blk w g c T) (ho : Out S w w1) (hS : ¬ S g) : Blk w1 g c T := by
  obtain ⟨cur, h1, h2⟩ := h
  exact ⟨cur, ho.heap h1 hS, h2⟩
theorem Rf.could_bool (s : Rf) (n nA : Nat) (fa : Nat → Nat) : ∃ b : Bool, b = true ↔ s.could n nA fa := by
  by_cases h : s.could n nA fa
  · exact ⟨true, fun _ => h, fun _ => rfl⟩
  · exact ⟨false, fun e => (by cases e), fun e => absurd e h⟩
def Rf.cr (s : Rf) (b : Bool) (x : Nat → Nat) : Rf := if b then Rf.crash x else s
theorem Rf.cr_st (s : Rf) (b : Bool) (x : Nat → Nat) : (s.cr b x).st = if b then St.start x else s.st := by cases b <;> rfl
theorem Rf.cr_NB (s : Rf) (b : Bool) (x : Nat → Nat) : (s.cr b x).NB ≤ s.NB + 1 := by cases b <;> simp [Rf.cr, Rf.crash]
theorem rcrash_any (Z : Nat → Prop) (r n : Nat) (s : Rf) (aa : Option Addr) (nA ca : Nat) (fa : Nat → Nat) (w : World) (h : RMdAt Z w r n s) (hs : s.ok n) (hn0 : 0 < n) (hn : n ≤ 61440) (hB : s.NB ≤ 1000000000)
    (ha : Bts w (.slice aa nA ca) nA fa) (hf : Lt nA fa) (b : Bool) (hb : b = true ↔ s.could n nA fa) :
    Calls Try.prog 39 #[.pointer (some ⟨r, 0, none⟩), .slice aa nA ca] w (RMutP r n (if b then 0 else 180) Z (s.cr b fa) w) := by
  cases b with
  | true => exact rcrash_ok Z r n s aa nA ca fa w h hs hn0 hn hB ha hf (hb.1 rfl)
  | false => exact (rcrash_bad Z r n s aa nA ca fa w h hs hn0 hn hB ha hf fun e => (by have := hb.2 e; cases this)).mono fun e w' ⟨he, hw⟩ => RMutP.same h he hw
theorem Rf.ok.cr {n nA : Nat} {s : Rf} (h : s.ok n) {b : Bool} {fa : Nat → Nat} (hb : b = true ↔ s.could n nA fa) (hf : Lt nA fa) : (s.cr b fa).ok n := by
  cases b with
  | false => exact h
  | true =>
    have hl : 128 * n = nA := by
      rcases hb.1 rfl with ⟨i, _, _, he⟩ | ⟨_, he⟩
      · simp only [eqB, decide_eq_true_eq] at he; exact he.1
      · simp only [eqB, decide_eq_true_eq] at he; exact he.1
    exact Rf.ok.crash (by rw [hl]; exact hf)
set_option maxRecDepth 1000000 in
set_option maxHeartbeats 8000000 in
theorem does_could {w0 w : World} {m r bk n N : Nat} {R : Rf} {Zm Zr P Q : Nat → Prop} (b k : Int) (nA : Nat) (fa : Nat → Nat) (pa aa : Option Addr) (pN pc aN ac : Nat) (HD : DI w0 w m r bk n N R.st R Zm Zr P Q) (hn0 : 0 < n) (hn : n ≤ 61440) (hN : N ≤ 1000000) (hNB : R.NB ≤ 1000000) (ha : BtsX (fun k => w0.heap.size ≤ k) w0 (.slice aa aN ac) nA fa) (hf : Lt nA fa) (hA : nA ≤ 140737488351232) :
    Calls Try.prog 19 #[.pointer (some ⟨m, 0, none⟩), .pointer (some ⟨r, 0, none⟩), .agg #[.int .i64 5, .int .i64 b, .int .i64 k, .slice pa pN pc, .slice aa aN ac], .pointer (some ⟨bk, 0, none⟩)] w (DoesP w0 m r bk n N R) := by
  have hnn := And.intro hn0 (And.intro hn (And.intro hN hNB))
  clear hnn
  have hb1 : Below w.heap.size w (w.alloc (.cells #[.int .i64 5, .int .i64 b, .int .i64 k, .slice pa pN pc, .slice aa aN ac] 27)) := bal (Below.refl _ _) _
  obtain ⟨w1, hw1⟩ : ∃ w1, w.alloc (.cells #[.int .i64 5, .int .i64 b, .int .i64 k, .slice pa pN pc, .slice aa aN ac] 27) = w1 := ⟨_, rfl⟩
  have HBx1 : Hid (Box w1 w.heap.size (.int .i64 5) (.int .i64 b) (.int .i64 k) (.slice pa pN pc) (.slice aa aN ac)) := by rw [← hw1]; exact heap_alloc_new _ _
  have hI0 := HD
  rw [hw1] at hb1
  have HI1 := Lib.hid (HD.keep hb1)
  have HF := Lib.hid (show ∀ k, w.heap.size ≤ k → w0.heap.size ≤ k ∧ ¬ Zm k ∧ ¬ Zr k ∧ k ≠ bk ∧ ¬ P k ∧ ¬ Q k from fun k hk => HD.fresh hk)
  obtain ⟨g, hg⟩ : ∃ g, w.heap.size = g := ⟨_, rfl⟩
  have hgz : g < w1.heap.size := by rw [← hg, ← hw1, World.size_alloc]; omega
  have HG := Lib.hid (HF.out g (by omega))
  rw [hg] at HBx1 HF
  have HW1 := Lib.hid hw1
  have HGe := Lib.hid hg
  have HA := Lib.hid ha
  have HLf := Lib.hid hf
  have hE9 : aN = nA := by obtain ⟨_, _, e, _⟩ := ha; cases e; rfl
  subst hE9
  obtain ⟨cb, hcb⟩ := R.could_bool n aN fa
  have HCb := Lib.hid hcb
  have HCs : Hid (cb = true ↔ R.st.could n aN fa) := hcb.trans (R.could_iff HI1.out.rok.many n aN fa).symm
  clear ha hf hcb
  clear HD hb1 hI0 hw1 hg
  go_enter Try.func19, Try.ntmps19
  go_upto_block 0 with fail
  rw [HW1.out, HGe.out]
  clear HW1 HGe
  obtain ⟨x0, x1, x2, x3, x4, xz⟩ := HBx1.out.c
  go_wp2_with fail
  refine (lent_any (f := fa) hA (HA.out.far HI1.out.bel).bts).mono ?_
  rintro e w2 ⟨g2, c2, rfl, hl, -, -, hg2, -, hb2⟩
  have HI2 := Lib.hid (HI1.out.keep hb2)
  have HBx2 := Lib.hid (HBx1.out.keep hb2)
  have HL2 := Lib.hid hl
  clear x0 x1 x2 x3 x4 xz
  obtain ⟨x0, x1, x2, x3, x4, xz⟩ := HBx2.out.c
  clear hl hg2 hb2
  go_wp2_with fail
  refine (could_at Zm m n R.st _ aN c2 fa w2 HI2.out.mdl HI2.out.sok hn0 hn (by show R.NB - R.many ≤ _; omega) HL2.out.bts HLf.out cb HCs.out).mono ?_
  rintro e w3 ⟨rfl, hb3⟩
  have HI3 := Lib.hid (HI2.out.keep hb3)
  have HBx3 := Lib.hid (HBx2.out.keep hb3)
  have HL3 := Lib.hid (HL2.out.keep hb3)
  clear x0 x1 x2 x3 x4 xz
  obtain ⟨x0, x1, x2, x3, x4, xz⟩ := HBx3.out.c
  clear hb3
  go_wp2_with fail
  refine (whole_bytes g2 aN c2 fa _ w3 hA HL3.out (HA.out.far HI3.out.bel).bts).mono ?_
  rintro e w4 ⟨rfl, hb4⟩
  have HI4 := Lib.hid (HI3.out.keep hb4)
  have HBx4 := Lib.hid (HBx3.out.keep hb4)
  clear x0 x1 x2 x3 x4 xz
  obtain ⟨x0, x1, x2, x3, x4, xz⟩ := HBx4.out.c
  clear hb4
  go_wp2_with fail
  refine (rcould_any Zr r n R aa aN ac fa w4 HI4.out.ref HI4.out.rok hn0 hn (by omega) (HA.out.far HI4.out.bel).bts HLf.out cb HCb.out).mono ?_
  rintro e w5 ⟨rfl, hb5⟩
  have HI5 := Lib.hid (HI4.out.keep hb5)
  clear x0 x1 x2 x3 x4 xz
  clear hb5
  go_wp2_with fail
  go_ret
  exact ⟨rfl, R, N, Zm, Zr, P, Q, HI5.out, Nat.le_succ _, Nat.le_succ _⟩
set_option maxRecDepth 1000000 in
set_option maxHeartbeats 8000000 in
theorem does_crash {w0 w : World} {m r bk n N : Nat} {R : Rf} {Zm Zr P Q : Nat → Prop} (b k : Int) (nA : Nat) (fa : Nat → Nat) (pa aa : Option Addr) (pN pc aN ac : Nat) (HD : DI w0 w m r bk n N R.st R Zm Zr P Q) (hn0 : 0 < n) (hn : n ≤ 61440) (hN : N ≤ 1000000) (hNB : R.NB ≤ 1000000) (ha : BtsX (fun k => w0.heap.size ≤ k) w0 (.slice aa aN ac) nA fa) (hf : Lt nA fa) (hA : nA ≤ 140737488351232) :
    Calls Try.prog 19 #[.pointer (some ⟨m, 0, none⟩), .pointer (some ⟨r, 0, none⟩), .agg #[.int .i64 6, .int .i64 b, .int .i64 k, .slice pa pN pc, .slice aa aN ac], .pointer (some ⟨bk, 0, none⟩)] w (DoesP w0 m r bk n N R) := by
  have hnn := And.intro hn0 (And.intro hn (And.intro hN hNB))
  clear hnn
  have hb1 : Below w.heap.size w (w.alloc (.cells #[.int .i64 6, .int .i64 b, .int .i64 k, .slice pa pN pc, .slice aa aN ac] 27)) := bal (Below.refl _ _) _
  obtain ⟨w1, hw1⟩ : ∃ w1, w.alloc (.cells #[.int .i64 6, .int .i64 b, .int .i64 k, .slice pa pN pc, .slice aa aN ac] 27) = w1 := ⟨_, rfl⟩
  have HBx1 : Hid (Box w1 w.heap.size (.int .i64 6) (.int .i64 b) (.int .i64 k) (.slice pa pN pc) (.slice aa aN ac)) := by rw [← hw1]; exact heap_alloc_new _ _
  have hI0 := HD
  rw [hw1] at hb1
  have HI1 := Lib.hid (HD.keep hb1)
  have HF := Lib.hid (show ∀ k, w.heap.size ≤ k → w0.heap.size ≤ k ∧ ¬ Zm k ∧ ¬ Zr k ∧ k ≠ bk ∧ ¬ P k ∧ ¬ Q k from fun k hk => HD.fresh hk)
  obtain ⟨g, hg⟩ : ∃ g, w.heap.size = g := ⟨_, rfl⟩
  have hgz : g < w1.heap.size := by rw [← hg, ← hw1, World.size_alloc]; omega
  have HG := Lib.hid (HF.out g (by omega))
  rw [hg] at HBx1 HF
  have HW1 := Lib.hid hw1
  have HGe := Lib.hid hg
  have HA := Lib.hid ha
  have HLf := Lib.hid hf
  have hE9 : aN = nA := by obtain ⟨_, _, e, _⟩ := ha; cases e; rfl
  subst hE9
  obtain ⟨cb, hcb⟩ := R.could_bool n aN fa
  have HCb := Lib.hid hcb
  have HCs : Hid (cb = true ↔ R.st.could n aN fa) := hcb.trans (R.could_iff HI1.out.rok.many n aN fa).symm
  clear ha hf hcb
  have HV0 : Hid (BtsX (fun k => Zm k ∨ Zr k) w1 (.slice aa aN ac) aN fa) := (HA.out.far HI1.out.bel).mono fun k _ e => e.elim (fun e => (HI1.out.zm k e).1) fun e => (HI1.out.zr k e).1
  clear HD hb1 hI0 hw1 hg
  go_enter Try.func19, Try.ntmps19
  go_upto_block 0 with fail
  rw [HW1.out, HGe.out]
  clear HW1 HGe
  go_cut [9, 10, 11, 12] (fun s9 s10 s11 s12 wx => TailR w0 m r bk n N R s9 s10 s11 s12 wx)
  case rest =>
    obtain ⟨c, R', L, f, Zm', Zr', P', Q', rfl, rfl, h0, h1, hD, hx, hnx, hy, hL, hR⟩ := hcut
    rename_i hK
    refine hK _ _ ?_
    exact does_tail c _ _ f h0 h1 hD hx hnx hy hL hN (by omega) (Nat.le_refl _) hR
  case first =>
    obtain ⟨x0, x1, x2, x3, x4, xz⟩ := HBx1.out.c
    go_wp2_with fail
    refine (lent_any (f := fa) hA HV0.out.bts).mono ?_
    rintro e w2 ⟨g2, c2, rfl, hl, hblk, hcm, hg2, hg3, hb2⟩
    have HJ1 := Lib.hid (HI1.out.keep hb2)
    have HL1 := Lib.hid hl
    have HK1 := Lib.hid hblk
    have HV1 := Lib.hid (btsX_keep HV0.out hb2)
    have HG2 := Lib.hid (HI1.out.fresh hg2)
    clear hl hb2 hblk hg2
    go_wp2_with fail
    refine (could_at Zm m n R.st _ aN c2 fa w2 HJ1.out.mdl HJ1.out.sok hn0 hn (by show R.NB - R.many ≤ _; omega) HL1.out.bts HLf.out cb HCs.out).mono ?_
    rintro e w3 ⟨rfl, hb3⟩
    have HJ2 := Lib.hid (HJ1.out.keep hb3)
    have HL2 := Lib.hid (HL1.out.keep hb3)
    have HK2 := Lib.hid (HK1.out.out (Out.of_below (S := fun _ => False) hb3) id)
    have HV2 := Lib.hid (btsX_keep HV1.out hb3)
    have hg4 : g2 < w3.heap.size := Nat.lt_of_lt_of_le hg3 hb3.size
    clear hb3 hg3
    go_wp2_with fail
    refine (rcould_any Zr r n R _ aN _ fa w3 HJ2.out.ref HJ2.out.rok hn0 hn (by omega) HV2.out.bts HLf.out cb HCb.out).mono ?_
    rintro e w4 ⟨rfl, hb4⟩
    have HJ3 := Lib.hid (HJ2.out.keep hb4)
    have HL3 := Lib.hid (HL2.out.keep hb4)
    have HK3 := Lib.hid (HK2.out.out (Out.of_below (S := fun _ => False) hb4) id)
    have HV3 := Lib.hid (btsX_keep HV2.out hb4)
    have hg5 : g2 < w4.heap.size := Nat.lt_of_lt_of_le hg4 hb4.size
    clear hb4 hg4
    go_wp2_with fail
    refine (crash_any Zm m n R.st _ aN c2 fa w4 HJ3.out.mdl HJ3.out.sok hn0 hn (by show R.NB - R.many ≤ _; omega) HL3.out.bts HLf.out cb HCs.out).mono ?_
    rintro e w5 ⟨rfl, Zm', hM, ho, hZ⟩
    have HJ4 := Lib.hid (HJ3.out.mutM hM ho hZ (by rw [← R.cr_st]; exact (HJ3.out.rok.cr HCb.out HLf.out).st))
    have HL4 := Lib.hid (HL3.out.out ho HG2.out.2.1)
    have HK4 := Lib.hid (HK3.out.out ho HG2.out.2.1)
    have HV4 := Lib.hid (HV3.out.out ho fun _ _ e => .inl e)
    have HG4 : Hid (w0.heap.size ≤ g2 ∧ ¬ Zm' g2 ∧ ¬ Zr g2 ∧ g2 ≠ bk ∧ ¬ P g2 ∧ ¬ Q g2) := ⟨HG2.out.1, fun e => (hZ _ e).elim HG2.out.2.1 fun e => by omega, HG2.out.2.2⟩
    have hg6 : g2 < w5.heap.size := Nat.lt_of_lt_of_le hg5 ho.size
    clear hM ho hZ hg5
    obtain ⟨c, hcc⟩ : ∃ c, (if cb = true then (0 : Int) else 180) = c := ⟨_, rfl⟩
    have HCc := Lib.hid hcc
    rw [hcc]
    clear hcc
    go_wp2_with fail
    refine (rcrash_any Zr r n R _ aN _ fa w5 HJ4.out.ref HJ4.out.rok hn0 hn (by omega) HV4.out.bts HLf.out cb HCb.out).mono ?_
    rintro e w6 ⟨rfl, Zr', hM, ho, hZ⟩
    rw [HCc.out]
    have HJ5 := Lib.hid (HJ4.out.mutR hM ho hZ (HJ4.out.rok.cr HCb.out HLf.out))
    have HL5 := Lib.hid (HL4.out.out ho HG4.out.2.2.1)
    have HK5 := Lib.hid (HK4.out.out ho HG4.out.2.2.1)
    have HV5 := Lib.hid (HV4.out.out ho fun _ _ e => .inr e)
    have HG5 : Hid (w0.heap.size ≤ g2 ∧ ¬ Zm' g2 ∧ ¬ Zr' g2 ∧ g2 ≠ bk ∧ ¬ P g2 ∧ ¬ Q g2) := ⟨HG4.out.1, HG4.out.2.1, fun e => (hZ _ e).elim HG4.out.2.2.1 fun e => by omega, HG4.out.2.2.2⟩
    clear hM ho hZ hg6
    go_wp2_with fail
    refine (whole_bytes g2 aN c2 fa _ w6 hA HL5.out HV5.out.bts).mono ?_
    rintro e w7 ⟨rfl, hb5⟩
    have HJ6 := Lib.hid (HJ5.out.keep hb5)
    have HK6 := Lib.hid (HK5.out.out (Out.of_below (S := fun _ => False) hb5) id)
    clear hb5
    go_wp2_with fail
    refine (spoil_bytes g2 aN c2 w7 HK6.out hcm).mono ?_
    rintro e w8 ⟨rfl, -, ho⟩
    have HJ7 := Lib.hid (HJ6.out.out ho fun k _ e => (by rw [e]; exact HG5.out))
    clear ho
    go_wp2_with fail
    go_meet
    have hD := HJ7.out
    rw [← R.cr_st] at hD
    exact TailR.nil hD (by rw [← HCc.out]; cases cb <;> decide) (by rw [← HCc.out]; cases cb <;> decide) (R.cr_NB cb fa)
end Go.Proofs.Ytgkkmdebpekckaa
