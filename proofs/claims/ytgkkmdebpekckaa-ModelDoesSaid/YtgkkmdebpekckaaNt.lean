/- A call and what it must answer: reads, Sure, and what is no call. Conditions: as stated at each. -/
import Derived.Test.YtgkkmdebpekckaaNs
import Derived.Deep.CutBlock
namespace Go.Proofs.Ytgkkmdebpekckaa
open Go.RowKit Go.Shelf
/-- What is known behind the switch. -/
def TailR (w0 : World) (m r bk n N0 : Nat) (R0 : Rf) (s9 s10 s11 s12 : Value) (w : World) : Prop :=
  ∃ (c : Int) (R : Rf) (L : Nat) (f : Nat → Nat) (Zm Zr P Q : Nat → Prop), s9 = .int .u16 c ∧ s10 = .int .i64 c ∧ 0 ≤ c ∧ c ≤ 180 ∧ DI w0 w m r bk n N0 R.st R Zm Zr P Q ∧
    w.ownsRow 0 5 1 s11 L (bytesL L f) ∧ NewD w0 bk Zm Zr P Q s11 ∧ BtsX (fun k => k = bk ∨ Q k) w s12 L f ∧ L ≤ 7864320 ∧ R.NB ≤ R0.NB + 1
theorem TailR.nil {w0 w : World} {m r bk n N0 : Nat} {R0 R : Rf} {Zm Zr P Q : Nat → Prop} {c : Int} (h : DI w0 w m r bk n N0 R.st R Zm Zr P Q) (h0 : 0 ≤ c) (h1 : c ≤ 180) (hR : R.NB ≤ R0.NB + 1) : TailR w0 m r bk n N0 R0 (.int .u16 c) (.int .i64 c) (.slice none 0 0) (.slice none 0 0) w :=
  ⟨c, R, 0, fun _ => 0, Zm, Zr, P, Q, rfl, rfl, h0, h1, h, nil_own w, nil_new, nil_bts, Nat.zero_le _, hR⟩
/-- The call that came in, boxed. -/
def Box (w : World) (g : Nat) (v0 v1 v2 v3 v4 : Value) : Prop := w.heap[g]? = some (.cells #[v0, v1, v2, v3, v4] 27 (0, 0))
theorem Box.keep {w w' : World} {g : Nat} {v0 v1 v2 v3 v4 : Value} (h : Box w g v0 v1 v2 v3 v4) (hb : Below w.heap.size w w') : Box w' g v0 v1 v2 v3 v4 := (hb.block g (Array.getElem?_eq_some_iff.1 h).1).trans h
theorem Box.out {S : Nat → Prop} {w w' : World} {g : Nat} {v0 v1 v2 v3 v4 : Value} (h : Box w g v0 v1 v2 v3 v4) (ho : Out S w w') (hS : ¬ S g) : Box w' g v0 v1 v2 v3 v4 := ho.heap h hS
theorem Box.c {w : World} {g : Nat} {v0 v1 v2 v3 v4 : Value} (h : Box w g v0 v1 v2 v3 v4) : w.cell? ⟨g, 0, none⟩ = some v0 ∧ w.cell? ⟨g, 1, none⟩ = some v1 ∧ w.cell? ⟨g, 2, none⟩ = some v2 ∧ w.cell? ⟨g, 3, none⟩ = some v3 ∧ w.cell? ⟨g, 4, none⟩ = some v4 ∧ g < w.heap.size :=
  ⟨(cr h).1 0, (cr h).1 1, (cr h).1 2, (cr h).1 3, (cr h).1 4, (cr h).2.2⟩
set_option maxRecDepth 1000000 in
set_option maxHeartbeats 8000000 in
theorem does_read_ok {w0 w : World} {m r bk n N : Nat} {R : Rf} {Zm Zr P Q : Nat → Prop} (b k : Nat) (pa aa : Option Addr) (pN pc aN ac : Nat) (HD : DI w0 w m r bk n N R.st R Zm Zr P Q) (hn0 : 0 < n) (hn : n ≤ 61440) (hN : N ≤ 1000000) (hNB : R.NB ≤ 1000000) (hb : b + k ≤ n) :
    Calls Try.prog 19 #[.pointer (some ⟨m, 0, none⟩), .pointer (some ⟨r, 0, none⟩), .agg #[.int .i64 1, .int .i64 b, .int .i64 k, .slice pa pN pc, .slice aa aN ac], .pointer (some ⟨bk, 0, none⟩)] w (DoesP w0 m r bk n N R) := by
  have hnn := And.intro hn0 (And.intro hn (And.intro hN hNB))
  clear hnn
  have hb1 : Below w.heap.size w (w.alloc (.cells #[.int .i64 1, .int .i64 b, .int .i64 k, .slice pa pN pc, .slice aa aN ac] 27)) := bal (Below.refl _ _) _
  obtain ⟨w1, hw1⟩ : ∃ w1, w.alloc (.cells #[.int .i64 1, .int .i64 b, .int .i64 k, .slice pa pN pc, .slice aa aN ac] 27) = w1 := ⟨_, rfl⟩
  have HBx1 : Hid (Box w1 w.heap.size (.int .i64 1) (.int .i64 b) (.int .i64 k) (.slice pa pN pc) (.slice aa aN ac)) := by rw [← hw1]; exact heap_alloc_new _ _
  have hI0 := HD
  rw [hw1] at hb1
  have HI1 := Lib.hid (HD.keep hb1)
  have HF := Lib.hid (show ∀ k, w.heap.size ≤ k → w0.heap.size ≤ k ∧ ¬ Zm k ∧ ¬ Zr k ∧ k ≠ bk ∧ ¬ P k ∧ ¬ Q k from fun k hk => HD.fresh hk)
  obtain ⟨g, hg⟩ : ∃ g, w.heap.size = g := ⟨_, rfl⟩
  have hgz : g < w1.heap.size := by rw [← hg, ← hw1, World.size_alloc]; omega
  have HG := Lib.hid (HF.out g (by omega))
  rw [hg] at HBx1 HF
  have HW1 := Lib.hid hw1
  have HGe := Lib.hid hg
  clear HD hb1 hI0 hw1 hg
  go_enter Try.func19, Try.ntmps19
  go_upto_block 0 with fail
  rw [HW1.out, HGe.out]
  clear HW1 HGe
  go_cut [9, 10, 11, 12] (fun s9 s10 s11 s12 wx => TailR w0 m r bk n N R s9 s10 s11 s12 wx)
  case rest =>
    obtain ⟨c, R', L, f, Zm', Zr', P', Q', rfl, rfl, h0, h1, hD, hx, hnx, hy, hL, hR⟩ := hcut
    rename_i hK
    refine hK _ _ ?_
    exact does_tail c _ _ f h0 h1 hD hx hnx hy hL hN (by omega) (Nat.le_refl _) hR
  case first =>
    obtain ⟨x0, x1, x2, x3, x4, xz⟩ := HBx1.out.c
    go_wp2_with fail
    refine (read_ok Zm m n R.st b k w1 HI1.out.mdl hn hb).mono ?_
    rintro e w2 ⟨v, rfl, ho, hb2⟩
    have HI2 := Lib.hid (HI1.out.keep hb2)
    have HBx2 := Lib.hid (HBx1.out.keep hb2)
    have HO2 := Lib.hid ho
    clear x0 x1 x2 x3 x4 xz
    obtain ⟨x0, x1, x2, x3, x4, xz⟩ := HBx2.out.c
    clear ho hb2
    go_wp2_with fail
    refine (rread_ok Zr r n R b k w2 HI2.out.ref HI2.out.rok hn0 hn (by omega) hb).mono ?_
    rintro e w3 ⟨y, rfl, hy, hyb, hb3⟩
    have HI3 := Lib.hid (HI2.out.keep hb3)
    have HO3 := Lib.hid (own_keep hb3 HO2.out)
    have hsz := HI2.out.bel.size
    have hyx : BtsX (fun k => k = bk ∨ Q k) w3 y (128 * k) (fun j => R.st.now (128 * b + j)) := by
      obtain ⟨a0, c0, e0, h0⟩ := hy
      refine ⟨a0, c0, e0, h0.imp id ?_⟩
      rintro ⟨b0, o0, e1, h1⟩
      refine ⟨b0, o0, e1, ?_, h1⟩
      have h2 := hyb ⟨b0, o0, none⟩ _ _ (by rw [e0, e1])
      have h3 := HI2.out.fresh h2
      exact fun e => e.elim h3.2.2.2.1 h3.2.2.2.2.2
    have HY := Lib.hid hyx
    have HNx : Hid (NewD w0 bk Zm Zr P Q v) := fun k hk => HI1.out.fresh (HO2.out.lt k hk).1
    clear x0 x1 x2 x3 x4 xz
    clear hy hyb hb3 hyx
    go_wp2_with fail
    go_meet
    exact ⟨0, R, 128 * k, _, Zm, Zr, P, Q, rfl, rfl, Int.le_refl _, by omega, HI3.out, own_base0 HO3.out, HNx.out, HY.out, by omega, Nat.le_succ _⟩
set_option maxRecDepth 1000000 in
set_option maxHeartbeats 8000000 in
theorem does_read_bad {w0 w : World} {m r bk n N : Nat} {R : Rf} {Zm Zr P Q : Nat → Prop} (b k : Int) (pa aa : Option Addr) (pN pc aN ac : Nat) (HD : DI w0 w m r bk n N R.st R Zm Zr P Q) (hn0 : 0 < n) (hn : n ≤ 61440) (hN : N ≤ 1000000) (hNB : R.NB ≤ 1000000) (hb : ¬ inRange n b k) :
    Calls Try.prog 19 #[.pointer (some ⟨m, 0, none⟩), .pointer (some ⟨r, 0, none⟩), .agg #[.int .i64 1, .int .i64 b, .int .i64 k, .slice pa pN pc, .slice aa aN ac], .pointer (some ⟨bk, 0, none⟩)] w (DoesP w0 m r bk n N R) := by
  have hnn := And.intro hn0 (And.intro hn (And.intro hN hNB))
  clear hnn
  have hb1 : Below w.heap.size w (w.alloc (.cells #[.int .i64 1, .int .i64 b, .int .i64 k, .slice pa pN pc, .slice aa aN ac] 27)) := bal (Below.refl _ _) _
  obtain ⟨w1, hw1⟩ : ∃ w1, w.alloc (.cells #[.int .i64 1, .int .i64 b, .int .i64 k, .slice pa pN pc, .slice aa aN ac] 27) = w1 := ⟨_, rfl⟩
  have HBx1 : Hid (Box w1 w.heap.size (.int .i64 1) (.int .i64 b) (.int .i64 k) (.slice pa pN pc) (.slice aa aN ac)) := by rw [← hw1]; exact heap_alloc_new _ _
  have hI0 := HD
  rw [hw1] at hb1
  have HI1 := Lib.hid (HD.keep hb1)
  have HF := Lib.hid (show ∀ k, w.heap.size ≤ k → w0.heap.size ≤ k ∧ ¬ Zm k ∧ ¬ Zr k ∧ k ≠ bk ∧ ¬ P k ∧ ¬ Q k from fun k hk => HD.fresh hk)
  obtain ⟨g, hg⟩ : ∃ g, w.heap.size = g := ⟨_, rfl⟩
  have hgz : g < w1.heap.size := by rw [← hg, ← hw1, World.size_alloc]; omega
  have HG := Lib.hid (HF.out g (by omega))
  rw [hg] at HBx1 HF
  have HW1 := Lib.hid hw1
  have HGe := Lib.hid hg
  clear HD hb1 hI0 hw1 hg
  go_enter Try.func19, Try.ntmps19
  go_upto_block 0 with fail
  rw [HW1.out, HGe.out]
  clear HW1 HGe
  go_cut [9, 10, 11, 12] (fun s9 s10 s11 s12 wx => TailR w0 m r bk n N R s9 s10 s11 s12 wx)
  case rest =>
    obtain ⟨c, R', L, f, Zm', Zr', P', Q', rfl, rfl, h0, h1, hD, hx, hnx, hy, hL, hR⟩ := hcut
    rename_i hK
    refine hK _ _ ?_
    exact does_tail c _ _ f h0 h1 hD hx hnx hy hL hN (by omega) (Nat.le_refl _) hR
  case first =>
    obtain ⟨x0, x1, x2, x3, x4, xz⟩ := HBx1.out.c
    go_wp2_with fail
    refine (read_bad Zm m n R.st b k w1 HI1.out.mdl hn hb).mono ?_
    rintro e w2 ⟨rfl, hb2⟩
    have HI2 := Lib.hid (HI1.out.keep hb2)
    have HBx2 := Lib.hid (HBx1.out.keep hb2)
    clear x0 x1 x2 x3 x4 xz
    obtain ⟨x0, x1, x2, x3, x4, xz⟩ := HBx2.out.c
    clear hb2
    go_wp2_with fail
    refine (rread_bad Zr r n R b k w2 HI2.out.ref hn hb).mono ?_
    rintro e w3 ⟨rfl, hb3⟩
    have HI3 := Lib.hid (HI2.out.keep hb3)
    clear x0 x1 x2 x3 x4 xz
    clear hb3
    go_wp2_with fail
    go_meet
    exact TailR.nil HI3.out (by omega) (by omega) (Nat.le_succ _)
theorem DI.like {w0 w : World} {m r bk n N : Nat} {s t : St} {R : Rf} {Zm Zr P Q : Nat → Prop} (h : DI w0 w m r bk n N s R Zm Zr P Q) (e : s.like t) (ht : t.ok n) : DI w0 w m r bk n N t R Zm Zr P Q :=
  ⟨h.mdl.like e, h.ref, ht, h.rok, h.book, h.bel, h.bb, h.zm, h.zr, h.zp, h.zq⟩
set_option maxRecDepth 1000000 in
set_option maxHeartbeats 8000000 in
theorem does_sure {w0 w : World} {m r bk n N : Nat} {R : Rf} {Zm Zr P Q : Nat → Prop} (b k : Int) (pa aa : Option Addr) (pN pc aN ac : Nat) (HD : DI w0 w m r bk n N R.st R Zm Zr P Q) (hn0 : 0 < n) (hn : n ≤ 61440) (hN : N ≤ 1000000) (hNB : R.NB ≤ 1000000)  :
    Calls Try.prog 19 #[.pointer (some ⟨m, 0, none⟩), .pointer (some ⟨r, 0, none⟩), .agg #[.int .i64 3, .int .i64 b, .int .i64 k, .slice pa pN pc, .slice aa aN ac], .pointer (some ⟨bk, 0, none⟩)] w (DoesP w0 m r bk n N R) := by
  have hnn := And.intro hn0 (And.intro hn (And.intro hN hNB))
  clear hnn
  have hb1 : Below w.heap.size w (w.alloc (.cells #[.int .i64 3, .int .i64 b, .int .i64 k, .slice pa pN pc, .slice aa aN ac] 27)) := bal (Below.refl _ _) _
  obtain ⟨w1, hw1⟩ : ∃ w1, w.alloc (.cells #[.int .i64 3, .int .i64 b, .int .i64 k, .slice pa pN pc, .slice aa aN ac] 27) = w1 := ⟨_, rfl⟩
  have HBx1 : Hid (Box w1 w.heap.size (.int .i64 3) (.int .i64 b) (.int .i64 k) (.slice pa pN pc) (.slice aa aN ac)) := by rw [← hw1]; exact heap_alloc_new _ _
  have hI0 := HD
  rw [hw1] at hb1
  have HI1 := Lib.hid (HD.keep hb1)
  have HF := Lib.hid (show ∀ k, w.heap.size ≤ k → w0.heap.size ≤ k ∧ ¬ Zm k ∧ ¬ Zr k ∧ k ≠ bk ∧ ¬ P k ∧ ¬ Q k from fun k hk => HD.fresh hk)
  obtain ⟨g, hg⟩ : ∃ g, w.heap.size = g := ⟨_, rfl⟩
  have hgz : g < w1.heap.size := by rw [← hg, ← hw1, World.size_alloc]; omega
  have HG := Lib.hid (HF.out g (by omega))
  rw [hg] at HBx1 HF
  have HW1 := Lib.hid hw1
  have HGe := Lib.hid hg
  clear HD hb1 hI0 hw1 hg
  go_enter Try.func19, Try.ntmps19
  go_upto_block 0 with fail
  rw [HW1.out, HGe.out]
  clear HW1 HGe
  go_cut [9, 10, 11, 12] (fun s9 s10 s11 s12 wx => TailR w0 m r bk n N R s9 s10 s11 s12 wx)
  case rest =>
    obtain ⟨c, R', L, f, Zm', Zr', P', Q', rfl, rfl, h0, h1, hD, hx, hnx, hy, hL, hR⟩ := hcut
    rename_i hK
    refine hK _ _ ?_
    exact does_tail c _ _ f h0 h1 hD hx hnx hy hL hN (by omega) (Nat.le_refl _) hR
  case first =>
    obtain ⟨x0, x1, x2, x3, x4, xz⟩ := HBx1.out.c
    go_wp2_with fail
    refine (sure_any Zm m n R.st w1 HI1.out.mdl (by show R.many + (R.NB - R.many) ≤ _; have := HI1.out.rok.many; omega)).mono ?_
    rintro e w2 ⟨rfl, hM, ho⟩
    have HI2 := Lib.hid (HI1.out.mutM hM ho (fun k hk => .inl hk) HI1.out.sok.mkSure)
    have HBx2 := Lib.hid (HBx1.out.out ho HG.out.2.1)
    clear x0 x1 x2 x3 x4 xz
    obtain ⟨x0, x1, x2, x3, x4, xz⟩ := HBx2.out.c
    clear hM ho
    go_wp2_with fail
    refine (rsure_any Zr r n R w2 HI2.out.ref).mono ?_
    rintro e w3 ⟨rfl, hM, ho⟩
    have HI3 := Lib.hid (((HI2.out.mutR hM ho (fun k hk => .inl hk) HI2.out.rok.mkSure)).like (R.sure_like HI2.out.rok.many) HI2.out.rok.mkSure.st)
    clear x0 x1 x2 x3 x4 xz
    clear hM ho
    go_wp2_with fail
    go_meet
    exact TailR.nil HI3.out (by omega) (by omega) (Nat.le_succ _)
set_option maxRecDepth 1000000 in
set_option maxHeartbeats 8000000 in
theorem does_none {w0 w : World} {m r bk n N : Nat} {R : Rf} {Zm Zr P Q : Nat → Prop} (kd b k : Int) (pa aa : Option Addr) (pN pc aN ac : Nat) (HD : DI w0 w m r bk n N R.st R Zm Zr P Q) (hn0 : 0 < n) (hn : n ≤ 61440) (hN : N ≤ 1000000) (hNB : R.NB ≤ 1000000) (hk : kd < 1 ∨ 7 < kd) :
    Calls Try.prog 19 #[.pointer (some ⟨m, 0, none⟩), .pointer (some ⟨r, 0, none⟩), .agg #[.int .i64 kd, .int .i64 b, .int .i64 k, .slice pa pN pc, .slice aa aN ac], .pointer (some ⟨bk, 0, none⟩)] w (DoesP w0 m r bk n N R) := by
  have hnn := And.intro hn0 (And.intro hn (And.intro hN hNB))
  clear hnn
  have hb1 : Below w.heap.size w (w.alloc (.cells #[.int .i64 kd, .int .i64 b, .int .i64 k, .slice pa pN pc, .slice aa aN ac] 27)) := bal (Below.refl _ _) _
  obtain ⟨w1, hw1⟩ : ∃ w1, w.alloc (.cells #[.int .i64 kd, .int .i64 b, .int .i64 k, .slice pa pN pc, .slice aa aN ac] 27) = w1 := ⟨_, rfl⟩
  have HBx1 : Hid (Box w1 w.heap.size (.int .i64 kd) (.int .i64 b) (.int .i64 k) (.slice pa pN pc) (.slice aa aN ac)) := by rw [← hw1]; exact heap_alloc_new _ _
  have hI0 := HD
  rw [hw1] at hb1
  have HI1 := Lib.hid (HD.keep hb1)
  have HF := Lib.hid (show ∀ k, w.heap.size ≤ k → w0.heap.size ≤ k ∧ ¬ Zm k ∧ ¬ Zr k ∧ k ≠ bk ∧ ¬ P k ∧ ¬ Q k from fun k hk => HD.fresh hk)
  obtain ⟨g, hg⟩ : ∃ g, w.heap.size = g := ⟨_, rfl⟩
  have hgz : g < w1.heap.size := by rw [← hg, ← hw1, World.size_alloc]; omega
  have HG := Lib.hid (HF.out g (by omega))
  rw [hg] at HBx1 HF
  have HW1 := Lib.hid hw1
  have HGe := Lib.hid hg
  clear HD hb1 hI0 hw1 hg
  go_enter Try.func19, Try.ntmps19
  go_upto_block 0 with fail
  rw [HW1.out, HGe.out]
  clear HW1 HGe
  go_cut [9, 10, 11, 12] (fun s9 s10 s11 s12 wx => TailR w0 m r bk n N R s9 s10 s11 s12 wx)
  case rest =>
    obtain ⟨c, R', L, f, Zm', Zr', P', Q', rfl, rfl, h0, h1, hD, hx, hnx, hy, hL, hR⟩ := hcut
    rename_i hK
    refine hK _ _ ?_
    exact does_tail c _ _ f h0 h1 hD hx hnx hy hL hN (by omega) (Nat.le_refl _) hR
  case first =>
    obtain ⟨x0, x1, x2, x3, x4, xz⟩ := HBx1.out.c
    have e1 : ¬ kd = 1 := by omega
    have e2 : ¬ kd = 2 := by omega
    have e3 : ¬ kd = 3 := by omega
    have e4 : ¬ kd = 4 := by omega
    have e5 : ¬ kd = 5 := by omega
    have e6 : ¬ kd = 6 := by omega
    have e7 : ¬ kd = 7 := by omega
    clear hk
    go_wp2_with fail
    go_meet
    exact TailR.nil HI1.out (by omega) (by omega) (Nat.le_succ _)
end Go.Proofs.Ytgkkmdebpekckaa
