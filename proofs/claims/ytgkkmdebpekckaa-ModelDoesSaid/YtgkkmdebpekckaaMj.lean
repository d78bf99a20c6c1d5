/- Could: whether these may be all blocks' bytes behind a crash. Conditions: as stated. -/
import Derived.Test.YtgkkmdebpekckaaMi
namespace Go.Proofs.Ytgkkmdebpekckaa
open Go.RowKit Go.Shelf
attribute [local go_sem] Oper.semAt_some
theorem Out.putObj {S : Nat → Prop} {a w : World} (h : Out S a w) {l : Nat} (hl : l < a.heap.size → S l) (o : Obj) : Out S a (w.putObj l o) :=
  ⟨h.os, h.tape, h.output, by rw [World.putObj_size]; exact h.size, fun k hk hs => (World.putObj_heap_other (fun e => by subst e; exact hs (hl hk))).trans (h.block k hk hs)⟩
def CouldP (b : Bool) (w : World) (e : Ending) (w' : World) : Prop := e = .returned (.bool b) ∧ Below w.heap.size w w'
/-- A range over a function value, its record laid: what is left is the function's own call. -/
theorem wpIn_range_rec {P : Program} {n : Nat} {g : Operand} {ps : Array Tmp} {assign body : Code} {Q : Exit → Act → World → Prop} {a : Act} {w : World} {gf : Nat} {lb : Array Value}
    (hg : a.eval g = .func (.func gf) #[] lb) (eg : ∀ args w, (callFunc gf args).run P w = .ok (.enter gf args) w)
    (h : ∀ (fn : FuncId) (rc : LoopState → Option Code → Loop), rc = (fun st pe => { state := st, pending := pe, fn, tmps := a.tmps, params := ps, assign, body, defers := w.heap.size }) →
      CallsIn Fence.wide (n - 1) P gf (#[.func (.yield (w.heap.size + 1)) #[] #[]] ++ lb) ((w.alloc (.deferred (some []))).alloc (.loop (rc .ready none)))
        (rangePost Fence.wide n P (w.heap.size + 1) Q { a with defers := [{ target := .collected w.heap.size, args := #[] }] ++ a.defers })) :
    (Code.rangeFunc g ps assign body).wpIn Fence.wide n P Q a w := by
  refine wpIn_rangeFunc ?_
  intro fn hfn
  obtain ⟨rc, hrc⟩ : ∃ rc : LoopState → Option Code → Loop, rc = fun st pe => { state := st, pending := pe, fn, tmps := a.tmps, params := ps, assign, body, defers := w.heap.size } := ⟨_, rfl⟩
  have h1 := h fn rc hrc
  clear h
  obtain ⟨W1, hW1⟩ : ∃ W1, (w.alloc (.deferred (some []))).alloc (.loop (rc .ready none)) = W1 := ⟨_, rfl⟩
  rw [hW1] at h1
  refine ⟨w.heap.size + 1, [{ target := .collected w.heap.size, args := #[] }], W1, { target := .fn (.func gf) lb, args := #[.func (.yield (w.heap.size + 1)) #[] #[]] }, W1, gf,
    #[.func (.yield (w.heap.size + 1)) #[] #[]] ++ lb, W1, ?_, ?_, ?_, ?_, ?_, ?_⟩
  · rw [← hW1, hrc]; exact run_enterLoop_outer _ _ _ _ _
  · simp only [resolve, hg]
    simp [go_sem]
  · exact fun _ _ => True.intro
  · simp [invoke, go_sem, eg]
  · exact fun h => by cases h
  · exact h1
theorem Bts.putLoop {A : World} {l : Nat} {lo : Loop} {v : Value} {n : Nat} {x : Nat → Nat} (h : Bts A v n x) (hl : A.heap[l]? = some (.loop lo)) (o : Obj) : Bts (A.putObj l o) v n x := by
  obtain ⟨a0, c0, e0, h0⟩ := h
  refine ⟨a0, c0, e0, h0.imp id ?_⟩
  rintro ⟨b0, o0, e1, h1⟩
  refine ⟨b0, o0, e1, fun k hk => (World.cell?_of_block (World.putObj_heap_other ?_)).trans (h1 k hk)⟩
  intro e
  have h2 := h1 k hk
  have e' : b0 = l := e
  subst e'
  simp [World.cell?, hl] at h2
/-- The loop is under way in Could: what lies in its blocks. -/
structure CR (w : World) (va : Value) (lo : Loop) (r : Bool) (A : World) : Prop where
  l : A.heap[w.heap.size + 4]? = some (.loop lo)
  D : A.heap[w.heap.size + 3]? = some (.deferred (some []))
  c4 : A.heap[w.heap.size + 1]? = some (.cells #[.bool r] 4 (0, 0))
  c3 : A.heap[w.heap.size]? = some (.cells #[va] 25 (0, 0))
  out : Below w.heap.size w A
theorem CR.below {w : World} {va : Value} {lo : Loop} {r : Bool} {A B : World} {N : Nat} (h : CR w va lo r A) (hb : Below N A B) (hN : w.heap.size + 5 ≤ N) : CR w va lo r B :=
  ⟨(hb.block _ (by omega)).trans h.l, (hb.block _ (by omega)).trans h.D, (hb.block _ (by omega)).trans h.c4, (hb.block _ (by omega)).trans h.c3, h.out.trans (hb.mono (by omega))⟩
theorem CR.put {w : World} {va : Value} {lo lo' : Loop} {r : Bool} {A : World} (h : CR w va lo r A) : CR w va lo' r (A.putObj (w.heap.size + 4) (.loop lo')) :=
  ⟨World.putObj_heap_same (Array.getElem?_eq_some_iff.1 h.l).1, (World.putObj_heap_other (by omega)).trans h.D, (World.putObj_heap_other (by omega)).trans h.c4, (World.putObj_heap_other (by omega)).trans h.c3,
   h.out.trans ((Out.putObj (S := fun k => k = w.heap.size + 4) (Out.refl _ _) (fun _ => rfl) _).below (B := w.heap.size) (fun _ _ e => by omega) h.out.size)⟩
theorem CR.set {w : World} {va : Value} {lo : Loop} {r : Bool} {A : World} (h : CR w va lo r A) (r' : Bool) : CR w va lo r' (A.setCell ⟨w.heap.size + 1, 0, none⟩ (.bool r')) :=
  ⟨(Below.heap_setCell _ _ _ _ (by show w.heap.size + 4 ≠ w.heap.size + 1; omega)).trans h.l, (Below.heap_setCell _ _ _ _ (by show w.heap.size + 3 ≠ w.heap.size + 1; omega)).trans h.D, heap_setCell_same A _ 0 _ _ _ h.c4, (Below.heap_setCell _ _ _ _ (by show w.heap.size ≠ w.heap.size + 1; omega)).trans h.c3,
   h.out.setCell (p := ⟨w.heap.size + 1, 0, none⟩) (by show w.heap.size ≤ w.heap.size + 1; omega) _⟩
theorem CR.endLoop {w : World} {va : Value} {lo : Loop} {r : Bool} {A : World} (h : CR w va lo r A) (hb : lo.state ≠ .busy) {jump : Option Code} (hj : lo.pending = jump) : ∃ lo' W3, (Instr.endLoop (w.heap.size + 4)).run Try.prog A = .ok jump W3 ∧ CR w va lo' r W3 := by
  subst hj
  exact ⟨_, _, run_endLoop h.l hb, h.put⟩
set_option maxRecDepth 100000 in
set_option maxHeartbeats 800000 in
theorem could_any (m n : Nat) (s : St) (gS cS : Nat) (nv lv wv : Value) (bv : Nat → Value) (aa : Option Addr) (nA ca : Nat) (fa : Nat → Nat) (w : World)
    (hv : View (fun _ => False) w m n s gS cS nv lv wv bv) (hs : Lt (128 * n) s.sure) (hok : ∀ k, k < s.L → (s.bt k).ok n) (hwok : s.way.ok n) (hn0 : 0 < n) (hn : n ≤ 61440) (hL : s.L ≤ 1000000)
    (ha : Bts w (.slice aa nA ca) nA fa) (hf : Lt nA fa) (b : Bool) (hb : b = true ↔ s.could n nA fa) :
    Calls Try.prog 13 #[.pointer (some ⟨m, 0, none⟩), .slice aa nA ca] w (CouldP b w) := by
  refine (callsIn_wide (n := 3)).1 ?_
  refine callsIn_of_wp_marks Try.func13 rfl trivial ?_
  simp only [Try.ntmps13, List.size_toArray, List.length_cons, List.length_nil, Nat.reduceAdd, Nat.reduceSub, Array.replicate_succ, Array.replicate_zero, List.push_toArray, List.append_toArray, List.nil_append, List.cons_append]
  have HV := Lib.hid hv
  have HS := Lib.hid hs
  have HK := Lib.hid hok
  have HA := Lib.hid ha
  have HF := Lib.hid hf
  have HBI := Lib.hid hb
  clear hv hs hok ha hf hb
  gi_wp2_with (refine ⟨trivial, ?_⟩; gi_at_call 25; refine (callsIn_wide.2 (fates_any _ _)).mono ?_; rintro e w1 ⟨rfl, rfl⟩)
  rename_i K hK0
  have HK0 := Lib.hid hK0
  clear hK0
  obtain ⟨w0, hw0⟩ : ∃ w0, ((w.alloc (.cells #[.slice aa nA ca] 25)).alloc (.cells #[.bool false] 4)).alloc (.cells #[.pointer (some ⟨m, 0, none⟩)] 29) = w0 := ⟨_, rfl⟩
  have hz0 : w0.heap.size = w.heap.size + 3 := by rw [← hw0]; simp
  have hB0 : w0.heap[w.heap.size]? = some (.cells #[.slice aa nA ca] 25 (0, 0)) := by
    rw [← hw0]; exact ((Below.heap_alloc _ _ _ (by simp; omega)).trans (Below.heap_alloc _ _ _ (by simp))).trans (World.alloc_heap_new w _)
  have hB1 : w0.heap[w.heap.size + 1]? = some (.cells #[.bool false] 4 (0, 0)) := by
    rw [← hw0]; refine (Below.heap_alloc _ _ _ (by simp)).trans ?_
    have := World.alloc_heap_new (w.alloc (.cells #[.slice aa nA ca] 25)) (.cells #[.bool false] 4); rwa [World.size_alloc] at this
  have hB2 : w0.heap[w.heap.size + 1 + 1]? = some (.cells #[.pointer (some ⟨m, 0, none⟩)] 29 (0, 0)) := by
    rw [← hw0]; have := World.alloc_heap_new ((w.alloc (.cells #[.slice aa nA ca] 25)).alloc (.cells #[.bool false] 4)) (.cells #[.pointer (some ⟨m, 0, none⟩)] 29); rwa [World.size_alloc, World.size_alloc] at this
  have hw : Below w.heap.size w w0 := by rw [← hw0]; exact bal (bal (bal (Below.refl _ _) _) _) _
  rw [hw0]
  refine wpIn_range_rec (gf := 59) (lb := #[.pointer (some ⟨w.heap.size + 1 + 1, 0, none⟩)]) rfl (enters_of Try.func59 (by kernel_rfl) rfl) ?_
  intro fn rc hrc
  rw [hz0]
  obtain ⟨W1, hW1⟩ : ∃ W1, (w0.alloc (.deferred (some []))).alloc (.loop (rc .ready none)) = W1 := ⟨_, rfl⟩
  rw [hW1]
  have hold : ∀ k, k < w0.heap.size → W1.heap[k]? = w0.heap[k]? := fun k hk => by
    rw [← hW1]; exact (Below.heap_alloc _ _ k (by simp; omega)).trans (Below.heap_alloc _ _ k hk)
  have hb1 : Below w.heap.size w W1 := by rw [← hW1]; exact bal (bal hw _) _
  have hs1 : W1.heap.size = w.heap.size + 5 := by rw [← hW1]; simp [hz0]
  have hCR : CR w (.slice aa nA ca) (rc .ready none) false W1 := by
    refine ⟨?_, ?_, (hold _ (by omega)).trans hB1, (hold _ (by omega)).trans hB0, hb1⟩
    · rw [← hW1]; have := World.alloc_heap_new (w0.alloc (.deferred (some []))) (.loop (rc .ready none)); rwa [World.size_alloc, hz0] at this
    · rw [← hW1]; have := (Below.heap_alloc (w0.alloc (.deferred (some []))) (.loop (rc .ready none)) w0.heap.size (by simp)).trans (World.alloc_heap_new w0 _); rwa [hz0] at this
  have hVX : View (fun k => k = w.heap.size + 4 ∨ k = w.heap.size + 1) W1 m n s gS cS nv lv wv bv :=
    (HV.out.mono (Y := fun k => k = w.heap.size + 4 ∨ k = w.heap.size + 1) (fun k hk h => by omega)).out (Out.of_below (S := fun _ => False) hb1) (fun _ _ h => h.elim)
  have hHA : Bts W1 (.slice aa nA ca) nA fa := HA.out.keep hb1
  refine (iter_any (w.heap.size + 4) (w.heap.size + 1 + 1) m n nA fa s gS cS nv lv wv bv (fun k => k = w.heap.size + 4 ∨ k = w.heap.size + 1) (CR w (.slice aa nA ca) (rc .ready none) false) (CR w (.slice aa nA ca) (rc .done (some .ret)) true) W1
    hVX HS.out HK.out hwok hn0 hn hL ((hold _ (by omega)).trans hB2) (by omega) (fun k hk => by omega) hCR (fun A B hA hB => hA.below hB (by omega)) ?_).mono ?_
  · intro q v x A hA hv hx
    have hl := hA.l
    have hy := run_yield (P := Try.prog) (args := #[v]) hl (by rw [hrc]; rfl)
    rw [show (rc .ready none).fn = fn by rw [hrc]] at hy
    refine ⟨fn, _, _, _, hy, roundIn_of_wpIn trivial ?_⟩
    have hbr := run_beginRound (P := Try.prog) hl (by rw [hrc])
    have hA2 := hA.put (lo' := { rc .ready none with state := .busy })
    obtain ⟨A2, hA2e⟩ : ∃ A2, A.putObj (w.heap.size + 4) (.loop { rc .ready none with state := .busy }) = A2 := ⟨_, rfl⟩
    rw [hA2e] at hbr hA2
    have HA2 := Lib.hid hA2
    have HVB := Lib.hid hv
    have HXB := Lib.hid hx
    have HEQ : Hid (Bts A2 (.slice aa nA ca) nA fa) := HA.out.keep hA2.out
    have HEX : Hid (Bts A2 v (128 * n) x) := by
      rw [← hA2e]; exact hv.putLoop hl _
    obtain ⟨c3, _, _⟩ := cr hA2.c3
    obtain ⟨c4, f4, z4⟩ := cr hA2.c4
    have HO2 : Hid (Out (fun k => k = w.heap.size + 4 ∨ k = w.heap.size + 1) A A2) := by
      rw [← hA2e]
      exact Out.putObj (Out.refl _ _) (fun _ => .inl rfl) _
    obtain ⟨R, hR⟩ : ∃ R, RoundP (fun k => k = w.heap.size + 4 ∨ k = w.heap.size + 1) (CR w (.slice aa nA ca) (rc .ready none) false) (CR w (.slice aa nA ca) (rc .done (some .ret)) true) (eqB (128 * n) nA x fa) A = R := ⟨_, rfl⟩
    rw [hR, hrc]
    have HRC := Lib.hid hrc
    clear hrc hv hx hA2e hA hl hy hA2
    gi_wp2
    refine ⟨A2, hbr, ?_⟩
    clear hbr
    have HEqual := equal_any v (.slice aa nA ca) (128 * n) nA x fa A2 HEX.out HEQ.out HXB.out HF.out
    obtain ⟨be, hbe⟩ : ∃ be, eqB (128 * n) nA x fa = be := ⟨_, rfl⟩
    rw [hbe] at HEqual hR
    clear hbe
    cases be
    all_goals
      gi_wp2_with (first | (refine ⟨trivial, (fun h => by cases h), ?_⟩; gi_at_call 26; refine (CallsIn.inRound (w.heap.size + 4) (callsIn_wide.2 HEqual)).mono ?_; clear HEqual; rintro e w' ⟨rfl, rfl⟩))
    · have h3 := HA2.out
      have hend := run_endRound (P := Try.prog) none h3.l
      refine ⟨_, _, hend, ?_⟩
      have e1 : ({ ({ rc .ready none with state := .busy } : Loop) with state := if (none : Option Code).isNone then .ready else .done, pending := none } : Loop) = rc .ready none := by rw [HRC.out]; rfl
      rw [e1, ← hR]
      exact ⟨rfl, Out.putObj HO2.out (fun _ => .inl rfl) _, .inl ⟨rfl, h3.put⟩⟩
    · have h3 := HA2.out.set true
      have hend := run_endRound (P := Try.prog) (some .ret) h3.l
      refine ⟨_, _, hend, ?_⟩
      have e1 : ({ ({ rc .ready none with state := .busy } : Loop) with state := if (some Code.ret : Option Code).isNone then .ready else .done, pending := some Code.ret } : Loop) = rc .done (some .ret) := by rw [HRC.out]; rfl
      rw [e1, ← hR]
      exact ⟨rfl, Out.putObj (HO2.out.setCell (p := ⟨w.heap.size + 1, 0, none⟩) (fun _ => .inr rfl) _) (fun _ => .inl rfl) _, .inr ⟨rfl, h3.put⟩⟩
  · rintro e W2 ⟨⟨v, rfl⟩, _, h2⟩
    rcases h2 with ⟨hno, h2⟩ | ⟨hyes, h2⟩
    · have hbf : b = false := by
        cases b
        · rfl
        · exact absurd (HBI.out.1 rfl) hno
      obtain ⟨lo', W3, hend, h3⟩ := h2.endLoop (by rw [hrc]; simp) (jump := none) (by rw [hrc])
      refine ⟨none, W3, hend, ?_⟩
      refine HK0.out _ _ ?_
      obtain ⟨c4, f4, z4⟩ := cr h3.c4
      have h4 := h3.set false
      have H3 := Lib.hid h3
      have H4 := Lib.hid h4
      clear hend h3 h4 hw0 hB0 hB1 hB2 hw hrc hold hb1 hs1 hVX hHA h2 hno hCR hW1
      gi_wp2
      refine ⟨by simp, .inl ⟨_, _, rfl, run_takeDeferred H4.out.D, ?_⟩⟩
      have hc5 : ((W3.setCell ⟨w.heap.size + 1, 0, none⟩ (.bool false)).putObj (w.heap.size + 3) (.deferred none)).cell? ⟨w.heap.size + 1, 0, none⟩ = some (.bool false) :=
        (World.cell?_of_block (World.putObj_heap_other (k := w.heap.size + 1) (by omega))).trans ((cr H4.out.c4).1 0)
      refine ⟨.bool false, ?_, (by first | rfl | rw [hbf]), ?_⟩
      · simp [results, Try.f13, go_sem, hc5]
      · exact H4.out.out.trans ((Out.putObj (S := fun k => k = w.heap.size + 3) (Out.refl _ _) (fun _ => rfl) _).below (B := w.heap.size) (fun _ _ e => by omega) H4.out.out.size)
    · have hbt : b = true := HBI.out.2 hyes
      obtain ⟨lo', W3, hend, h3⟩ := h2.endLoop (by rw [hrc]; simp) (jump := some .ret) (by rw [hrc])
      refine ⟨some .ret, W3, hend, ?_⟩
      obtain ⟨c4, f4, z4⟩ := cr h3.c4
      have H3 := Lib.hid h3
      clear hend h3 hw0 hB0 hB1 hB2 hw hrc hold hb1 hs1 hVX hHA h2 hyes hCR hW1
      gi_wp2
      refine ⟨by simp, .inl ⟨_, _, rfl, run_takeDeferred H3.out.D, ?_⟩⟩
      have hc5 : (W3.putObj (w.heap.size + 3) (.deferred none)).cell? ⟨w.heap.size + 1, 0, none⟩ = some (.bool true) :=
        (World.cell?_of_block (World.putObj_heap_other (k := w.heap.size + 1) (by omega))).trans ((cr H3.out.c4).1 0)
      refine ⟨.bool true, ?_, (by first | rfl | rw [hbt]), ?_⟩
      · simp [results, Try.f13, go_sem, hc5]
      · exact H3.out.out.trans ((Out.putObj (S := fun k => k = w.heap.size + 3) (Out.refl _ _) (fun _ => rfl) _).below (B := w.heap.size) (fun _ _ e => by omega) H3.out.out.size)
end Go.Proofs.Ytgkkmdebpekckaa
