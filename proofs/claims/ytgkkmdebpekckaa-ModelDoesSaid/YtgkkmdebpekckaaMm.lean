/- Under, Sure, Write, Crash. Conditions: as stated at each. -/
import Derived.Test.YtgkkmdebpekckaaMl
import Derived.Deep.RegionHeld3
namespace Go.Proofs.Ytgkkmdebpekckaa
open Go.RowKit Go.Shelf
section
variable {P : Program} (w : World)
theorem step_append_two {ops : Array Oper} {o : Oper} {a : Act} {K : Act → World → Prop} {Q : Exit → Act → World → Prop} {E : Prop} (hgd : o.guard = none) (s x : Operand) (t : TypeId)
    (ho : o.op = .call { callee := .builtin .append, args := #[s, x], argTypes := #[t, t] })
    (base : Nat) (e : TypeId) (i : TypeInfo) (z : Value) (size bytes : Nat) (ht : P.underlying t = some (.slice e)) (hi : P.info? e = some i) (hz : i.zero = some z)
    (hsize : i.size = size) (hby : i.bytes = bytes) (hzs : z.cells.size = size) (hsz : 0 < size)
    (v : Value) (n : Nat) (xs : List Value) (hs : a.eval s = v) (hown : w.ownsRow base e size v n xs)
    (ad : Addr) (m c : Nat) (news : List Value) (hx : a.eval x = .slice (some ad) m c) (hl : news.length = m * size) (hnews : ∀ j u, news[j]? = some u → w.cell? (ad.add j) = some u) (h1 : ∀ u ∈ news, u.oneCell' = true)
    (hm : 0 < m) (h63 : n + m ≤ maxLen) (hbytes : (n + m) * bytes ≤ 140737488355328) (hbase : base ≤ w.heap.size)
    (h : ∀ v' w', w'.ownsRow base e size v' (n + m) (xs ++ news) → Two w.heap.size w v n m v' w' → K (a.put o.dst v') w') :
    if Region.wanted o (yielded ops a.tmps) = true then Oper.wp P o a w K Q else E := by
  have hw : Region.wanted o (yielded ops a.tmps) = true := by simp [Region.wanted, hgd]
  rw [if_pos hw]
  obtain ⟨v', w', hr, h2, h3⟩ := run_append_two (P := P) w base t o.type e i z size bytes ht hi hz hsize hby hzs hsz v n xs hown ad m c news hl hnews h1 hm h63 hbytes hbase
  unfold Oper.wp execOp
  simp only [ho, resolve, invoke, builtin, Sem.run_bind, Sem.run_pure, Result.andThen_ok, List.map_toArray, List.map_cons, List.map_nil, hs, hx, hr]
  exact h v' w' h2 h3
end
/-- A batch that is taken, as one that fits. -/
def Ar.bt (a : Ar) : Bt := ⟨a.N, fun i => (a.bl i).toNat, a.f⟩
structure Ar.taken (n : Nat) (a : Ar) : Prop where
  N : a.N ≤ 256
  bl : ∀ i, i < a.N → 0 ≤ a.bl i ∧ a.bl i < n
  len : ∀ i, i < a.N → a.len i = 128
theorem Ar.taken_of {n : Nat} {a : Ar} (h : a.chk n = 0) : a.taken n := by
  unfold Ar.chk at h
  by_cases h1 : 256 < a.N
  · rw [if_pos h1] at h; omega
  rw [if_neg h1] at h
  by_cases h2 : anyB a.N (a.away n) = true
  · rw [if_pos h2] at h; omega
  rw [if_neg h2] at h
  by_cases h3 : anyB a.N a.odd = true
  · rw [if_pos h3] at h; omega
  have h2' : anyB a.N (a.away n) = false := by simpa using h2
  have h3' : anyB a.N a.odd = false := by simpa using h3
  refine ⟨by omega, fun i hi => ?_, fun i hi => ?_⟩
  · have := anyB_no h2' i hi
    simp [Ar.away] at this
    omega
  · have := anyB_no h3' i hi
    simp [Ar.odd] at this
    omega
/-- The bytes are bytes. -/
def Ar.lt (a : Ar) : Prop := ∀ i, i < a.N → Lt (a.len i) (a.f i)
theorem Ar.taken.ok {n : Nat} {a : Ar} (h : a.taken n) (hl : a.lt) : a.bt.ok n :=
  ⟨h.N, fun i hi => by have := h.bl i hi; show (a.bl i).toNat < n; omega, fun i hi => by have := hl i hi; rw [h.len i hi] at this; exact this⟩
theorem Ar.taken.at {X : Nat → Prop} {w : World} {v : Value} {n : Nat} {a : Ar} (h : a.taken n) (hx : ArX X w v a) : BatX X w v a.bt := by
  obtain ⟨dv, ⟨a0, cap, e, h0⟩, hd⟩ := hx
  refine ⟨dv, ⟨a0, cap, e, ?_⟩, fun i hi => by have := hd i hi; rw [h.len i hi] at this; exact this⟩
  rcases h0 with h0 | ⟨b, o, e1, hX, hc⟩
  · exact .inl h0
  · refine .inr ⟨b, o, e1, hX, fun i hi => ⟨?_, (hc i hi).2⟩⟩
    show w.cell? ⟨b, o + i * 2, none⟩ = some (.int .i64 (((a.bl i).toNat : Nat) : Int))
    have := h.bl i hi
    rw [Int.toNat_of_nonneg this.1]
    exact (hc i hi).1
/-- What own hands back, as a batch in new blocks. -/
theorem OwnP.at {a : Bt} {w w' : World} {e : Ending} {X : Nat → Prop} (h : OwnP a.N (fun i => (a.bl i : Int)) a.f w e w') (hX : ∀ k, w.heap.size ≤ k → k < w'.heap.size → ¬ X k) :
    ∃ a0 cap, e = .returned (.slice a0 a.N cap) ∧ BatX X w' (.slice a0 a.N cap) a ∧ Below w.heap.size w w' := by
  obtain ⟨v, dv, rfl, ho, hd, hb⟩ := h
  obtain ⟨a0, cap, rfl, hf⟩ := own_formN ho
  refine ⟨a0, cap, rfl, ⟨dv, ?_, fun i hi => own_btsX (hd i hi) fun k hk => hX k ((hd i hi).lt k hk).1 ((hd i hi).lt k hk).2⟩, hb⟩
  rcases hf with h0 | ⟨g, rfl⟩
  · exact ⟨_, _, rfl, .inl h0⟩
  · exact PtsX.of ho (hX g (ho.lt g rfl).1 (ho.lt g rfl).2)
def St.under (s : St) (b : Bt) : St := { s with way := b }
def St.mkSure (s : St) : St := { s with many := s.many + s.L, L := 0, sure := s.now }
def St.write (s : St) (b : Bt) : St := { s with L := s.L + 1, bt := fun k => if k = s.L then b else s.bt k, way := noBt, now := layN s.now b.bl b.f b.N }
def MutP (m n : Nat) (c : Int) (Z : Nat → Prop) (s' : St) (w : World) (e : Ending) (w' : World) : Prop :=
  e = .returned (.int .u16 c) ∧ ∃ Z', MdlAt Z' w' m n s' ∧ Out Z w w' ∧ ∀ k, Z' k → Z k ∨ w.heap.size ≤ k
theorem MutP.same {m n : Nat} {c : Int} {Z : Nat → Prop} {s : St} {w w' : World} (h : MdlAt Z w m n s) (hb : Below w.heap.size w w') : MutP m n c Z s w (.returned (.int .u16 c)) w' :=
  ⟨rfl, Z, h.keep hb, Out.of_below hb, fun _ h => .inl h⟩
/-- The way is set to a batch in new blocks. -/
theorem Mdl.setWay {Z : Nat → Prop} {w w1 : World} {m n : Nat} {s : St} {gS cS gN cN : Nat} {lv wv : Value} {bv : Nat → Value} (h : Mdl Z w m n s gS cS gN cN lv wv bv) (hb : Below w.heap.size w w1) {v : Value} {b : Bt}
    (hv : BatX (fun k => k < w.heap.size) w1 v b) : ∃ Z', MdlAt Z' (w1.setCell ⟨m, 4, none⟩ v) m n (s.under b) ∧ Out Z w (w1.setCell ⟨m, 4, none⟩ v) ∧ ∀ k, Z' k → Z k ∨ w.heap.size ≤ k := by
  have hm : m < w.heap.size := h.zlt m (h.zx m (.inl rfl))
  have h1 := h.out (Out.of_below (S := fun _ => False) hb) (fun _ _ h => h.elim)
  have ho : Out (fun k => k = m) w1 (w1.setCell ⟨m, 4, none⟩ v) := Out.setCell (S := fun k => k = m) (Out.refl _ _) (p := ⟨m, 4, none⟩) (fun _ => rfl) v
  have hMx : ∀ k, Mx m gS gN lv k → Z k := h.zx
  refine ⟨fun k => Z k ∨ (w.heap.size ≤ k ∧ k < w1.heap.size), ⟨gS, cS, gN, cN, lv, v, bv, ?_, ?_, ?_, ?_, fun k hk => ?_, ?_, fun k hk => .inl (h.zx k hk), fun k hk => ?_, h.d1, h.d2, h.d3, h.d4⟩, ?_, fun k hk => hk.imp id And.left⟩
  · exact heap_setCell_same w1 m 4 _ 68 v h1.blk
  · exact ho.own h1.sure (fun k hk e => by cases hk; exact h.d1 e.symm)
  · exact ho.own h1.now (fun k hk e => by cases hk; exact h.d2 e.symm)
  · exact ho.own h1.loose (fun k hk e => (h.d4 k hk).1 e)
  · refine ((h1.bat k hk).mono fun b hb hz => ?_).out ho (fun b _ e => .inr (.inl e))
    rcases hz with hz | hz
    · exact .inl fun e => hz (.inl e)
    · exact .inr hz
  · refine (hv.mono fun b hb hz => ?_).out ho (fun b _ e => .inr (.inl e))
    rcases hz with hz | hz
    · have : ¬ (w.heap.size ≤ b ∧ b < w1.heap.size) := fun e => hz (.inr e)
      show b < w.heap.size
      omega
    · exact h.zlt b (h.zx b hz)
  · rw [World.size_setCell]
    rcases hk with hk | hk
    · exact Nat.lt_of_lt_of_le (h.zlt k hk) hb.size
    · exact hk.2
  · exact (Out.of_below hb).setCell (p := ⟨m, 4, none⟩) (fun _ => h.zx m (.inl rfl)) v
/-- What Under and Write do. -/
def St.un (n : Nat) (s : St) (a : Ar) : St := if a.chk n = 0 then s.under a.bt else s
def St.wr (n : Nat) (s : St) (a : Ar) : St := if a.chk n = 0 ∧ 0 < a.N then s.write a.bt else s
theorem chk_cases (n : Nat) (a : Ar) : a.chk n = 0 ∨ (a.chk n ≠ 0 ∧ (a.chk n = 1 ∨ a.chk n = 3 ∨ a.chk n = 4)) := by
  unfold Ar.chk
  by_cases h1 : 256 < a.N
  · right; simp [h1]
  by_cases h2 : anyB a.N (a.away n) = true
  · right; simp [h1, h2]
  by_cases h3 : anyB a.N a.odd = true
  · right; simp [h1, h2, h3]
  · left; simp [h1, h2, h3]
set_option maxRecDepth 100000 in
set_option maxHeartbeats 800000 in
theorem under_any (Z : Nat → Prop) (m n : Nat) (s : St) (a : Ar) (v : Value) (w : World) (h : MdlAt Z w m n s) (hn : n ≤ 61440) (hv : ArX (fun _ => False) w v a) :
    Calls Try.prog 17 #[.pointer (some ⟨m, 0, none⟩), v] w (MutP m n (a.chk n) Z (s.un n a) w) := by
  obtain ⟨gS, cS, gN, cN, lv, wv, bv, h⟩ := h
  have HM := Lib.hid h
  have hcheck := Lib.hid (check_any m n cN _ _ _ _ _ a v w h.blk hn hv)
  have hmz : m < w.heap.size := h.zlt m (h.zx m (.inl rfl))
  clear h
  rcases chk_cases n a with h0 | ⟨hne, hc⟩
  · have ht := Ar.taken_of h0
    have e0 : s.un n a = s.under a.bt := if_pos h0
    rw [e0]
    rw [h0] at hcheck ⊢
    have HV := Lib.hid hv
    have HT := Lib.hid ht
    clear h0 e0 ht hv
    go_enter Try.func17, Try.ntmps17
    go_wp2_with (first | (go_at_call 22; refine hcheck.out.mono ?_; rintro e w1 ⟨rfl, hb⟩; have HB := Lib.hid hb; clear hb hcheck))
    have hb1 : BatX (fun _ => False) w1 v a.bt := (HT.out.at HV.out).out (Out.of_below (S := fun _ => False) HB.out) (fun _ _ h => h)
    obtain ⟨dv, hpt, hdt⟩ := hb1
    have hown := Lib.hid (own_any v a.bt.N (fun i => (a.bt.bl i : Int)) dv a.bt.f (fun _ => False) w1 hpt hdt (by have := HT.out.N; show a.N ≤ _; omega))
    clear hpt hdt
    go_wp2_with fail
    refine hown.out.mono ?_
    clear hown
    intro e w2 hO
    obtain ⟨va, vc, rfl, hbat, hb⟩ := hO.at (X := fun k => k < w1.heap.size) (fun k h _ => by omega)
    have hbw : Below w.heap.size w w2 := HB.out.trans (hb.mono HB.out.size)
    have HBW := Lib.hid hbw
    have HBat : Hid (BatX (fun k => k < w.heap.size) w2 (.slice va a.bt.N vc) a.bt) := hbat.mono (fun k _ h => Nat.lt_of_lt_of_le h HB.out.size)
    obtain ⟨k1, f1, z1⟩ := cr (HM.out.out (Out.of_below (S := fun _ => False) HBW.out) (fun _ _ h => h.elim)).blk
    clear hbat hb hbw
    go_wp2
    go_ret
    obtain ⟨Z', h1, h2, h3⟩ := HM.out.setWay HBW.out HBat.out
    exact ⟨rfl, Z', h1, h2, h3⟩
  · have e0 : s.un n a = s := if_neg hne
    rw [e0]
    obtain ⟨c, hcc⟩ : ∃ c, a.chk n = c := ⟨_, rfl⟩
    rw [hcc] at hcheck hne hc ⊢
    clear e0 hcc hv
    have hne' : ((c : Int) == 0) = false := by simp; exact hne
    go_enter Try.func17, Try.ntmps17
    go_wp2_with (first | (go_at_call 22; refine hcheck.out.mono ?_; rintro e w1 ⟨rfl, hb⟩; have HB := Lib.hid hb; clear hb hcheck))
    go_ret
    exact MutP.same ⟨_, _, _, _, _, _, _, HM.out⟩ HB.out
/-- The loose ones are made sure, but for the bytes. -/
theorem Mdl.tight {Z : Nat → Prop} {w : World} {m n : Nat} {s : St} {gS cS gN cN : Nat} {lv wv : Value} {bv : Nat → Value} (h : Mdl Z w m n s gS cS gN cN lv wv bv) (M : Int) (hM : M = ((s.many + s.L : Nat) : Int)) :
    Mdl Z ((w.setCell ⟨m, 2, none⟩ (.int .i64 M)).setCell ⟨m, 3, none⟩ (.slice none 0 0)).drew m n { s with many := s.many + s.L, L := 0 } gS cS gN cN (.slice none 0 0) wv bv ∧ Out (fun k => k = m) w ((w.setCell ⟨m, 2, none⟩ (.int .i64 M)).setCell ⟨m, 3, none⟩ (.slice none 0 0)).drew := by
  subst hM
  have ho : Out (fun k => k = m) w ((w.setCell ⟨m, 2, none⟩ (.int .i64 ((s.many + s.L : Nat) : Int))).setCell ⟨m, 3, none⟩ (.slice none 0 0)).drew :=
    ((Out.setCell (S := fun k => k = m) (Out.refl _ _) (p := ⟨m, 2, none⟩) (fun _ => rfl) _).setCell (p := ⟨m, 3, none⟩) (fun _ => rfl) _).drew
  refine ⟨⟨?_, ?_, ?_, World.ownsRow_nil _ _ _ _, fun k hk => absurd hk (Nat.not_lt_zero _), ?_, fun k hk => ?_, fun k hk => ?_, h.d1, h.d2, h.d3, fun k hk => by cases hk⟩, ho⟩
  · have e1 := heap_setCell_same w m 2 _ 68 (.int .i64 ((s.many + s.L : Nat) : Int)) h.blk
    exact heap_setCell_same _ m 3 _ 68 (.slice none 0 0) e1
  · exact ho.own h.sure (fun k hk e => by cases hk; exact h.d1 e.symm)
  · exact ho.own h.now (fun k hk e => by cases hk; exact h.d2 e.symm)
  · refine BatX.out (h.way.mono fun b hb hz => ?_) ho (fun b _ e => .inr (.inl e))
    rcases hz with hz | hz
    · exact .inl hz
    · refine .inr ?_
      rcases hz with hz | hz | hz | hz
      · exact .inl hz
      · exact .inr (.inl hz)
      · exact .inr (.inr (.inl hz))
      · cases hz
  · refine h.zx k ?_
    rcases hk with hz | hz | hz | hz
    · exact .inl hz
    · exact .inr (.inl hz)
    · exact .inr (.inr (.inl hz))
    · cases hz
  · exact Nat.lt_of_lt_of_le (h.zlt k hk) ho.size
theorem splice_all {α : Type} (L cs : List α) (h : L.length = cs.length) : splice L 0 cs = cs := by
  unfold splice
  simp [h]
/-- The sure bytes become the present ones. -/
theorem Mdl.level {Z : Nat → Prop} {w w1 : World} {m n : Nat} {s : St} {gS cS gN cN : Nat} {lv wv : Value} {bv : Nat → Value} (h : Mdl Z w m n s gS cS gN cN lv wv bv)
    (ho : Out (fun b => b = gS) w w1) (hr : w1.ownsRow 0 5 1 (.slice (some ⟨gS, 0, none⟩) (128 * n) cS) (128 * n) (bytesL (128 * n) s.now)) : Mdl Z w1 m n { s with sure := s.now } gS cS gN cN lv wv bv := by
  refine ⟨ho.heap h.blk h.d1, hr, ho.own h.now (fun k hk e => by cases hk; exact h.d3 e.symm), ho.own h.loose (fun k hk e => (h.d4 k hk).2.1 e), fun k hk => (h.bat k hk).out ho (fun b _ e => .inr (.inr (.inl e))), h.way.out ho (fun b _ e => .inr (.inr (.inl e))), h.zx, fun k hk => Nat.lt_of_lt_of_le (h.zlt k hk) ho.size, h.d1, h.d2, h.d3, h.d4⟩
theorem size5' : (Try.prog.info? 5).map (·.size) = some 1 := by kernel_rfl
def SureP (m n : Nat) (Z : Nat → Prop) (s' : St) (w : World) (e : Ending) (w' : World) : Prop :=
  e = .returned (.tuple #[]) ∧ MdlAt Z w' m n s' ∧ Out Z w w'
set_option maxRecDepth 100000 in
set_option maxHeartbeats 800000 in
theorem sure_any (Z : Nat → Prop) (m n : Nat) (s : St) (w : World) (h : MdlAt Z w m n s) (hm : s.many + s.L ≤ 1000000000) :
    Calls Try.prog 10 #[.pointer (some ⟨m, 0, none⟩)] w (SureP m n Z s.mkSure w) := by
  obtain ⟨gS, cS, gN, cN, lv, wv, bv, h⟩ := h
  have HM := Lib.hid h
  obtain ⟨la, lc, rfl, -⟩ := own_formN h.loose
  obtain ⟨_, ⟨wa, wc, rfl, -⟩, -⟩ := h.way
  obtain ⟨k1, f1, z1⟩ := cr h.blk
  clear h
  obtain ⟨M, hM⟩ : ∃ M, s.many = M := ⟨_, rfl⟩
  obtain ⟨q, hq⟩ : ∃ q, s.L = q := ⟨_, rfl⟩
  rw [hM, hq] at hm k1
  have i1 : (0 : Int) ≤ (M : Int) := by omega
  have i2 : (0 : Int) ≤ (q : Int) := by omega
  have i3 : (M : Int) + (q : Int) ≤ 1000000000 := by omega
  have HMQ := Lib.hid (And.intro hM hq)
  clear hM hq hm
  go_enter Try.func10, Try.ntmps10
  go_wp2
  go_region
  go_wp2
  obtain ⟨h4, ho4⟩ := HM.out.tight ((M : Int) + q) (by rw [HMQ.out.1, HMQ.out.2]; simp)
  revert h4 ho4
  generalize ((w.setCell ⟨m, 2, none⟩ (.int .i64 ((M : Int) + q))).setCell ⟨m, 3, none⟩ (.slice none 0 0)).drew = W
  intro h4 ho4
  have H4 := Lib.hid h4
  have HO4 := Lib.hid ho4
  clear k1 f1 z1 h4 ho4
  obtain ⟨k1, f1, z1⟩ := cr H4.out.blk
  obtain ⟨L, hL⟩ : ∃ L, 128 * n = L := ⟨_, rfl⟩
  have HSu : Hid (W.ownsRow 0 5 1 (.slice (some ⟨gS, 0, none⟩) L cS) L (bytesL L s.sure)) := by rw [← hL]; exact H4.out.sure
  have HNo : Hid (∀ w', Below W.heap.size W w' → ∀ j u, (bytesL L s.now)[j]? = some u → w'.cell? ((⟨gN, 0, none⟩ : Addr).add j) = some u) := fun w' hb j u hj => by
    have h1 := (own_keep hb H4.out.now).cells (g := gN) rfl j u (by show (bytesL (128 * n) s.now)[j]? = _; rw [hL]; exact hj)
    exact h1
  have HLn := Lib.hid hL
  rw [hL] at k1
  clear hL
  go_region_law (refine step_copy_lies _ rfl (.tmp 20) (.tmp 24) 66 66 rfl 5 0 gS L cS 0 L cS (bytesL L s.sure) (own_keep (w := W) (by go_grown) HSu.out) ⟨gN, 0, none⟩ L cN (bytesL L s.now) Try.underlying66 size5 (by simp [Act.eval]) (by simp [Act.eval]) (by rw [bytesL_len]; exact (Nat.min_eq_left (by omega)).symm) (by rw [bytesL_len]; omega) (HNo.out _ (by go_grown)) (bytesL_one _ _) ?_; intro w3 ho hout; have HO := Lib.hid ho; have HOut := Lib.hid hout; clear ho hout)
  all_goals go_wp2
  all_goals go_end0
  all_goals (
    have hr := HO.out
    rw [splice_all _ _ (by rw [bytesL_len, bytesL_len]), ← HLn.out] at hr
    have ho5 : Out (fun b => b = gS) W w3 := (Out.drew (Out.refl _ _)).tr HOut.out
    have h5 := H4.out.level ho5 hr
    refine ⟨rfl, ⟨_, _, _, _, _, _, _, h5⟩, (HO4.out.mono fun k _ e => ?_).tr (ho5.mono fun k _ e => ?_)⟩
    · rw [e]; exact HM.out.zx m (.inl rfl)
    · rw [e]; exact HM.out.zx gS (.inr (.inl rfl)))
/-- The struct is overwritten: two fresh rows. -/
theorem mdl_crash {Z : Nat → Prop} {w w1 : World} {m n g1 c1 g2 c2 : Nat} {s : St} {x : Nat → Nat} {q0 q1 q2 q3 q4 : Value} (h : MdlAt Z w m n s) (hb : Below w.heap.size w w1) (hcs : w1.heap[m]? = some (.cells #[q0, q1, q2, q3, q4] 68 (0, 0)))
    (h1 : w1.ownsRow w.heap.size 5 1 (.slice (some ⟨g1, 0, none⟩) (128 * n) c1) (128 * n) (bytesL (128 * n) x)) (h2 : w1.ownsRow w.heap.size 5 1 (.slice (some ⟨g2, 0, none⟩) (128 * n) c2) (128 * n) (bytesL (128 * n) x)) (hne : g1 ≠ g2)
    {W : World} (hW : W = ((((w1.setCell ⟨m, 0, none⟩ (.slice (some ⟨g1, 0, none⟩) (128 * n) c1)).setCell ⟨m, 1, none⟩ (.slice (some ⟨g2, 0, none⟩) (128 * n) c2)).setCell ⟨m, 2, none⟩ (.int .i64 0)).setCell ⟨m, 3, none⟩ (.slice none 0 0)).setCell ⟨m, 4, none⟩ (.slice none 0 0)) :
    ∃ Z', MdlAt Z' W m n (St.start x) ∧ Out Z w W ∧ ∀ k, Z' k → Z k ∨ w.heap.size ≤ k := by
  have hz : m < w.heap.size := h.lt m h.mz
  have ho : Out (fun k => k = m) w1 W := by
    subst hW
    exact ((((Out.setCell (S := fun k => k = m) (Out.refl _ _) (p := ⟨m, 0, none⟩) (fun _ => rfl) _).setCell (p := ⟨m, 1, none⟩) (fun _ => rfl) _).setCell (p := ⟨m, 2, none⟩) (fun _ => rfl) _).setCell (p := ⟨m, 3, none⟩) (fun _ => rfl) _).setCell (p := ⟨m, 4, none⟩) (fun _ => rfl) _
  have hg1 := h1.lt g1 rfl
  have hg2 := h2.lt g2 rfl
  refine ⟨_, mdl_fresh (w := w) (gS := g1) (gN := g2) (cS := c1) (cN := c2) (m := m) (x := x) (ho.own h1 fun k hk e => by cases hk; have e' : g1 = m := e; omega) (ho.own h2 fun k hk e => by cases hk; have e' : g2 = m := e; omega) ?_ (by omega) (by omega) hne, (Out.of_below hb).tr (ho.mono fun k _ e => by rw [e]; exact h.mz), ?_⟩
  · subst hW
    have e0 := heap_setCell_same w1 m 0 _ 68 (.slice (some ⟨g1, 0, none⟩) (128 * n) c1) hcs
    have e1 := heap_setCell_same _ m 1 _ 68 (.slice (some ⟨g2, 0, none⟩) (128 * n) c2) e0
    have e2 := heap_setCell_same _ m 2 _ 68 (.int .i64 0) e1
    have e3 := heap_setCell_same _ m 3 _ 68 (.slice none 0 0) e2
    have e4 := heap_setCell_same _ m 4 _ 68 (.slice none 0 0) e3
    exact e4
  · rintro k (rfl | rfl | rfl)
    · exact .inl h.mz
    · exact .inr hg1.1
    · exact .inr hg2.1
set_option maxRecDepth 100000 in
set_option maxHeartbeats 800000 in
theorem crash_any (Z : Nat → Prop) (m n : Nat) (s : St) (aa : Option Addr) (nA ca : Nat) (fa : Nat → Nat) (w : World) (h : MdlAt Z w m n s) (hs : s.ok n) (hn0 : 0 < n) (hn : n ≤ 61440) (hL : s.L ≤ 1000000)
    (ha : Bts w (.slice aa nA ca) nA fa) (hf : Lt nA fa) (b : Bool) (hb : b = true ↔ s.could n nA fa) :
    Calls Try.prog 16 #[.pointer (some ⟨m, 0, none⟩), .slice aa nA ca] w (MutP m n (if b then 0 else 180) Z (if b then St.start fa else s) w) := by
  have HM := Lib.hid h
  have HC := Lib.hid (could_at Z m n s aa nA ca fa w h hs hn0 hn hL ha hf b hb)
  have HA := Lib.hid ha
  have hnA : b = true → nA = 128 * n := fun e => by
    obtain ⟨j, _, hj⟩ := hb.1 e
    simp only [eqB, decide_eq_true_eq] at hj
    omega
  clear h ha hs hf hL hb
  cases b
  · clear hnA
    go_enter Try.func16, Try.ntmps16
    go_wp2_with fail
    refine HC.out.mono ?_
    rintro e w1 ⟨rfl, hb⟩
    have HB := Lib.hid hb
    clear hb HC
    go_wp2
    go_ret
    exact MutP.same HM.out HB.out
  · replace hnA := hnA rfl
    have hcl : ∀ w1, Below w.heap.size w w1 → Calls Try.prog 27 #[.slice aa nA ca] w1 (CloneP nA fa w1) := fun w1 hb => by
      obtain ⟨a0, c0, e0, h0⟩ := HA.out
      cases e0
      rcases h0 with h0 | ⟨b0, o0, rfl, hc⟩
      · omega
      · exact clone27_any b0 o0 nA ca fa w1 (fun k hk => by rw [hb.cell (p := ⟨b0, o0 + k, none⟩) (World.block_lt_of_cell? w _ (hc k hk))]; exact hc k hk) (by omega)
    have HCl := Lib.hid hcl
    have HN := Lib.hid hnA
    have hpos : 0 < nA := by omega
    clear hcl hnA
    go_enter Try.func16, Try.ntmps16
    go_wp2_with fail
    refine HC.out.mono ?_
    rintro e w1 ⟨rfl, hb⟩
    have HB := Lib.hid hb
    clear hb HC
    go_wp2_with fail
    refine (HCl.out w1 HB.out).mono ?_
    rintro e w2 ⟨v2, rfl, ho2, hb⟩
    obtain ⟨a2, cap2, rfl, hf2⟩ := own_formN ho2
    obtain ⟨g2, rfl⟩ := hf2.resolve_left (by omega)
    have HB2 := Lib.hid (HB.out.trans (hb.mono HB.out.size))
    have HO2 := Lib.hid (own_base_le ho2 HB.out.size)
    have HS12 := Lib.hid hb.size
    clear hb ho2 hf2
    go_wp2_with fail
    refine (HCl.out w2 HB2.out).mono ?_
    rintro e w3 ⟨v3, rfl, ho3, hb⟩
    obtain ⟨a3, cap3, rfl, hf3⟩ := own_formN ho3
    obtain ⟨g3, rfl⟩ := hf3.resolve_left (by omega)
    have hne : g2 ≠ g3 := by
      have h1 := (HO2.out.lt g2 rfl).2
      have h2 := (ho3.lt g3 rfl).1
      omega
    have HB3 := Lib.hid (HB2.out.trans (hb.mono HB2.out.size))
    have HO23 := Lib.hid (own_keep hb HO2.out)
    have HO3 := Lib.hid (own_base_le ho3 HB2.out.size)
    have HNE := Lib.hid hne
    clear hb ho3 hf3 hne HCl
    obtain ⟨_, _, _, _, lv, wv, _, h3⟩ := HM.out.keep HB3.out
    have HK3 := Lib.hid h3.blk
    obtain ⟨k1, f1, z1⟩ := cr h3.blk
    clear h3
    go_wp2
    go_ret
    have hn' := HN.out
    subst hn'
    obtain ⟨Z', h1, h2, h3⟩ := mdl_crash HM.out HB3.out HK3.out HO23.out HO3.out HNE.out rfl
    exact ⟨rfl, Z', h1, h2, h3⟩
end Go.Proofs.Ytgkkmdebpekckaa
