/- ModelCrashes: for every number of blocks, every three batches and every choice the law returns true: behind a Crash just what was found could be found again. Conditions: none. -/
import Derived.Test.YtgkkmdebpekckaaMt
namespace Go.Proofs.Ytgkkmdebpekckaa.Crashes
open Go.ChangeShapes Go.WideShapes Go.ChangeAt Go.RowKit
open Go.Proofs.Ytgkkmdebpekckaa
/-- s' has come of s by batches behind it. -/
structure Ext (s s' : St) : Prop where
  sure : s'.sure = s.sure
  L : s.L ≤ s'.L
  bt : ∀ k, k < s.L → s'.bt k = s.bt k
theorem Ext.refl (s : St) : Ext s s := ⟨rfl, Nat.le_refl _, fun _ _ => rfl⟩
theorem Ext.trans {a b c : St} (h : Ext a b) (k : Ext b c) : Ext a c := ⟨k.sure.trans h.sure, Nat.le_trans h.L k.L, fun i hi => (k.bt i (Nat.lt_of_lt_of_le hi h.L)).trans (h.bt i hi)⟩
theorem Ext.wr (s : St) (n : Nat) (a : Ar) : Ext s (s.wr n a) := by
  unfold St.wr
  by_cases e : a.chk n = 0 ∧ 0 < a.N
  · rw [if_pos e]
    exact ⟨rfl, Nat.le_succ _, fun k hk => if_neg (by omega)⟩
  · rw [if_neg e]; exact Ext.refl s
theorem Ext.un (s : St) (n : Nat) (a : Ar) : Ext s (s.un n a) := by
  unfold St.un
  by_cases e : a.chk n = 0
  · rw [if_pos e]; exact ⟨rfl, Nat.le_refl _, fun _ _ => rfl⟩
  · rw [if_neg e]; exact Ext.refl s
theorem could_ext {n : Nat} {s s' : St} (h : s.ok n) (he : Ext s s') : s'.could n (128 * n) s.now := by
  refine ⟨s.L, by unfold St.M; have := he.L; omega, eqB_true fun k hk => ?_⟩
  rw [h.nowE k hk, he.sure]
  exact fate_congr _ _ rfl fun j hj => by
    have e : s'.all j = s'.bt j := if_pos (Nat.lt_of_lt_of_le hj he.L)
    rw [e, he.bt j hj]
/-- The bytes behind the batch under way. -/
theorem could_way {n : Nat} {s : St} (h : s.ok n) (b : Bt) : (s.under b).could n (128 * n) (layN s.now b.bl b.f b.N) := by
  by_cases hb : b.N = 0
  · have e : layN s.now b.bl b.f b.N = s.now := by rw [hb]; rfl
    rw [e]
    exact could_ext (s' := s.under b) h ⟨rfl, Nat.le_refl _, fun _ _ => rfl⟩
  · refine ⟨s.L + 1, by unfold St.M; rw [if_neg (show ¬ (s.under b).way.N = 0 from hb)]; exact Nat.le_refl _, eqB_true fun k hk => ?_⟩
    have e : (s.under b).all s.L = b := if_neg (Nat.lt_irrefl _)
    show layN (fate s.sure (s.under b).all s.L) ((s.under b).all s.L).bl ((s.under b).all s.L).f ((s.under b).all s.L).N k = _
    rw [e]
    refine layN_congr _ _ _ _ ?_
    rw [h.nowE k hk]
    exact fate_congr _ _ rfl fun j hj => if_pos hj
/-- Behind a crash, one fate. -/
theorem could_start {n nA : Nat} {x f : Nat → Nat} : (St.start x).could n nA f ↔ eqB (128 * n) nA x f = true := by
  constructor
  · rintro ⟨j, hj, h⟩
    have hM : (St.start x).M = 0 := rfl
    have : j = 0 := by omega
    subst this
    exact h
  · exact fun h => ⟨0, Nat.zero_le _, h⟩
theorem eqB_comm (n : Nat) (f g : Nat → Nat) : eqB n n f g = eqB n n g f := by
  simp only [eqB]
  congr 1
  exact propext ⟨fun ⟨a, b⟩ => ⟨a, fun k hk => (b k hk).symm⟩, fun ⟨a, b⟩ => ⟨a, fun k hk => (b k hk).symm⟩⟩
theorem start_wr (n : Nat) (s : St) (a : Ar) : (s.wr n a).many = s.many ∧ (s.wr n a).L ≤ s.L + 1 := by
  unfold St.wr
  by_cases e : a.chk n = 0 ∧ 0 < a.N
  · rw [if_pos e]; exact ⟨rfl, Nat.le_refl _⟩
  · rw [if_neg e]; exact ⟨rfl, Nat.le_succ _⟩
theorem un_L (n : Nat) (s : St) (a : Ar) : (s.un n a).L = s.L ∧ (s.un n a).many = s.many ∧ (s.un n a).now = s.now := by
  unfold St.un
  by_cases e : a.chk n = 0
  · rw [if_pos e]; exact ⟨rfl, rfl, rfl⟩
  · rw [if_neg e]; exact ⟨rfl, rfl, rfl⟩
/-- Bytes that a model had once, since it was last made sure. -/
def Past (n : Nat) (s : St) (f : Nat → Nat) : Prop := ∃ s' : St, s'.ok n ∧ Ext s' s ∧ f = s'.now
def AllF (P : (Nat → Nat) → Prop) (N : Nat) (F : Nat → Nat → Nat) : Prop := ∀ i, i < N → P (F i)
theorem AllF.push {P : (Nat → Nat) → Prop} {N : Nat} {F : Nat → Nat → Nat} {f : Nat → Nat} (h : AllF P N F) (hf : P f) : AllF P (N + 1) (putF N F f) := fun i hi => by
  by_cases e : i = N
  · subst e; rw [putF_at]; exact hf
  · rw [putF_lt _ _ (by omega)]; exact h i (by omega)
theorem Past.ext {n : Nat} {s s' : St} {f : Nat → Nat} (h : Past n s f) (he : Ext s s') : Past n s' f := by
  obtain ⟨t, h1, h2, h3⟩ := h
  exact ⟨t, h1, h2.trans he, h3⟩
theorem AllF.mono {P Q : (Nat → Nat) → Prop} {N : Nat} {F : Nat → Nat → Nat} (h : AllF P N F) (hq : ∀ f, P f → Q f) : AllF Q N F := fun i hi => hq _ (h i hi)
def Good (n : Nat) (s : St) (f : Nat → Nat) : Prop := s.could n (128 * n) f ∧ Lt (128 * n) f
theorem Past.good {n : Nat} {s : St} {f : Nat → Nat} (h : Past n s f) : Good n s f := by
  obtain ⟨t, h1, h2, rfl⟩ := h
  exact ⟨could_ext h1 h2, h1.now⟩
theorem Past.now {n : Nat} {s : St} (h : s.ok n) : Past n s s.now := ⟨s, h, Ext.refl s, rfl⟩
/-- Behind the crash: the model, the list, what was found. -/
structure TI (Z : Nat → Prop) (W w : World) (m n : Nat) (x : Nat → Nat) (lv : Value) (N : Nat) (rv : Nat → Value) (F : Nat → Nat → Nat) (gv : Value) : Prop where
  env : Env Z W w m n (St.start x)
  lst : Lst Z w W.heap.size lv N rv (128 * n) F
  got : BtsX Z w gv (128 * n) x
theorem TI.keep {Z : Nat → Prop} {W w w1 : World} {m n : Nat} {x : Nat → Nat} {lv : Value} {N : Nat} {rv : Nat → Value} {F : Nat → Nat → Nat} {gv : Value} (h : TI Z W w m n x lv N rv F gv) (hb : Below w.heap.size w w1) : TI Z W w1 m n x lv N rv F gv :=
  ⟨h.env.keep hb, h.lst.keep hb, btsX_keep h.got hb⟩
theorem u8_in {z : Int} (h : (Lit.int .u8 z).wf = true) : 0 ≤ z ∧ z < 256 := by
  have h1 : IntKind.u8.min = 0 := rfl
  have h2 : IntKind.u8.max = 255 := rfl
  simp only [Lit.wf, Bool.and_eq_true, decide_eq_true_eq] at h
  omega
def op3 (a1 a2 a3 : Ar) (i : Nat) : Opc := ⟨0, 0, 0, if i = 0 then a1 else if i = 1 then a2 else a3, 0, fun _ => 0⟩
set_option maxRecDepth 100000 in
set_option maxHeartbeats 4000000 in
theorem walk (nb : Int) (v1 v2 v3 : Value) (a1 a2 a3 : Ar) (q : Nat) (W : World) (h1 : ArX (fun k => W.heap.size ≤ k) W v1 a1) (h2 : ArX (fun k => W.heap.size ≤ k) W v2 a2) (h3 : ArX (fun k => W.heap.size ≤ k) W v3 a3) (f1 : a1.fit) (f2 : a2.fit) (f3 : a3.fit) (hq : q < 256) :
    Calls Try.prog 5 #[.int .i64 nb, v1, v2, v3, .int .u8 q] W fun e w' => e = .returned (.bool true) ∧ Below W.heap.size W w' := by
  have H1 := Lib.hid h1
  have H2 := Lib.hid h2
  have H3 := Lib.hid h3
  have F1 := Lib.hid f1
  have F2 := Lib.hid f2
  have F3 := Lib.hid f3
  obtain ⟨x1, y1, rfl⟩ := h1.form
  obtain ⟨x2, y2, rfl⟩ := h2.form
  obtain ⟨x3, y3, rfl⟩ := h3.form
  clear h1 h2 h3 f1 f2 f3
  go_enter Try.func5, Try.ntmps5
  go_wp2_with fail
  obtain ⟨W0, hW0⟩ : ∃ W0, W.alloc (.cells #[.int .i64 0, .int .i64 0, .int .i64 0, .slice x1 a1.N y1, .slice none 0 0, .int .i64 0, .int .i64 0, .int .i64 0, .slice x2 a2.N y2, .slice none 0 0, .int .i64 0, .int .i64 0, .int .i64 0, .slice x3 a3.N y3, .slice none 0 0] 27) = W0 := ⟨_, rfl⟩
  have hb0 : Below W.heap.size W W0 := by rw [← hW0]; exact bal (Below.refl _ _) _
  have hc0 := (cr (show W0.heap[W.heap.size]? = some (.cells #[.int .i64 0, .int .i64 0, .int .i64 0, .slice x1 a1.N y1, .slice none 0 0, .int .i64 0, .int .i64 0, .int .i64 0, .slice x2 a2.N y2, .slice none 0 0, .int .i64 0, .int .i64 0, .int .i64 0, .slice x3 a3.N y3, .slice none 0 0] 27 (0, 0)) by rw [← hW0]; exact heap_alloc_new _ _)).1
  have hops : OpsX (fun _ => False) W0 (some ⟨W.heap.size, 0, none⟩) 3 (op3 a1 a2 a3) (fun i => if i = 0 then .slice x1 a1.N y1 else if i = 1 then .slice x2 a2.N y2 else .slice x3 a3.N y3) (fun _ => .slice none 0 0) := by
    refine ⟨.inr ⟨W.heap.size, 0, rfl, id, fun i hi => ?_⟩, fun i hi => ?_, fun i hi => ⟨_, _, rfl, .inl rfl⟩⟩
    · match i, hi with
      | 0, _ => simp [hc0, op3]
      | 1, _ => simp [hc0, op3]
      | 2, _ => simp [hc0, op3]
    · have e1 := (H1.out.out (Out.of_below (S := fun _ => False) hb0) (fun _ _ h => h.elim)).mono (Y := fun _ => False) (fun _ _ h => h.elim)
      have e2 := (H2.out.out (Out.of_below (S := fun _ => False) hb0) (fun _ _ h => h.elim)).mono (Y := fun _ => False) (fun _ _ h => h.elim)
      have e3 := (H3.out.out (Out.of_below (S := fun _ => False) hb0) (fun _ _ h => h.elim)).mono (Y := fun _ => False) (fun _ _ h => h.elim)
      match i, hi with
      | 0, _ => exact e1
      | 1, _ => exact e2
      | 2, _ => exact e3
  have HMu := Lib.hid (much_any nb _ _ 3 3 (op3 a1 a2 a3) _ _ W0 hops (by omega) (fun i hi => by
    refine ⟨?_, fun _ h => absurd h (Nat.not_lt_zero _), Nat.zero_le _⟩
    match i, hi with
    | 0, _ => exact F1.out
    | 1, _ => exact F2.out
    | 2, _ => exact F3.out))
  have HW0 := Lib.hid hb0
  rw [hW0]
  clear hc0 hops hb0 hW0
  refine HMu.out.mono ?_
  clear HMu
  rintro e w1 ⟨bl, rfl, -, hb⟩
  have HW1 := Lib.hid (via HW0.out hb)
  clear hb HW0
  cases bl with
  | true =>
    go_wp2
    go_ret
    exact ⟨rfl, HW1.out⟩
  | false =>
    by_cases hnb : nb < 1 ∨ 61440 < nb
    · go_wp2_with fail
      refine (new_bad nb _ hnb).mono ?_
      rintro e w2 ⟨rfl, rfl⟩
      clear hnb
      go_wp2_with fail
      refine (known_true _).mono ?_
      rintro e w2 ⟨rfl, hb⟩
      have HW2 := Lib.hid (via HW1.out hb)
      clear hb
      go_wp2
      go_ret
      exact ⟨rfl, HW2.out⟩
    · obtain ⟨n, rfl⟩ : ∃ n : Nat, nb = (n : Int) := ⟨nb.toNat, by omega⟩
      have hn1 : 1 ≤ n := by omega
      have hn : n ≤ 61440 := by omega
      clear hnb
      go_wp2_with fail
      refine (new_ok n _ hn1 hn).mono ?_
      rintro e w2 ⟨m, Z, rfl, hM, hZ, hb⟩
      obtain ⟨s0, hs0⟩ : ∃ s0, (St.start fun _ => 0) = s0 := ⟨_, rfl⟩
      rw [hs0] at hM
      have HS0 : Hid (s0.ok n) := by rw [← hs0]; exact St.start_ok (fun _ _ => by show 0 < 256; omega)
      have hL0 : s0.L ≤ 0 := by rw [← hs0]; exact Nat.le_refl _
      have hm0 : s0.many ≤ 0 := by rw [← hs0]; exact Nat.le_refl _
      clear hs0
      have HE2 : Hid (Env Z W w2 m n s0) := ⟨hM, fun k hk => Nat.le_trans HW1.out.size (hZ k hk), via HW1.out hb⟩
      clear hM hZ hb HW1
      go_wp2_with fail
      refine (known_true _).mono ?_
      rintro e w3 ⟨rfl, hb⟩
      have HE3 := Lib.hid (HE2.out.keep hb)
      clear hb HE2
      go_wp2_with fail
      refine (read_all Z m n _ w3 HE3.out.mdl hn).mono ?_
      rintro e w4 ⟨ra, rc, rfl, ho, hrc, hb⟩
      have HE4 := Lib.hid (HE3.out.keep hb)
      have HL4 : Hid (Lst Z w4 W.heap.size (.slice none 0 0) 0 (fun _ => .slice none 0 0) (128 * n) (fun _ _ => 0)) := Lst.nil _ _ _ _ _ _
      have HX4 : Hid (BtsX (fun k => Z k ∨ (Value.slice none 0 0).ownBlock = some k) w4 (.slice ra (128 * n) rc) (128 * n) s0.now) := fresh_L (Lst.nil Z w3 W.heap.size (128 * n) (fun _ => .slice none 0 0) (fun _ _ => 0)) HE3.out.mdl.lt ho
      clear ho hb HE3
      obtain ⟨i1, hi1, hy0, hy1, hy2⟩ := info_parts Try.info25
      go_wp2_with (first | (at_builtin; refine wpList_append_two _ rfl _ _ 35 rfl W.heap.size 25 i1 (.slice none 0 0) 1 24 Try.underlying35 hi1 hy0 hy1 hy2 rfl (by decide) (.slice none 0 0) 0 ((List.range 0).map (fun _ => .slice none 0 0)) rfl (HL4.out.own.alloc _) ⟨w4.heap.size, 0, none⟩ 1 1 [.slice ra (128 * n) rc] rfl rfl (World.news_of_block (cs := #[.slice ra (128 * n) rc]) (t := 25) (fr := (0, 0)) (heap_alloc_new w4 _)) (by intro u hu; rw [List.mem_singleton.1 hu]; rfl) (by omega) (by unfold maxLen; omega) (by omega) (by have := HE4.out.bel.size; rw [World.size_alloc]; omega) ?_))
      intro lv5 w5 hown htwo
      obtain ⟨p1, p2, p3⟩ := Lst.push HL4.out HX4.out HE4.out.mdl.lt hown htwo
      have HE5 := Lib.hid (HE4.out.pushed HL4.out p2)
      have HO5 := Lib.hid p2
      have HP5 := Lib.hid p3
      obtain ⟨la5, lc5, rfl, hlc5, hlf5⟩ := p1.form
      have HL5 := Lib.hid p1
      obtain ⟨N5, hN5⟩ : ∃ N5, 0 + 1 = N5 := ⟨_, rfl⟩
      have HF5 := Lib.hid hlf5
      clear hown htwo p1 p2 p3 hlf5
      have hN5' : 1 = N5 := hN5
      rw [hN5] at HL5 hlc5 HP5 HF5
      try rw [hN5]
      try rw [hN5']
      clear hN5'
      have HN5 := Lib.hid hN5
      have hNb5 : N5 ≤ 1 := by omega
      have hNc5 : 1 ≤ N5 := by omega
      clear hN5
      have HA5 : Hid (AllF (Past n s0) N5 (putF 0 (fun _ _ => 0) s0.now)) := by rw [← HN5.out]; exact AllF.push (fun _ h => absurd h (Nat.not_lt_zero _)) (Past.now HS0.out)
      clear HE4 HL4 HX4
      have har5 := ((H1.out.out (Out.of_below (S := fun _ => False) HE5.out.bel) (fun _ _ h => h.elim)).mono (Y := Z) (fun k _ h => HE5.out.zb k h))
      have HAr5 := Lib.hid har5
      clear har5
      go_wp2_with fail
      refine (write_any Z m n s0 a1 _ w5 HE5.out.mdl hn (by omega) HAr5.out).mono ?_
      clear HAr5
      rintro e w6a ⟨rfl, Z6, hM, hO, hZ⟩
      obtain ⟨s1, hs1⟩ : ∃ s1, s0.wr n a1 = s1 := ⟨_, rfl⟩
      rw [hs1] at hM
      have HEx5 : Hid (Ext s0 s1) := by rw [← hs1]; exact Ext.wr _ _ _
      have HS1 : Hid (s1.ok n) := by rw [← hs1]; exact HS0.out.wr F1.out.2.2
      have hL1 : s1.L ≤ s0.L + 1 := by rw [← hs1]; exact (start_wr _ _ _).2
      have hm1 : s1.many ≤ s0.many := by rw [← hs1]; exact Nat.le_of_eq (start_wr _ _ _).1
      obtain ⟨cc5, hcc5⟩ : ∃ cc5, a1.chk n = cc5 := ⟨_, rfl⟩
      rw [hcc5]
      have HEa5 := Lib.hid (HE5.out.mut hM hO hZ)
      have HLa5 := Lib.hid ((HL5.out).mut hO hZ)
      clear hM hO hZ hcc5 hs1
      go_wp2_with fail
      refine (read_all Z6 m n s1 _ HEa5.out.mdl hn).mono ?_
      rintro e w6 ⟨ra6, rc6, rfl, ho, hrc6, hb⟩
      have HX6 : Hid (BtsX (fun k => Z6 k ∨ (Value.slice la5 N5 lc5).ownBlock = some k) w6 (.slice ra6 (128 * n) rc6) (128 * n) s1.now) := fresh_L HLa5.out HEa5.out.mdl.lt ho
      have HEb5 := Lib.hid (HEa5.out.keep hb)
      have HLb5 := Lib.hid (HLa5.out.keep hb)
      clear ho hb HEa5 HLa5
      go_wp2_with (first | (at_builtin; refine wpList_append_two _ rfl _ _ 35 rfl W.heap.size 25 i1 (.slice none 0 0) 1 24 Try.underlying35 hi1 hy0 hy1 hy2 rfl (by decide) (.slice la5 N5 lc5) N5 ((List.range N5).map (putF 0 (fun _ => Value.slice none 0 0) (Value.slice ra (128 * n) rc))) rfl (HLb5.out.own.alloc _) ⟨w6.heap.size, 0, none⟩ 1 1 [.slice ra6 (128 * n) rc6] rfl rfl (World.news_of_block (cs := #[.slice ra6 (128 * n) rc6]) (t := 25) (fr := (0, 0)) (heap_alloc_new w6 _)) (by intro u hu; rw [List.mem_singleton.1 hu]; rfl) (by omega) (by unfold maxLen; omega) (by omega) (by have := HEb5.out.bel.size; rw [World.size_alloc]; omega) ?_))
      intro lv7 w7 hown htwo
      obtain ⟨p1, p2, p3⟩ := Lst.push HLb5.out HX6.out HEb5.out.mdl.lt hown htwo
      have HE7 := Lib.hid (HEb5.out.pushed HLb5.out p2)
      have HO7 := Lib.hid p2
      have HP7 := Lib.hid p3
      obtain ⟨la7, lc7, rfl, hlc7, hlf7⟩ := p1.form
      have HL7 := Lib.hid p1
      obtain ⟨N7, hN7⟩ : ∃ N7, N5 + 1 = N7 := ⟨_, rfl⟩
      have HF7 := Lib.hid hlf7
      clear hown htwo p1 p2 p3 hlf7
      rw [hN7] at HL7 hlc7 HP7 HF7 ⊢
      have HN7 := Lib.hid hN7
      have hNb7 : N7 ≤ 2 := by omega
      have hNc7 : 1 ≤ N7 := by omega
      clear hN7
      have HA7 : Hid (AllF (Past n s1) N7 (putF N5 (putF 0 (fun _ (_ : Nat) => (0 : Nat)) s0.now) s1.now)) := by rw [← HN7.out]; exact AllF.push (HA5.out.mono fun f h => h.ext HEx5.out) (Past.now HS1.out)
      clear HEb5 HLb5 HX6 HE5 HL5
      have har7 := ((H2.out.out (Out.of_below (S := fun _ => False) HE7.out.bel) (fun _ _ h => h.elim)).mono (Y := Z6) (fun k _ h => HE7.out.zb k h))
      have HAr7 := Lib.hid har7
      clear har7
      go_wp2_with fail
      refine (write_any Z6 m n s1 a2 _ w7 HE7.out.mdl hn (by omega) HAr7.out).mono ?_
      clear HAr7
      rintro e w8a ⟨rfl, Z8, hM, hO, hZ⟩
      obtain ⟨s2, hs2⟩ : ∃ s2, s1.wr n a2 = s2 := ⟨_, rfl⟩
      rw [hs2] at hM
      have HEx7 : Hid (Ext s1 s2) := by rw [← hs2]; exact Ext.wr _ _ _
      have HS2 : Hid (s2.ok n) := by rw [← hs2]; exact HS1.out.wr F2.out.2.2
      have hL2 : s2.L ≤ s1.L + 1 := by rw [← hs2]; exact (start_wr _ _ _).2
      have hm2 : s2.many ≤ s1.many := by rw [← hs2]; exact Nat.le_of_eq (start_wr _ _ _).1
      obtain ⟨cc7, hcc7⟩ : ∃ cc7, a2.chk n = cc7 := ⟨_, rfl⟩
      rw [hcc7]
      have HEa7 := Lib.hid (HE7.out.mut hM hO hZ)
      have HLa7 := Lib.hid ((HL7.out).mut hO hZ)
      clear hM hO hZ hcc7 hs2
      go_wp2_with fail
      refine (read_all Z8 m n s2 _ HEa7.out.mdl hn).mono ?_
      rintro e w8 ⟨ra8, rc8, rfl, ho, hrc8, hb⟩
      have HX8 : Hid (BtsX (fun k => Z8 k ∨ (Value.slice la7 N7 lc7).ownBlock = some k) w8 (.slice ra8 (128 * n) rc8) (128 * n) s2.now) := fresh_L HLa7.out HEa7.out.mdl.lt ho
      have HEb7 := Lib.hid (HEa7.out.keep hb)
      have HLb7 := Lib.hid (HLa7.out.keep hb)
      clear ho hb HEa7 HLa7
      go_wp2_with (first | (at_builtin; refine wpList_append_two _ rfl _ _ 35 rfl W.heap.size 25 i1 (.slice none 0 0) 1 24 Try.underlying35 hi1 hy0 hy1 hy2 rfl (by decide) (.slice la7 N7 lc7) N7 ((List.range N7).map (putF N5 (putF 0 (fun _ => Value.slice none 0 0) (Value.slice ra (128 * n) rc)) (Value.slice ra6 (128 * n) rc6))) rfl (HLb7.out.own.alloc _) ⟨w8.heap.size, 0, none⟩ 1 1 [.slice ra8 (128 * n) rc8] rfl rfl (World.news_of_block (cs := #[.slice ra8 (128 * n) rc8]) (t := 25) (fr := (0, 0)) (heap_alloc_new w8 _)) (by intro u hu; rw [List.mem_singleton.1 hu]; rfl) (by omega) (by unfold maxLen; omega) (by omega) (by have := HEb7.out.bel.size; rw [World.size_alloc]; omega) ?_))
      intro lv9 w9 hown htwo
      obtain ⟨p1, p2, p3⟩ := Lst.push HLb7.out HX8.out HEb7.out.mdl.lt hown htwo
      have HE9 := Lib.hid (HEb7.out.pushed HLb7.out p2)
      have HO9 := Lib.hid p2
      have HP9 := Lib.hid p3
      obtain ⟨la9, lc9, rfl, hlc9, hlf9⟩ := p1.form
      have HL9 := Lib.hid p1
      obtain ⟨N9, hN9⟩ : ∃ N9, N7 + 1 = N9 := ⟨_, rfl⟩
      have HF9 := Lib.hid hlf9
      clear hown htwo p1 p2 p3 hlf9
      rw [hN9] at HL9 hlc9 HP9 HF9 ⊢
      have HN9 := Lib.hid hN9
      have hNb9 : N9 ≤ 3 := by omega
      have hNc9 : 1 ≤ N9 := by omega
      clear hN9
      have HA9 : Hid (AllF (Past n s2) N9 (putF N7 (putF N5 (putF 0 (fun _ (_ : Nat) => (0 : Nat)) s0.now) s1.now) s2.now)) := by rw [← HN9.out]; exact AllF.push (HA7.out.mono fun f h => h.ext HEx7.out) (Past.now HS2.out)
      clear HEb7 HLb7 HE7 HL7
      have har9 := (H3.out.out (Out.of_below (S := fun _ => False) HE9.out.bel) (fun _ _ h => h.elim)).mono (Y := fun _ => False) (fun k _ h => h.elim)
      have HAr9 := Lib.hid har9
      clear har9
      go_wp2_with fail
      refine (under_any Z8 m n s2 a3 _ w9 HE9.out.mdl hn HAr9.out).mono ?_
      clear HAr9
      rintro e w10 ⟨rfl, Z10, hM, hO, hZ⟩
      have hex : Ext s2 (s2.un n a3) := Ext.un _ _ _
      have HS3 : Hid ((s2.un n a3).ok n) := HS2.out.un F3.out.2.2
      have hL3 : (s2.un n a3).L ≤ s2.L := Nat.le_of_eq (un_L _ _ _).1
      have HE10 := Lib.hid (HE9.out.mut hM hO hZ)
      have HL10 := Lib.hid (HL9.out.mut hO hZ)
      have HX10 := Lib.hid (btsX_mut (HX8.out.out (HO9.out.mono (T := fun k => Z8 k ∨ (Value.slice la7 N7 lc7).ownBlock = some k) fun _ _ h => .inr h) (fun _ _ h => h) |>.mono fun _ _ h => .inl h) hO hZ)
      have HA10 : Hid (AllF (Good n (s2.un n a3)) N9 (putF N7 (putF N5 (putF 0 (fun _ (_ : Nat) => (0 : Nat)) s0.now) s1.now) s2.now)) := HA9.out.mono fun f h => (h.ext hex).good
      clear hM hO hZ hex HE9 HL9 HX8 HA9 HA7 HA5
      obtain ⟨rvN, hrvN⟩ : ∃ rvN, (putF N7 (putF N5 (putF 0 (fun _ => Value.slice none 0 0) (Value.slice ra (128 * n) rc)) (Value.slice ra6 (128 * n) rc6)) (Value.slice ra8 (128 * n) rc8)) = rvN := ⟨_, rfl⟩
      obtain ⟨FN, hFN⟩ : ∃ FN, (putF N7 (putF N5 (putF 0 (fun _ (_ : Nat) => (0 : Nat)) s0.now) s1.now) s2.now) = FN := ⟨_, rfl⟩
      rw [hrvN, hFN] at HL10
      rw [hFN] at HA10
      clear hrvN hFN
      rcases chk_cases n a3 with hck | ⟨hne, hc⟩
      · have HTk := Lib.hid (Ar.taken_of hck)
        have hun : s2.un n a3 = s2.under a3.bt := if_pos hck
        have HUn := Lib.hid hun
        rw [hck]
        clear hck hun
        obtain ⟨_, _, e2, h2⟩ := HX10.out
        cases e2
        rcases h2 with h2 | ⟨b2, o2, rfl, hzb2, h2⟩
        · omega
        have HC2 := Lib.hid h2
        have HBat : Hid (BatX (fun k => W.heap.size ≤ k) w10 (.slice x3 a3.N y3) a3.bt) := HTk.out.at (H3.out.out (Out.of_below (S := fun _ => False) HE10.out.bel) (fun _ _ h => h.elim))
        clear h2 HX10
        obtain ⟨L, hL⟩ : ∃ L, 128 * n = L := ⟨_, rfl⟩
        have HLn := Lib.hid hL
        rw [hL] at hrc8 HC2 ⊢
        have hL7 : L ≤ 7864320 := by omega
        have hL0 : 0 < L := by omega
        clear hL
        obtain ⟨i0, hi, hz0, hz1, hz2⟩ := info_parts Try.info5
        go_wp2_with (first | (at_builtin; refine wpList_append_own _ rfl _ _ 25 rfl w10.heap.size 5 i0 (.int .u8 0) 1 1 Try.underlying25 hi hz0 hz1 hz2 rfl (by decide) _ 0 [] rfl (World.ownsRow_nil _ _ _ _) ⟨b2, o2, none⟩ L rc8 (bytesL L s2.now) rfl (by rw [bytesL_len, Nat.mul_one]) ?c1 (bytesL_one _ _) ?c3 ?c4 ?c5 ?_))
        case c1 =>
          intro q u hq
          by_cases hlt : q < L
          · rw [bytesL_get _ _ _ hlt] at hq
            rw [addk, HC2.out q hlt]
            exact hq
          · rw [List.getElem?_eq_none (by rw [bytesL_len]; omega)] at hq
            cases hq
        case c3 => unfold maxLen; omega
        case c4 => omega
        case c5 => simp
        intro v' w11 hown hgr _
        have hbel : Below w10.heap.size w10 w11 := (Below.refl _ _).grown hgr (Nat.le_refl _) (fun k hk => by cases hk)
        obtain ⟨gya, cy, rfl, hcy, hf⟩ := own_form hown
        obtain ⟨gy, rfl⟩ := hf.resolve_left (by omega)
        have HRow := Lib.hid hown
        have HGy := Lib.hid (hown.lt gy rfl)
        have HB11 := Lib.hid hbel
        have HBat11 : Hid (BatX (fun k => k = gy) w11 (.slice x3 a3.N y3) a3.bt) := (HBat.out.out (Out.of_below (S := fun _ => False) hbel) (fun _ _ h => h.elim)).mono (fun k _ e => by have h1 := (hown.lt gy rfl).1; have h2 := HE10.out.bel.size; omega)
        clear hown hgr hf hbel HBat
        have hN256 : a3.N ≤ 256 := HTk.out.N
        go_wp2_with fail
        go_loopw [17] (fun s17 wr => ∃ k : Nat, k ≤ a3.N ∧ s17 = .int .i64 k ∧ Hid (wr.ownsRow w10.heap.size 5 1 (.slice (some ⟨gy, 0, none⟩) L cy) L (bytesL L (layN s2.now a3.bt.bl a3.bt.f k)) ∧ Out (fun b => b = gy) w11 wr)) (fun s17 _ => a3.N - (intOf s17).toNat)
        case atStart => exact ⟨0, Nat.zero_le _, rfl, HRow.out, Out.refl _ _⟩
        case round =>
          obtain ⟨k, hk, rfl, HR⟩ := hrel
          obtain ⟨dv, hpt, hdt⟩ := HBat11.out.out HR.out.2 (fun _ _ h => h)
          by_cases hlt : k < a3.N
          · obtain ⟨_, _, hv0, hh1⟩ := hpt
            cases hv0
            rcases hh1 with h0 | ⟨pb, po, rfl, hbg, hc⟩
            · have h0' : a3.N = 0 := h0
              omega
            obtain ⟨c1, c2⟩ := hc k hlt
            obtain ⟨_, cd, hv, hd⟩ := hdt k hlt
            rcases hd with h0 | ⟨bd, od, rfl, hbd, hcd⟩
            · omega
            rw [hv] at c2
            have HCD := Lib.hid hcd
            have hbk : a3.bt.bl k < n := (HTk.out.ok F3.out.2.2).bl k hlt
            have i3 : (0 : Int) ≤ (k : Int) := by omega
            have i4 : (k : Int) < (a3.N : Int) := by omega
            have HLS := Lib.hid (lay_splice n k s2.now a3.bt.bl a3.bt.f hbk)
            rw [HLn.out] at HLS
            obtain ⟨mm, hmm⟩ : ∃ mm, 128 * a3.bt.bl k = mm := ⟨_, rfl⟩
            have hLL := HLn.out
            have t1 : IntKind.i64.wrap (128 * (a3.bt.bl k : Int)) = (mm : Int) := by subst hmm; go_arith
            have j1 : mm + 128 ≤ L := by omega
            have j2 : mm ≤ L := by omega
            have j3 : ¬ cy = mm := by omega
            rw [hmm] at HLS
            have HM := Lib.hid hmm
            clear hmm hbk hLL hc hcd hv hbg hbd hdt
            have HSrc : Hid (∀ w', Below wr.heap.size wr w' → ∀ j u, (bytesL 128 (a3.bt.f k))[j]? = some u → w'.cell? ((⟨bd, od, none⟩ : Addr).add j) = some u) := fun w' hb j u hj => by
              by_cases hj' : j < 128
              · rw [bytesL_get _ _ _ hj'] at hj
                rw [addk, hb.cell (p := ⟨bd, od + j, none⟩) (World.block_lt_of_cell? wr _ (HCD.out j hj')), HCD.out j hj']
                exact hj
              · rw [List.getElem?_eq_none (by rw [bytesL_len]; omega)] at hj
                cases hj
            go_wp2_with fail
            go_region_law (refine step_copy_lies _ rfl (.tmp 98) (.tmp 103) 25 25 rfl 5 w10.heap.size gy L cy mm (L - mm) (cy - mm) (bytesL L (layN s2.now a3.bt.bl a3.bt.f k)) (own_keep (w := wr) (by go_grown) HR.out.1) ⟨bd, od, none⟩ 128 cd (bytesL 128 (a3.bt.f k)) Try.underlying25 size5 (by simp [Act.eval, Act.put]) (by simp [Act.eval, Act.put]) (by rw [bytesL_len]; exact (Nat.min_eq_left (by omega)).symm) (by rw [bytesL_len]; omega) (HSrc.out _ (by go_grown)) (bytesL_one _ _) ?_; intro w3 ho hout; have HO := Lib.hid ho; have HOut := Lib.hid hout; clear ho hout)
            all_goals go_wp2
            all_goals go_roundw
            all_goals first
              | (refine ⟨k + 1, by omega, by go_num, ?_, ?_⟩
                 · rw [← HLS.out]; exact HO.out
                 · exact (HR.out.2.drew).tr HOut.out)
              | (simp [intOf]; omega)
          · obtain rfl : k = a3.N := by omega
            have hrow := HR.out.1
            have hout := HR.out.2
            have hLL := HLn.out
            subst hLL
            have hgy := HGy.out
            have hsW := HE10.out.bel.size
            have HE12 : Hid (Env Z10 W wr m n (s2.un n a3)) := (HE10.out.keep HB11.out).out hout (fun k e => by have e' : k = gy := e; omega) (fun k e hz => by have e' : k = gy := e; have := HE10.out.mdl.lt k hz; omega)
            have HL12 : Hid (Lst Z10 wr W.heap.size (.slice la9 N9 lc9) N9 rvN (128 * n) FN) := by
              have h1 : Lst (fun k => Z10 k ∨ k = gy) w10 W.heap.size (.slice la9 N9 lc9) N9 rvN (128 * n) FN := HL10.out.mono fun k hk e => e.elim id fun e => by omega
              exact ((h1.keep HB11.out).out hout fun _ _ e => .inr e).mono fun k _ e => .inl e
            have HX12 : Hid (BtsX (fun k => Z10 k ∨ (Value.slice la9 N9 lc9).ownBlock = some k) wr (.slice (some ⟨gy, 0, none⟩) (128 * n) cy) (128 * n) (layN s2.now a3.bt.bl a3.bt.f a3.bt.N)) := own_btsX hrow fun k hk e => by
              have e' : k = gy := by cases hk; rfl
              subst e'
              rcases e with e | e
              · have := HE10.out.mdl.lt _ e; omega
              · have := (HL10.out.own.lt _ e).2; omega
            have HG12 : Hid (Good n (s2.un n a3) (layN s2.now a3.bt.bl a3.bt.f a3.bt.N)) := by
              rw [HUn.out]
              exact ⟨could_way HS2.out a3.bt, layN_lt HS2.out.now _ _ _ (HTk.out.ok F3.out.2.2).f⟩
            obtain ⟨fy, hfy⟩ : ∃ fy, layN s2.now a3.bt.bl a3.bt.f a3.bt.N = fy := ⟨_, rfl⟩
            rw [hfy] at HX12 HG12
            clear hrow hout hgy hsW hfy HR HRow HGy HB11 HBat11 HC2 HE10 HL10 hpt hdt
            obtain ⟨w12, rfl⟩ : ∃ w12, w12 = wr := ⟨_, rfl⟩
            go_wp2_with (first | (at_builtin; refine wpList_append_two _ rfl _ _ 35 rfl W.heap.size 25 i1 (.slice none 0 0) 1 24 Try.underlying35 hi1 hy0 hy1 hy2 rfl (by decide) (.slice la9 N9 lc9) N9 ((List.range N9).map rvN) rfl (HL12.out.own.alloc _) ⟨w12.heap.size, 0, none⟩ 1 1 [.slice (some ⟨gy, 0, none⟩) (128 * n) cy] rfl rfl (World.news_of_block (cs := #[.slice (some ⟨gy, 0, none⟩) (128 * n) cy]) (t := 25) (fr := (0, 0)) (heap_alloc_new w12 _)) (by intro u hu; rw [List.mem_singleton.1 hu]; rfl) (by omega) (by unfold maxLen; omega) (by omega) (by have := HE12.out.bel.size; rw [World.size_alloc]; omega) ?_))
            intro lv13 w13 hown htwo
            obtain ⟨p1, p2, p3⟩ := Lst.push HL12.out HX12.out HE12.out.mdl.lt hown htwo
            have HE13 := Lib.hid (HE12.out.pushed HL12.out p2)
            have HO13 := Lib.hid p2
            have HP13 := Lib.hid p3
            obtain ⟨la13, lc13, rfl, hlc13, hlf13⟩ := p1.form
            have HL13 := Lib.hid p1
            obtain ⟨N13, hN13⟩ : ∃ N13, N9 + 1 = N13 := ⟨_, rfl⟩
            have HF13 := Lib.hid hlf13
            clear hown htwo p1 p2 p3 hlf13
            rw [hN13] at HL13 hlc13 HP13 HF13 ⊢
            have HN13 := Lib.hid hN13
            have hNb13 : N13 ≤ 4 := by omega
            have hNc13 : 1 ≤ N13 := by omega
            clear hN13
            have HA13 : Hid (AllF (Good n (s2.un n a3)) N13 (putF N9 FN fy)) := by rw [← HN13.out]; exact AllF.push HA10.out HG12.out
            clear HE12 HL12 HX12 HG12 HA10
            obtain ⟨r, hr⟩ : ∃ r, q % N13 = r := ⟨_, rfl⟩
            have hrN : r < N13 := by rw [← hr]; exact Nat.mod_lt _ (by omega)
            have hmod : (q : Int) % (N13 : Int) = (r : Int) := by rw [← hr]; rfl
            rcases HL13.out.form with ⟨_, _, e1, -, h0 | ⟨lg, e2⟩⟩
            · omega
            cases e1
            subst e2
            obtain ⟨rvv, hrvv⟩ : ∃ rvv, (putF N9 rvN (Value.slice (some ⟨gy, 0, none⟩) (128 * n) cy)) = rvv := ⟨_, rfl⟩
            obtain ⟨FF, hFF⟩ : ∃ FF, (putF N9 FN fy) = FF := ⟨_, rfl⟩
            rw [hrvv, hFF] at HL13
            rw [hFF] at HA13
            obtain ⟨ga, gc, hg⟩ := HL13.out.rform hrN
            have hcell := HL13.out.cell hrN
            have HG : Hid (BtsX Z10 w13 (.slice ga (128 * n) gc) (128 * n) (FF r)) := by have := HL13.out.row r hrN; rw [hg] at this; exact this.mono fun _ _ h => .inl h
            rw [hg] at hcell
            have hf1 := HL13.out.own
            have hmodk : ¬ (N13 : Int) = 0 := by omega
            have k1 : (0 : Int) ≤ (r : Int) := by omega
            have k2 : (r : Int) < (N13 : Int) := by omega
            have k3 : (0 : Int) ≤ (q : Int) := by omega
            clear hg hr hrvv hFF hf1
            go_wp2_with fail
            rw [hmod]
            go_simp
            go_wp2_with fail
            refine (crash_any Z10 m n (s2.un n a3) _ _ _ _ w13 HE13.out.mdl HS3.out (by omega) hn (by omega) HG.out.bts (HA13.out r hrN).2 true (by simp [(HA13.out r hrN).1])).mono ?_
            rintro e t1 ⟨rfl, Zc, hM, hO, hZ⟩
            have hM' : MdlAt Zc t1 m n (St.start (FF r)) := hM
            have HT1 := Lib.hid (HE13.out.mut hM' hO hZ)
            have HLt1 := Lib.hid (HL13.out.mut hO hZ)
            have HG1 := Lib.hid (btsX_mut HG.out hO hZ)
            clear hM hM' hO hZ HG hcell
            rw [if_pos rfl]
            go_wp2_with fail
            refine (fate_any Zc m n _ t1 HT1.out.mdl (by show 0 + 0 ≤ _; omega)).mono ?_
            rintro e t2 ⟨rfl, hb⟩
            have HT2 := Lib.hid (HT1.out.keep hb)
            have HLt2 := Lib.hid (HLt1.out.keep hb)
            have HG2 := Lib.hid (btsX_keep HG1.out hb)
            clear hb HT1 HLt1 HG1
            have e1 : (Value.agg #[.int .i64 (St.start (FF r)).many, .int .i64 (((St.start (FF r)).many : Int) + ((St.start (FF r)).L : Int)), .bool (decide (0 < (St.start (FF r)).way.N))]) = .agg #[.int .i64 0, .int .i64 0, .bool false] := rfl
            rw [e1]
            clear e1
            go_wp2_with fail
            refine (read_all Zc m n _ t2 HT2.out.mdl hn).mono ?_
            rintro e t3 ⟨sa, sc, rfl, ho, hsc, hb⟩
            have HN3 : Hid (Bts t3 (.slice sa (128 * n) sc) (128 * n) (FF r)) := own_bts ho
            have HT3 := Lib.hid (HT2.out.keep hb)
            have HLt3 := Lib.hid (HLt2.out.keep hb)
            have HG3 := Lib.hid (btsX_keep HG2.out hb)
            clear hb ho HT2 HLt2 HG2
            go_wp2_with fail
            refine (same_V _ _ (128 * n) (128 * n) (FF r) (FF r) t3 HN3.out HG3.out.bts (by omega)).mono ?_
            rintro e t4 ⟨rfl, hb⟩
            rw [eqB_true (fun _ _ => rfl)]
            have HT4 := Lib.hid (HT3.out.keep hb)
            have HLt4 := Lib.hid (HLt3.out.keep hb)
            have HG4 := Lib.hid (btsX_keep HG3.out hb)
            clear hb HT3 HLt3 HG3 HN3
            go_wp2_with fail
            have HTI : Hid (TI Zc W t4 m n (FF r) (.slice (some ⟨lg, 0, none⟩) N13 lc13) N13 rvv FF (.slice ga (128 * n) gc)) := ⟨HT4.out, HLt4.out, HG4.out⟩
            have HAl := Lib.hid (fun i (hi : i < N13) => (HA13.out i hi).2)
            have HX0 := Lib.hid (HA13.out r hrN).2
            clear HT4 HLt4 HG4 hmod k1 k2 k3 hmodk
            go_loopw [21] (fun s21 wr => ∃ j : Nat, j ≤ N13 ∧ s21 = .int .i64 j ∧ Hid (TI Zc W wr m n (FF r) (.slice (some ⟨lg, 0, none⟩) N13 lc13) N13 rvv FF (.slice ga (128 * n) gc))) (fun s21 _ => N13 - (intOf s21).toNat)
            case atStart => exact ⟨0, Nat.zero_le _, rfl, HTI.out⟩
            case round =>
              clear HTI
              obtain ⟨j, hj, rfl, HTI⟩ := hrel
              by_cases hjl : j < N13
              · obtain ⟨ja, jc, hjv⟩ := HTI.out.lst.rform hjl
                have hcell := HTI.out.lst.cell hjl
                rw [hjv] at hcell
                have HJ : Hid (Bts wr (.slice ja (128 * n) jc) (128 * n) (FF j)) := by have := (HTI.out.lst.row j hjl).bts; rwa [hjv] at this
                have hlz : lg < wr.heap.size := (HTI.out.lst.own.lt lg rfl).2
                obtain ⟨b, hbb⟩ : ∃ b, eqB (128 * n) (128 * n) (FF r) (FF j) = b := ⟨_, rfl⟩
                have HCo : Hid (∀ W', Below wr.heap.size wr W' → Calls Try.prog 13 #[.pointer (some ⟨m, 0, none⟩), .slice ja (128 * n) jc] W' fun e w' => e = .returned (.bool b) ∧ Below wr.heap.size wr w') := fun W' hb' => by
                  refine (could_at Zc m n _ ja (128 * n) jc (FF j) W' (HTI.out.env.mdl.keep hb') (St.start_ok HX0.out) (by omega) hn (Nat.zero_le _) (HJ.out.keep hb') (HAl.out j hjl) b ?_).mono ?_
                  · rw [could_start, hbb]
                  · rintro e w' ⟨rfl, hb2⟩
                    exact ⟨rfl, hb'.trans (hb2.mono hb'.size)⟩
                have HSa : Hid (∀ W', Below wr.heap.size wr W' → Calls Try.prog 14 #[.slice ja (128 * n) jc, .slice ga (128 * n) gc] W' fun e w' => e = .returned (.bool b) ∧ Below wr.heap.size wr w') := fun W' hb' => by
                  refine (same_V _ _ (128 * n) (128 * n) (FF j) (FF r) W' (HJ.out.keep hb') (HTI.out.got.bts.keep hb') (by omega)).mono ?_
                  rintro e w' ⟨rfl, hb2⟩
                  exact ⟨by rw [eqB_comm, hbb], hb'.trans (hb2.mono hb'.size)⟩
                have k1 : (0 : Int) ≤ (j : Int) := by omega
                have k2 : (j : Int) < (N13 : Int) := by omega
                clear hbb hjv
                cases b
                all_goals (
                  go_wp2_with fail
                  go_region_held3 (fun w' => w'.cell? ⟨lg, j, none⟩ = some (.slice ja (128 * n) jc)) (first | (simp [*, go_sem]; done)) (first | (go_at_call 13; refine (HCo.out _ (by first | go_grown | exact hbA | exact below_drew hbA | exact hbB | exact below_drew hbB)).mono ?_; rintro e wA ⟨rfl, hbA⟩; obtain ⟨kA, fA, zA⟩ := kp hbA lg hlz) | (go_at_call 14; refine (HSa.out _ (by first | go_grown | exact hbA | exact below_drew hbA | exact hbB | exact below_drew hbB)).mono ?_; rintro e wB ⟨rfl, hbB⟩; obtain ⟨kB, fB, zB⟩ := kp hbB lg hlz))
                  all_goals go_wp2
                  all_goals go_roundw
                  all_goals first
                    | exact ⟨j + 1, by omega, by go_num, HTI.out.keep (by first | exact hbB | exact hbA | exact below_drew hbB | exact below_drew hbA)⟩
                    | (simp [intOf]; omega))
              · obtain rfl : j = N13 := by omega
                go_wp2
                go_ret
                exact ⟨rfl, HTI.out.env.bel⟩
      · obtain ⟨cc, hcc⟩ : ∃ cc, a3.chk n = cc := ⟨_, rfl⟩
        rw [hcc] at hne hc ⊢
        clear hcc
        have hne' : ((cc : Int) == 0) = false := by simp; exact hne
        go_wp2_with fail
        obtain ⟨r, hr⟩ : ∃ r, q % N9 = r := ⟨_, rfl⟩
        have hrN : r < N9 := by rw [← hr]; exact Nat.mod_lt _ (by omega)
        have hmod : (q : Int) % (N9 : Int) = (r : Int) := by rw [← hr]; rfl
        rcases HL10.out.form with ⟨_, _, e1, -, h0 | ⟨lg, e2⟩⟩
        · omega
        cases e1
        subst e2
        obtain ⟨rvv, hrvv⟩ : ∃ rvv, rvN = rvv := ⟨_, rfl⟩
        obtain ⟨FF, hFF⟩ : ∃ FF, FN = FF := ⟨_, rfl⟩
        rw [hrvv, hFF] at HL10
        rw [hFF] at HA10
        obtain ⟨ga, gc, hg⟩ := HL10.out.rform hrN
        have hcell := HL10.out.cell hrN
        have HG : Hid (BtsX Z10 w10 (.slice ga (128 * n) gc) (128 * n) (FF r)) := by have := HL10.out.row r hrN; rw [hg] at this; exact this.mono fun _ _ h => .inl h
        rw [hg] at hcell
        have hf1 := HL10.out.own
        have hmodk : ¬ (N9 : Int) = 0 := by omega
        have k1 : (0 : Int) ≤ (r : Int) := by omega
        have k2 : (r : Int) < (N9 : Int) := by omega
        have k3 : (0 : Int) ≤ (q : Int) := by omega
        clear hg hr hrvv hFF hf1
        go_wp2_with fail
        rw [hmod]
        go_simp
        go_wp2_with fail
        refine (crash_any Z10 m n (s2.un n a3) _ _ _ _ w10 HE10.out.mdl HS3.out (by omega) hn (by omega) HG.out.bts (HA10.out r hrN).2 true (by simp [(HA10.out r hrN).1])).mono ?_
        rintro e t1 ⟨rfl, Zc, hM, hO, hZ⟩
        have hM' : MdlAt Zc t1 m n (St.start (FF r)) := hM
        have HT1 := Lib.hid (HE10.out.mut hM' hO hZ)
        have HLt1 := Lib.hid (HL10.out.mut hO hZ)
        have HG1 := Lib.hid (btsX_mut HG.out hO hZ)
        clear hM hM' hO hZ HG hcell
        rw [if_pos rfl]
        go_wp2_with fail
        refine (fate_any Zc m n _ t1 HT1.out.mdl (by show 0 + 0 ≤ _; omega)).mono ?_
        rintro e t2 ⟨rfl, hb⟩
        have HT2 := Lib.hid (HT1.out.keep hb)
        have HLt2 := Lib.hid (HLt1.out.keep hb)
        have HG2 := Lib.hid (btsX_keep HG1.out hb)
        clear hb HT1 HLt1 HG1
        have e1 : (Value.agg #[.int .i64 (St.start (FF r)).many, .int .i64 (((St.start (FF r)).many : Int) + ((St.start (FF r)).L : Int)), .bool (decide (0 < (St.start (FF r)).way.N))]) = .agg #[.int .i64 0, .int .i64 0, .bool false] := rfl
        rw [e1]
        clear e1
        go_wp2_with fail
        refine (read_all Zc m n _ t2 HT2.out.mdl hn).mono ?_
        rintro e t3 ⟨sa, sc, rfl, ho, hsc, hb⟩
        have HN3 : Hid (Bts t3 (.slice sa (128 * n) sc) (128 * n) (FF r)) := own_bts ho
        have HT3 := Lib.hid (HT2.out.keep hb)
        have HLt3 := Lib.hid (HLt2.out.keep hb)
        have HG3 := Lib.hid (btsX_keep HG2.out hb)
        clear hb ho HT2 HLt2 HG2
        go_wp2_with fail
        refine (same_V _ _ (128 * n) (128 * n) (FF r) (FF r) t3 HN3.out HG3.out.bts (by omega)).mono ?_
        rintro e t4 ⟨rfl, hb⟩
        rw [eqB_true (fun _ _ => rfl)]
        have HT4 := Lib.hid (HT3.out.keep hb)
        have HLt4 := Lib.hid (HLt3.out.keep hb)
        have HG4 := Lib.hid (btsX_keep HG3.out hb)
        clear hb HT3 HLt3 HG3 HN3
        go_wp2_with fail
        have HTI : Hid (TI Zc W t4 m n (FF r) (.slice (some ⟨lg, 0, none⟩) N9 lc9) N9 rvv FF (.slice ga (128 * n) gc)) := ⟨HT4.out, HLt4.out, HG4.out⟩
        have HAl := Lib.hid (fun i (hi : i < N9) => (HA10.out i hi).2)
        have HX0 := Lib.hid (HA10.out r hrN).2
        clear HT4 HLt4 HG4 hmod k1 k2 k3 hmodk
        go_loopw [21] (fun s21 wr => ∃ j : Nat, j ≤ N9 ∧ s21 = .int .i64 j ∧ Hid (TI Zc W wr m n (FF r) (.slice (some ⟨lg, 0, none⟩) N9 lc9) N9 rvv FF (.slice ga (128 * n) gc))) (fun s21 _ => N9 - (intOf s21).toNat)
        case atStart => exact ⟨0, Nat.zero_le _, rfl, HTI.out⟩
        case round =>
          clear HTI
          obtain ⟨j, hj, rfl, HTI⟩ := hrel
          by_cases hjl : j < N9
          · obtain ⟨ja, jc, hjv⟩ := HTI.out.lst.rform hjl
            have hcell := HTI.out.lst.cell hjl
            rw [hjv] at hcell
            have HJ : Hid (Bts wr (.slice ja (128 * n) jc) (128 * n) (FF j)) := by have := (HTI.out.lst.row j hjl).bts; rwa [hjv] at this
            have hlz : lg < wr.heap.size := (HTI.out.lst.own.lt lg rfl).2
            obtain ⟨b, hbb⟩ : ∃ b, eqB (128 * n) (128 * n) (FF r) (FF j) = b := ⟨_, rfl⟩
            have HCo : Hid (∀ W', Below wr.heap.size wr W' → Calls Try.prog 13 #[.pointer (some ⟨m, 0, none⟩), .slice ja (128 * n) jc] W' fun e w' => e = .returned (.bool b) ∧ Below wr.heap.size wr w') := fun W' hb' => by
              refine (could_at Zc m n _ ja (128 * n) jc (FF j) W' (HTI.out.env.mdl.keep hb') (St.start_ok HX0.out) (by omega) hn (Nat.zero_le _) (HJ.out.keep hb') (HAl.out j hjl) b ?_).mono ?_
              · rw [could_start, hbb]
              · rintro e w' ⟨rfl, hb2⟩
                exact ⟨rfl, hb'.trans (hb2.mono hb'.size)⟩
            have HSa : Hid (∀ W', Below wr.heap.size wr W' → Calls Try.prog 14 #[.slice ja (128 * n) jc, .slice ga (128 * n) gc] W' fun e w' => e = .returned (.bool b) ∧ Below wr.heap.size wr w') := fun W' hb' => by
              refine (same_V _ _ (128 * n) (128 * n) (FF j) (FF r) W' (HJ.out.keep hb') (HTI.out.got.bts.keep hb') (by omega)).mono ?_
              rintro e w' ⟨rfl, hb2⟩
              exact ⟨by rw [eqB_comm, hbb], hb'.trans (hb2.mono hb'.size)⟩
            have k1 : (0 : Int) ≤ (j : Int) := by omega
            have k2 : (j : Int) < (N9 : Int) := by omega
            clear hbb hjv
            cases b
            all_goals (
              go_wp2_with fail
              go_region_held3 (fun w' => w'.cell? ⟨lg, j, none⟩ = some (.slice ja (128 * n) jc)) (first | (simp [*, go_sem]; done)) (first | (go_at_call 13; refine (HCo.out _ (by first | go_grown | exact hbA | exact below_drew hbA | exact hbB | exact below_drew hbB)).mono ?_; rintro e wA ⟨rfl, hbA⟩; obtain ⟨kA, fA, zA⟩ := kp hbA lg hlz) | (go_at_call 14; refine (HSa.out _ (by first | go_grown | exact hbA | exact below_drew hbA | exact hbB | exact below_drew hbB)).mono ?_; rintro e wB ⟨rfl, hbB⟩; obtain ⟨kB, fB, zB⟩ := kp hbB lg hlz))
              all_goals go_wp2
              all_goals go_roundw
              all_goals first
                | exact ⟨j + 1, by omega, by go_num, HTI.out.keep (by first | exact hbB | exact hbA | exact below_drew hbB | exact below_drew hbA)⟩
                | (simp [intOf]; omega))
          · obtain rfl : j = N9 := by omega
            go_wp2
            go_ret
            exact ⟨rfl, HTI.out.env.bel⟩
theorem walk' (nb : Int) (v1 v2 v3 : Value) (a1 a2 a3 : Ar) (z : Int) (W : World) (h1 : ArX (fun k => W.heap.size ≤ k) W v1 a1) (h2 : ArX (fun k => W.heap.size ≤ k) W v2 a2) (h3 : ArX (fun k => W.heap.size ≤ k) W v3 a3) (f1 : a1.fit) (f2 : a2.fit) (f3 : a3.fit) (hz : 0 ≤ z ∧ z < 256) :
    Calls Try.prog 5 #[.int .i64 nb, v1, v2, v3, .int .u8 z] W fun e w' => e = .returned (.bool true) ∧ Below W.heap.size W w' := by
  obtain ⟨q, rfl⟩ : ∃ q : Nat, z = (q : Int) := ⟨z.toNat, by omega⟩
  exact walk nb v1 v2 v3 a1 a2 a3 q W h1 h2 h3 f1 f2 f3 (by omega)
theorem kinds5 : ∀ t ∈ Try.f5.params.toList, Try.prog.readableRec t = true ∧ t < Try.prog.types.size := by
  rw [Try.params5]
  intro t ht
  simp only [List.mem_cons, List.not_mem_nil, or_false] at ht
  rcases ht with rfl | rfl | rfl | rfl | rfl
  all_goals exact ⟨by kernel_rfl, of_decide_eq_true (by kernel_rfl)⟩
set_option maxRecDepth 100000 in
theorem lifted (os : Os) (started : os.Started) (H : Type) (enc : TypeId × Value → H) :
    ReturnsInHanded {} Try.checked os 5 .any (Rows.modelCrashesSpec.pre6 enc Try.prog Try.f5 Rows.modelCrashesRow.domain false) (Rows.modelCrashesSpec.post enc Try.prog Try.f5 false true false false) := by
  refine returnsInHanded_of_change_sized (C := Try.checked) own started (by kernel_rfl) Try.func5
    (ChangeSpec.witness6 (enc := enc) (C := Try.checked) false ⟨#[], #[.int .i64 0, .slice none 0 0, .slice none 0 0, .slice none 0 0, .int .u8 0], []⟩ 8 (by kernel_rfl) (by kernel_rfl) (by kernel_rfl) (by kernel_rfl)) ?_
  intro W base args ds gs before hval0 hW hcnd hsz0 _
  have hval : ∀ (j : Nat) t v, Try.f5.params[j]? = some t → args[j]? = some v → Value.okWide Try.prog W .any base t v := hval0
  have hW' := hW
  obtain ⟨p, q, hA0, hV, rfl, hfz, hnd⟩ := hW
  have hA : DataW.TrodAll enc Try.prog W 0 (fun _ => true) true Try.f5.params.toList args.toList ds p := hA0
  have hA1 := hA
  have hsz : (DataW.weightsEach Try.prog (Try.f5.params.toList ++ []) (ds ++ gs)).all (· ≤ reachBytes) = true := hsz0
  rw [Try.params5] at hA hval hsz
  obtain ⟨v0, vs0, d0, ds0, p0, q0, hargs, rfl, rfl, h0, r0⟩ := trodAll_cons hA
  obtain ⟨v1, vs1, d1, ds1, p1, q1, rfl, rfl, rfl, h1, r1⟩ := trodAll_cons r0
  obtain ⟨v2, vs2, d2, ds2, p2, q2, rfl, rfl, rfl, h2, r2⟩ := trodAll_cons r1
  obtain ⟨v3, vs3, d3, ds3, p3, q3, rfl, rfl, rfl, h3, r3⟩ := trodAll_cons r2
  obtain ⟨v4, vs4, d4, ds4, p4, q4, rfl, rfl, rfl, h4, r4⟩ := trodAll_cons r3
  obtain ⟨rfl, rfl, rfl⟩ := trodAll_nil r4
  obtain rfl : args = #[v0, v1, v2, v3, v4] := by cases args; simp_all
  obtain ⟨rfl, rfl⟩ := trodVars_none hV
  obtain ⟨a0, rfl, rfl, rfl, w0⟩ := open_int Try.underlying3 (hval 0 3 v0 rfl rfl) h0
  obtain ⟨x1, y1, z1, rfl⟩ := okWide_slice Try.underlying24 (hval 1 24 v1 rfl rfl)
  obtain ⟨fu1, hf1⟩ := h1
  have ft1 : FitD 24 d1 := fit_of hsz (j := 1) rfl rfl
  obtain ⟨ar1, hP1, hF1⟩ := open_puts (v := .slice x1 y1 z1) hf1 ft1
  obtain ⟨x2, y2, z2, rfl⟩ := okWide_slice Try.underlying24 (hval 2 24 v2 rfl rfl)
  obtain ⟨fu2, hf2⟩ := h2
  have ft2 : FitD 24 d2 := fit_of hsz (j := 2) rfl rfl
  obtain ⟨ar2, hP2, hF2⟩ := open_puts (v := .slice x2 y2 z2) hf2 ft2
  obtain ⟨x3, y3, z3, rfl⟩ := okWide_slice Try.underlying24 (hval 3 24 v3 rfl rfl)
  obtain ⟨fu3, hf3⟩ := h3
  have ft3 : FitD 24 d3 := fit_of hsz (j := 3) rfl rfl
  obtain ⟨ar3, hP3, hF3⟩ := open_puts (v := .slice x3 y3 z3) hf3 ft3
  obtain ⟨a4, rfl, rfl, rfl, w4⟩ := open_int Try.underlying5 (hval 4 5 v4 rfl rfl) h4
  clear hval0 hsz0
  refine (walk' a0 _ _ _ ar1 ar2 ar3 a4 W hP1 hP2 hP3 hF1 hF2 hF3 (u8_in w4)).mono fun e W' ⟨he, bel⟩ => ?_
  subst he
  exact ⟨_, rfl, _, _, _, [], _, [], hW', trodAll_mk1 (shut_bool Try.underlying4 _), carryAll laidOut bel _ _ _ _ kinds5 hA1 (fun x hx => hW'.lt x (List.mem_append.2 (.inl hx))), rfl, bel.frame _, fun h => by cases h⟩
theorem proved : Rows.ModelCrashesSaid :=
  OpenClaim.holds_of_wide 5 Try.f5 rfl rfl rfl rfl rfl rfl rfl ⟨rfl, rfl, rfl, rfl, rfl⟩ rfl rfl rfl rfl rfl (by kernel_rfl) Try.func5 (by kernel_rfl)
    (of_decide_eq_true (by kernel_rfl)) (by unfold Func.isWrapper; first | (rw [if_pos (by decide +kernel)]; kernel_rfl) | (rw [if_neg (by decide +kernel)]; exact ⟨rfl, rfl⟩))
    (fun os started H enc _ => lifted os started H enc)
#print axioms proved
end Go.Proofs.Ytgkkmdebpekckaa.Crashes
