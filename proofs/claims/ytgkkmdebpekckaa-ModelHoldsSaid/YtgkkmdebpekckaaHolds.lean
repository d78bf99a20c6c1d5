/- ModelHolds: for every number of blocks and every script the law returns true: whatever was written, what Read tells may be found behind a crash; a batch is never there in part. Conditions: none. -/
import Derived.Test.YtgkkmdebpekckaaMs
namespace Go.Proofs.Ytgkkmdebpekckaa.Holds
open Go.ChangeShapes Go.WideShapes Go.ChangeAt Go.RowKit
open Go.Proofs.Ytgkkmdebpekckaa
/-- Behind k calls of the script. -/
structure Inv (Z : Nat → Prop) (W w : World) (m n : Nat) (s : St) (k : Nat) : Prop where
  mdl : MdlAt Z w m n s
  ok : s.ok n
  way : s.way.N = 0
  few : s.many + s.L ≤ k
  zb : ∀ k, Z k → W.heap.size ≤ k
  bel : Below W.heap.size W w
theorem Inv.keep {Z : Nat → Prop} {W w w1 : World} {m n : Nat} {s : St} {k : Nat} (h : Inv Z W w m n s k) (hb : Below w.heap.size w w1) : Inv Z W w1 m n s k :=
  ⟨h.mdl.keep hb, h.ok, h.way, h.few, h.zb, h.bel.trans (hb.mono h.bel.size)⟩
theorem Inv.up {Z : Nat → Prop} {W w : World} {m n : Nat} {s : St} {k k' : Nat} (h : Inv Z W w m n s k) (hk : k ≤ k') : Inv Z W w m n s k' :=
  ⟨h.mdl, h.ok, h.way, Nat.le_trans h.few hk, h.zb, h.bel⟩
theorem Inv.mut {Z Z' : Nat → Prop} {W w w1 : World} {m n : Nat} {s : St} {k : Nat} (h : Inv Z W w m n s k) {a : Ar} (ha : a.lt) (hm : MdlAt Z' w1 m n (s.wr n a)) (ho : Out Z w w1) (hz : ∀ k, Z' k → Z k ∨ w.heap.size ≤ k) : Inv Z' W w1 m n (s.wr n a) (k + 1) := by
  have hs := h.bel.size
  refine ⟨hm, h.ok.wr ha, ?_, ?_, fun k hk => (hz k hk).elim (h.zb k) (fun e => by omega), h.bel.trans (ho.below (fun k _ hk => h.zb k hk) hs)⟩
  · unfold St.wr
    by_cases e : a.chk n = 0 ∧ 0 < a.N
    · rw [if_pos e]; rfl
    · rw [if_neg e]; exact h.way
  · unfold St.wr
    have := h.few
    by_cases e : a.chk n = 0 ∧ 0 < a.N
    · rw [if_pos e]; show s.many + (s.L + 1) ≤ k + 1; omega
    · rw [if_neg e]; omega
def ReadAllP (n : Nat) (s : St) (w : World) (e : Ending) (w' : World) : Prop :=
  ∃ a c, e = .returned (.tuple #[.slice a (128 * n) c, .int .u16 0]) ∧ w'.ownsRow w.heap.size 5 1 (.slice a (128 * n) c) (128 * n) (bytesL (128 * n) s.now) ∧ 128 * n ≤ c ∧ Below w.heap.size w w'
theorem read_all (Z : Nat → Prop) (m n : Nat) (s : St) (w : World) (h : MdlAt Z w m n s) (hn : n ≤ 61440) : Calls Try.prog 11 #[.pointer (some ⟨m, 0, none⟩), .int .i64 0, .int .i64 n] w (ReadAllP n s w) := by
  refine (read_ok Z m n s 0 n w h hn (by omega)).mono ?_
  rintro e w' ⟨v, rfl, ho, hb⟩
  obtain ⟨a, c, rfl, hcap, -⟩ := own_form ho
  have e : (fun j => s.now (128 * 0 + j)) = s.now := by funext j; rw [Nat.mul_zero, Nat.zero_add]
  rw [e] at ho
  exact ⟨a, c, rfl, ho, hcap, hb⟩
theorem wr_L {n : Nat} {s : St} {a : Ar} (h : (s.wr n a).L = 1) (hd : s.L ≠ 1) : s.L = 0 ∧ (s.wr n a).sure = s.sure := by
  unfold St.wr at h ⊢
  by_cases e : a.chk n = 0 ∧ 0 < a.N
  · rw [if_pos e] at h ⊢
    exact ⟨by have : s.L + 1 = 1 := h; omega, rfl⟩
  · rw [if_neg e] at h; exact absurd h hd
theorem quiet_add {P : Program} {f : FuncId} {args : Array Value} {w : World} {a n : Nat} {v : Value}
    (h : Calls P f args (w.drewN (a + n)) fun e w' => e = .returned v ∧ ∃ m, w' = (w.drewN (a + n)).drewN m) :
    Calls P f args (w.drewN (a + n)) fun e w'' => e = .returned v ∧ ∃ m, w'' = w.drewN (a + m) :=
  h.mono fun _ _ ⟨he, m, hm⟩ => ⟨he, n + m, by rw [hm, World.drewN_drewN, Nat.add_assoc]⟩
theorem btsX_mut {Z Z' : Nat → Prop} {w w1 : World} {v : Value} {n : Nat} {f : Nat → Nat} (h : BtsX Z w v n f) (ho : Out Z w w1) (hz : ∀ k, Z' k → Z k ∨ w.heap.size ≤ k) : BtsX Z' w1 v n f := by
  have h1 : BtsX (fun k => Z k ∨ w.heap.size ≤ k) w v n f := h.mono fun k hk e => e.elim id fun e => by omega
  exact (h1.out ho fun _ _ e => .inl e).mono fun k _ e => hz k e
theorem btsX_keep {Z : Nat → Prop} {w w1 : World} {v : Value} {n : Nat} {f : Nat → Nat} (h : BtsX Z w v n f) (hb : Below w.heap.size w w1) : BtsX Z w1 v n f :=
  h.out (Out.of_below (S := fun _ => False) hb) (fun _ _ h => h.elim)
/-- Behind a call's Write: what was, what is. -/
structure Rnd (Z : Nat → Prop) (W w : World) (m n : Nat) (s : St) (k : Nat) (va vb : Value) (x y : Nat → Nat) : Prop where
  inv : Inv Z W w m n s k
  was : BtsX Z w va (128 * n) x
  now : BtsX Z w vb (128 * n) y
theorem Rnd.keep {Z : Nat → Prop} {W w w1 : World} {m n : Nat} {s : St} {k : Nat} {va vb : Value} {x y : Nat → Nat} (h : Rnd Z W w m n s k va vb x y) (hb : Below w.heap.size w w1) : Rnd Z W w1 m n s k va vb x y :=
  ⟨h.inv.keep hb, btsX_keep h.was hb, btsX_keep h.now hb⟩
theorem fresh_X {Z : Nat → Prop} {w w1 : World} {v : Value} {n : Nat} {f : Nat → Nat} (hz : ∀ k, Z k → k < w.heap.size) (ho : w1.ownsRow w.heap.size 5 1 v n (bytesL n f)) : BtsX Z w1 v n f :=
  own_btsX ho fun q hq h => by have h1 := (ho.lt q hq).1; have := hz q h; omega
theorem Inv.out {Z S : Nat → Prop} {W w w1 : World} {m n : Nat} {s : St} {k : Nat} (h : Inv Z W w m n s k) (ho : Out S w w1) (hS : ∀ k, S k → W.heap.size ≤ k) (hZ : ∀ k, k < w.heap.size → S k → ¬ Z k) : Inv Z W w1 m n s k :=
  ⟨h.mdl.out ho hZ, h.ok, h.way, h.few, h.zb, h.bel.trans (ho.below (fun k _ hk => hS k hk) h.bel.size)⟩
theorem Inv.same {Z Z' : Nat → Prop} {W w w1 : World} {m n : Nat} {s : St} {k : Nat} (h : Inv Z W w m n s k) (hm : MdlAt Z' w1 m n s) (ho : Out Z w w1) (hz : ∀ k, Z' k → Z k ∨ w.heap.size ≤ k) : Inv Z' W w1 m n s k := by
  have hs := h.bel.size
  exact ⟨hm, h.ok, h.way, h.few, fun k hk => (hz k hk).elim (h.zb k) (fun e => by omega), h.bel.trans (ho.below (fun k _ hk => h.zb k hk) hs)⟩
theorem diffB_self (f : Nat → Nat) (k : Nat) : diffB f f k = false := by simp [diffB, eqB]
theorem was_sure {n : Nat} {s : St} {a : Ar} (h : s.ok n) (hL : (s.wr n a).L = 1) {p : Nat} (hd : diffB s.now (s.wr n a).now p = true) : ∀ k, k < 128 * n → s.now k = (s.wr n a).sure k := by
  unfold St.wr at hL hd ⊢
  by_cases e : a.chk n = 0 ∧ 0 < a.N
  · rw [if_pos e] at hL hd ⊢
    have h0 : s.L = 0 := by have : s.L + 1 = 1 := hL; omega
    intro k hk
    rw [h.nowE k hk, h0]
    rfl
  · rw [if_neg e] at hd
    rw [diffB_self] at hd
    cases hd
theorem fld0 (w : World) (x y : Int) (z : Value) : (Instr.field 43 (.agg #[.int .i64 x, .int .i64 y, z]) 0).run Try.prog w = .ok (.int .i64 x) w := by
  simp [Instr.field, asAgg, go_sem]
theorem fld1 (w : World) (x y : Int) (z : Value) : (Instr.field 43 (.agg #[.int .i64 x, .int .i64 y, z]) 1).run Try.prog w = .ok (.int .i64 y) w := by
  simp [Instr.field, asAgg, go_sem]
set_option maxRecDepth 100000 in
set_option maxHeartbeats 4000000 in
theorem walk (nb : Int) (a : Option Addr) (N cap : Nat) (ops : Nat → Opc) (pv av : Nat → Value) (W : World) (hO : OpsX (fun k => W.heap.size ≤ k) W a N ops pv av) (hN : N ≤ 1954687338211) (hf : ∀ i, i < N → (ops i).fit) :
    Calls Try.prog 4 #[.int .i64 nb, .slice a N cap] W fun e w' => e = .returned (.bool true) ∧ Below W.heap.size W w' := by
  have HMu := Lib.hid (much_any nb _ a N cap ops pv av W hO hN hf)
  have HO := Lib.hid hO
  have HF := Lib.hid hf
  clear hO hf hN
  go_enter Try.func4, Try.ntmps4
  go_wp2_with fail
  refine HMu.out.mono ?_
  clear HMu
  rintro e w1 ⟨bl, rfl, hbl, hb⟩
  have HW1 := Lib.hid hb
  clear hb
  cases bl with
  | true =>
    clear hbl
    go_wp2
    go_ret
    exact ⟨rfl, HW1.out⟩
  | false =>
    have hfew := hbl rfl
    clear hbl
    obtain ⟨hN2, hNb, hsz⟩ := hfew
    have HSz := Lib.hid hsz
    have HNb := Lib.hid hNb
    clear hsz hNb
    by_cases hnb : nb < 1 ∨ 61440 < nb
    · go_wp2_with fail
      refine (new_bad nb _ hnb).mono ?_
      rintro e w2 ⟨rfl, rfl⟩
      clear hnb
      go_wp2_with fail
      refine (known_true _).mono ?_
      rintro e w2 ⟨rfl, hb⟩
      have HW2 := Lib.hid (via HW1.out hb)
      clear hb
      go_wp2
      go_ret
      exact ⟨rfl, HW2.out⟩
    · obtain ⟨n, rfl⟩ : ∃ n : Nat, nb = (n : Int) := ⟨nb.toNat, by omega⟩
      have hn1 : 1 ≤ n := by omega
      have hn : n ≤ 61440 := by omega
      clear hnb
      go_wp2_with fail
      refine (new_ok n _ hn1 hn).mono ?_
      rintro e w2 ⟨m, Z, rfl, hM, hZ, hb⟩
      have HI2 : Hid (Inv Z W w2 m n (St.start fun _ => 0) 0) := ⟨hM, St.start_ok (fun _ _ => by show 0 < 256; omega), rfl, Nat.le_refl _, fun k hk => Nat.le_trans HW1.out.size (hZ k hk), via HW1.out hb⟩
      clear hM hZ hb HW1
      go_wp2_with fail
      refine (known_true _).mono ?_
      rintro e w3 ⟨rfl, hb⟩
      have HI3 := Lib.hid (HI2.out.keep hb)
      clear hb HI2
      go_wp2_with fail
      go_loopw [7] (fun s7 wr => ∃ (k : Nat) (Z : Nat → Prop) (s : St), k ≤ N ∧ s7 = .int .i64 k ∧ Hid (Inv Z W wr m n s k)) (fun s7 _ => N - (intOf s7).toNat)
      case atStart => exact ⟨0, Z, _, Nat.zero_le _, rfl, HI3.out⟩
      case round =>
        clear HI3
        obtain ⟨k, Z, s, hk, rfl, HI⟩ := hrel
        by_cases hlt : k < N
        · have hop := HO.out.out (S := fun k => W.heap.size ≤ k) (w1 := wr) ⟨HI.out.bel.os, HI.out.bel.tape, HI.out.bel.output, HI.out.bel.size, fun k hk _ => HI.out.bel.block k hk⟩ (fun _ _ h => h)
          rcases hop.l with h0 | ⟨ob, oo, rfl, -, hc⟩
          · omega
          obtain ⟨c0, c1, c2, c3, c4⟩ := hc k hlt
          have hAr := hop.puts k hlt
          obtain ⟨pa, pc, e3⟩ := hAr.form
          obtain ⟨ba, bc, e4, -⟩ := hop.all k hlt
          rw [e3] at c3 hAr
          rw [e4] at c4
          have HAr := Lib.hid hAr
          have i1 : (0 : Int) ≤ (k : Int) := by omega
          have i2 : (k : Int) < (N : Int) := by omega
          clear hop hc hAr e3 e4
          go_wp2_with fail
          obtain ⟨wb, hwb⟩ : ∃ wb, wr.alloc (.cells #[.int .i64 (ops k).kind, .int .i64 (ops k).blk, .int .i64 (ops k).n, .slice pa (ops k).puts.N pc, .slice ba (ops k).allN bc] 27) = wb := ⟨_, rfl⟩
          have hbx : Below wr.heap.size wr wb := by rw [← hwb]; exact bal (Below.refl _ _) _
          have hbox : wb.heap[wr.heap.size]? = some (.cells #[.int .i64 (ops k).kind, .int .i64 (ops k).blk, .int .i64 (ops k).n, .slice pa (ops k).puts.N pc, .slice ba (ops k).allN bc] 27 (0, 0)) := by rw [← hwb]; exact heap_alloc_new _ _
          have hbz : wr.heap.size < wb.heap.size := (cr hbox).2.2
          rw [hwb]
          refine (read_all Z m n s _ (HI.out.mdl.keep hbx) hn).mono ?_
          rintro e w4 ⟨wa, wc, rfl, ho, hwc, hb⟩
          have hb4 := hbx.trans (hb.mono hbx.size)
          have HI4 := Lib.hid (HI.out.keep hb4)
          have HZb : Hid (¬ Z wr.heap.size) := fun h => Nat.lt_irrefl _ (HI.out.mdl.lt _ h)
          have HBox4 : Hid (w4.heap[wr.heap.size]? = some (.cells #[.int .i64 (ops k).kind, .int .i64 (ops k).blk, .int .i64 (ops k).n, .slice pa (ops k).puts.N pc, .slice ba (ops k).allN bc] 27 (0, 0))) := (hb.block _ hbz).trans hbox
          have HWas4 : Hid (BtsX Z w4 (.slice wa (128 * n) wc) (128 * n) s.now) := fresh_X (fun k hk => Nat.lt_of_lt_of_le (HI.out.mdl.lt k hk) hbx.size) ho
          have HAr4 : Hid (ArX (fun k => W.heap.size ≤ k) w4 (.slice pa (ops k).puts.N pc) (ops k).puts) := HAr.out.out (Out.of_below (S := fun _ => False) hb4) (fun _ _ h => h.elim)
          have HLt := Lib.hid (HF.out k hlt).1.2.2
          obtain ⟨q1, q2, q3⟩ := cr HBox4.out
          obtain ⟨K, hK⟩ : ∃ K, (ops k).kind = K := ⟨_, rfl⟩
          rw [hK] at q1 HBox4
          obtain ⟨ar, har⟩ : ∃ ar, (ops k).puts = ar := ⟨_, rfl⟩
          rw [har] at q1 HBox4 HAr4 HLt
          clear c0 c1 c2 c3 c4 hbx hbox hbz ho hb hb4 HAr HI hK har hwb
          have hLs : s.L ≤ 1000000 := by have := HI4.out.few; omega
          by_cases hK2 : K = 2
          · subst hK2
            go_wp2_with fail
            refine (write_any Z m n s ar _ w4 HI4.out.mdl hn hLs (HAr4.out.mono fun k _ h => HI4.out.zb k h)).mono ?_
            rintro e w5 ⟨rfl, Z5, hM5, hO5, hZ5⟩
            have HI5 := Lib.hid (HI4.out.mut HLt.out hM5 hO5 hZ5)
            have HBox5 := Lib.hid (hO5.heap HBox4.out HZb.out)
            have HWas5 := Lib.hid (btsX_mut HWas4.out hO5 hZ5)
            clear q1 q2 q3 hM5 hO5 hZ5 HBox4 HWas4 HZb HAr4
            obtain ⟨q1, q2, q3⟩ := cr HBox5.out
            by_cases hck : ar.chk n = 0
            · have HCk := Lib.hid hck
              rw [hck]
              clear hck
              have hL5 : (s.wr n ar).L ≤ 1000000 := by have := HI5.out.few; omega
              go_wp2_with fail
              refine (read_all Z5 m n _ w5 HI5.out.mdl hn).mono ?_
              rintro e w6 ⟨na, nc, rfl, ho, hnc, hb⟩
              have HR6 : Hid (Rnd Z5 W w6 m n (s.wr n ar) (k + 1) (.slice wa (128 * n) wc) (.slice na (128 * n) nc) s.now (s.wr n ar).now) := ⟨HI5.out.keep hb, btsX_keep HWas5.out hb, fresh_X HI5.out.mdl.lt ho⟩
              have HBox6 := Lib.hid ((hb.block _ q3).trans HBox5.out)
              clear ho hb q1 q2 q3 HI5 HBox5 HWas5
              obtain ⟨q1, q2, q3⟩ := cr HBox6.out
              go_wp2_with fail
              refine (could_at Z5 m n _ _ _ _ _ w6 HR6.out.inv.mdl HR6.out.inv.ok (by omega) hn hL5 HR6.out.now.bts HR6.out.inv.ok.now true (by simp [HR6.out.inv.ok.could_now _ (fun _ _ => rfl)])).mono ?_
              rintro e w7 ⟨rfl, hb⟩
              have HR7 := Lib.hid (HR6.out.keep hb)
              have HBox7 := Lib.hid ((hb.block _ q3).trans HBox6.out)
              clear hb q1 q2 q3 HR6 HBox6
              obtain ⟨q1, q2, q3⟩ := cr HBox7.out
              go_wp2_with fail
              clear HBox7 q1 q2 q3
              obtain ⟨cB, hcB⟩ : ∃ c, diffB s.now (s.wr n ar).now = c := ⟨_, rfl⟩
              have HcB := Lib.hid hcB
              have HC : Hid (∀ j, eqB 128 128 (blkOf s.now j) (blkOf (s.wr n ar).now j) = !cB j) := fun j => by rw [← hcB]; simp [diffB]
              clear hcB
              go_loopw [14, 15, 16] (fun s14 s15 s16 wq => ∃ j : Nat, j ≤ n ∧ s16 = .int .i64 j ∧ s14 = .int .i64 (lastB cB j) ∧ s15 = .int .i64 (prevB cB j) ∧ Hid (Rnd Z5 W wq m n (s.wr n ar) (k + 1) (.slice wa (128 * n) wc) (.slice na (128 * n) nc) s.now (s.wr n ar).now)) (fun _ _ s16 _ => n - (intOf s16).toNat)
              case atStart => exact ⟨0, Nat.zero_le _, rfl, rfl, rfl, HR7.out⟩
              case round =>
                obtain ⟨j, hj, rfl, rfl, rfl, HRq⟩ := hrel
                have hlb := lastB_bd cB j
                have hpb := prevB_bd cB j
                by_cases hjl : j < n
                · obtain ⟨_, _, e1, h1⟩ := HRq.out.was
                  cases e1
                  rcases h1 with h1 | ⟨b1, o1, rfl, -, h1⟩
                  · omega
                  obtain ⟨_, _, e2, h2⟩ := HRq.out.now
                  cases e2
                  rcases h2 with h2 | ⟨b2, o2, rfl, -, h2⟩
                  · omega
                  have hsame : Hid (∀ q, Calls Try.prog 14 #[.slice (some ⟨b1, o1 + 128 * j, none⟩) 128 (wc - 128 * j), .slice (some ⟨b2, o2 + 128 * j, none⟩) 128 (nc - 128 * j)] (wr.drewN q) fun e w' => e = .returned (.bool (!cB j)) ∧ ∃ m, w' = (wr.drewN q).drewN m) := fun q => by
                    rw [← HC.out j]
                    exact same_Q _ _ 128 128 _ _ (wr.drewN q) ⟨_, _, rfl, .inr ⟨b1, o1 + 128 * j, rfl, fun i hi => by rw [Nat.add_assoc]; exact h1 (128 * j + i) (by omega)⟩⟩ ⟨_, _, rfl, .inr ⟨b2, o2 + 128 * j, rfl, fun i hi => by rw [Nat.add_assoc]; exact h2 (128 * j + i) (by omega)⟩⟩ (by omega)
                  obtain ⟨L, hL⟩ : ∃ L, 128 * n = L := ⟨_, rfl⟩
                  obtain ⟨m1, hm1⟩ : ∃ m1, 128 * j = m1 := ⟨_, rfl⟩
                  obtain ⟨m2, hm2⟩ : ∃ m2, 128 * (j + 1) = m2 := ⟨_, rfl⟩
                  have hwc' := hwc
                  have hnc' := hnc
                  rw [hL] at hwc' hnc'
                  rw [hm1] at hsame
                  have t1 : IntKind.i64.wrap (128 * (j : Int)) = (m1 : Int) := by subst hm1; go_arith
                  have t2 : IntKind.i64.wrap (128 * ((j : Int) + 1)) = (m2 : Int) := by subst hm2; go_arith
                  have t3 : m1 ≤ m2 := by omega
                  have t4 : m2 ≤ L := by omega
                  have t5 : m2 - m1 = 128 := by omega
                  have t6 : ¬ wc = m1 := by omega
                  have t7 : ¬ nc = m1 := by omega
                  have i3 : (0 : Int) ≤ (j : Int) := by omega
                  have i4 : (j : Int) < (n : Int) := by omega
                  have i5 : (n : Int) ≤ 61440 := by omega
                  have hwc2 : m2 ≤ wc := by omega
                  have hnc2 : m2 ≤ nc := by omega
                  clear h1 h2 hm1 hm2 hL
                  obtain ⟨cj, hcj⟩ : ∃ cj, cB j = cj := ⟨_, rfl⟩
                  rw [hcj] at hsame
                  have HCJ := Lib.hid hcj
                  clear hcj
                  cases cj
                  · go_wp2_with fail
                    go_quiet ((go_at_call 14; exact Calls.quiet_of (hsame.out _)))
                    go_wp2_with fail
                    go_roundw
                    case rel =>
                      have e1 : lastB cB (j + 1) = lastB cB j := if_neg (by rw [HCJ.out]; exact Bool.false_ne_true)
                      have e2 : prevB cB (j + 1) = prevB cB j := if_neg (by rw [HCJ.out]; exact Bool.false_ne_true)
                      exact ⟨j + 1, by omega, by go_num, by rw [e1], by rw [e2], HRq.out.keep (bdn (Below.refl _ _) _)⟩
                    case measure => simp [intOf]; omega
                  · go_wp2_with fail
                    go_quiet ((go_at_call 14; exact Calls.quiet_of (hsame.out _)))
                    go_wp2_with fail
                    go_roundw
                    case rel =>
                      have e1 : lastB cB (j + 1) = (j : Int) := if_pos HCJ.out
                      have e2 : prevB cB (j + 1) = lastB cB j := if_pos HCJ.out
                      exact ⟨j + 1, by omega, by go_num, by rw [e1], by rw [e2], HRq.out.keep (bdn (Below.refl _ _) _)⟩
                    case measure => simp [intOf]; omega
                · obtain rfl : j = n := by omega
                  clear HR7
                  by_cases hp0 : prevB cB j < 0
                  · go_wp2_with fail
                    go_roundw
                    case rel => exact ⟨k + 1, Z5, _, by omega, by go_num, HRq.out.inv⟩
                    case measure => simp [intOf]; omega
                  · have HCk2 := Lib.hid (prevB_at cB j)
                    obtain ⟨pI, hpI⟩ : ∃ pI, prevB cB j = pI := ⟨_, rfl⟩
                    obtain ⟨lI, hlI⟩ : ∃ lI, lastB cB j = lI := ⟨_, rfl⟩
                    rw [hpI] at hp0 hpb HCk2 ⊢
                    rw [hlI] at hlb HCk2 ⊢
                    clear hpI hlI
                    have hp0' : 0 ≤ pI := by omega
                    clear hp0
                    have hm5 : (s.wr j ar).many + (s.wr j ar).L ≤ 1000000000 := by have := HRq.out.inv.few; omega
                    obtain ⟨M5, hM5⟩ : ∃ M5, (s.wr j ar).many = M5 := ⟨_, rfl⟩
                    obtain ⟨L5, hL55⟩ : ∃ L5, (s.wr j ar).L = L5 := ⟨_, rfl⟩
                    have HF5 : Hid (∀ W', MdlAt Z5 W' m j (s.wr j ar) → Calls Try.prog 15 #[.pointer (some ⟨m, 0, none⟩)] W' fun e w' => e = .returned (.agg #[.int .i64 M5, .int .i64 ((M5 : Int) + L5), .bool false]) ∧ Below W'.heap.size W' w') := fun W' hM => by
                      refine (fate_any Z5 m j (s.wr j ar) W' hM hm5).mono ?_
                      rintro e w' ⟨rfl, hb⟩
                      rw [← hM5, ← hL55, HRq.out.inv.way]
                      exact ⟨rfl, hb⟩
                    have HML := Lib.hid (And.intro hM5 hL55)
                    rw [hM5, hL55] at hm5
                    clear hM5 hL55
                    have hf0 := fun (w : World) (y : Int) => fld0 w (M5 : Int) y (.bool false)
                    have hf1 := fun (w : World) (y : Int) => fld1 w (M5 : Int) y (.bool false)
                    go_wp2_with fail
                    refine (HF5.out _ HRq.out.inv.mdl).mono ?_
                    rintro e w8 ⟨rfl, hb⟩
                    have HR8 := Lib.hid (HRq.out.keep hb)
                    clear hb HRq
                    go_wp2_with fail
                    refine (HF5.out _ HR8.out.inv.mdl).mono ?_
                    rintro e w9 ⟨rfl, hb⟩
                    have HR9 := Lib.hid (HR8.out.keep hb)
                    clear hb HR8 HF5
                    have j1 : (0 : Int) ≤ (M5 : Int) := by omega
                    have j2 : (M5 : Int) + L5 ≤ 1000000000 := by omega
                    have j3 : (0 : Int) ≤ (L5 : Int) := by omega
                    have j4 : IntKind.i64.wrap ((M5 : Int) + L5 - 1) = (M5 : Int) + L5 - 1 := by go_arith
                    by_cases hL1 : L5 = 1
                    · have j5 : ((M5 : Int) != (M5 : Int) + L5 - 1) = false := by simp; omega
                      have HL1 := Lib.hid hL1
                      rcases HCk2.out with hbad | ⟨p0, q0, hpq, hqn, rfl, rfl, dp, dq⟩
                      · omega
                      have HDP := Lib.hid dp
                      have HDQ := Lib.hid dq
                      obtain ⟨_, _, e1, h1⟩ := HR9.out.was
                      cases e1
                      rcases h1 with h1 | ⟨b1, o1, rfl, -, h1⟩
                      · omega
                      obtain ⟨_, _, e2, h2⟩ := HR9.out.now
                      cases e2
                      rcases h2 with h2 | ⟨b2, o2, rfl, -, h2⟩
                      · omega
                      have HC1 := Lib.hid h1
                      have HC2 := Lib.hid h2
                      clear hL1 dp dq h1 h2 HCk2 hp0'
                      obtain ⟨L, hL⟩ : ∃ L, 128 * j = L := ⟨_, rfl⟩
                      have HLj := Lib.hid hL
                      rw [hL] at hwc hnc HC1 HC2 ⊢
                      have hL7 : L ≤ 7864320 := by omega
                      have hL0 : 0 < L := by omega
                      clear hL
                      obtain ⟨i0, hi, hz0, hz1, hz2⟩ := info_parts Try.info5
                      go_wp2_with (first | (at_builtin; refine wpList_append_own _ rfl _ _ 25 rfl w9.heap.size 5 i0 (.int .u8 0) 1 1 Try.underlying25 hi hz0 hz1 hz2 rfl (by decide) _ 0 [] rfl (World.ownsRow_nil _ _ _ _) ⟨b2, o2, none⟩ L nc (bytesL L (s.wr j ar).now) rfl (by rw [bytesL_len, Nat.mul_one]) ?c1 (bytesL_one _ _) ?c3 ?c4 ?c5 ?_))
                      case c1 =>
                        intro q u hq
                        by_cases hlt : q < L
                        · rw [bytesL_get _ _ _ hlt] at hq
                          rw [addk, HC2.out q hlt]
                          exact hq
                        · rw [List.getElem?_eq_none (by rw [bytesL_len]; omega)] at hq
                          cases hq
                      case c3 => unfold maxLen; omega
                      case c4 => omega
                      case c5 => simp
                      intro v' w10 hown hgr _
                      have hbel : Below w9.heap.size w9 w10 := (Below.refl _ _).grown hgr (Nat.le_refl _) (fun k hk => by cases hk)
                      obtain ⟨gha, ch, rfl, hch, hf⟩ := own_form hown
                      obtain ⟨gh, rfl⟩ := hf.resolve_left (by omega)
                      have HHalf := Lib.hid hown
                      have HGh := Lib.hid (hown.lt gh rfl)
                      have HB10 := Lib.hid hbel
                      clear hown hgr hf hbel
                      obtain ⟨m1, hm1⟩ : ∃ m1, 128 * q0 = m1 := ⟨_, rfl⟩
                      obtain ⟨m2, hm2⟩ : ∃ m2, 128 * (q0 + 1) = m2 := ⟨_, rfl⟩
                      have t0 : (0 : Int) ≤ (q0 : Int) := by omega
                      have t00 : (q0 : Int) ≤ 61440 := by omega
                      have tq : IntKind.i64.wrap ((q0 : Int) + 1) = (q0 : Int) + 1 := by go_arith
                      have t1 : IntKind.i64.wrap (128 * (q0 : Int)) = (m1 : Int) := by subst hm1; go_arith
                      have t2 : IntKind.i64.wrap (128 * ((q0 : Int) + 1)) = (m2 : Int) := by subst hm2; go_arith
                      have t3 : m1 ≤ m2 := by omega
                      have t4 : m2 ≤ L := by have := HLj.out; omega
                      have t5 : m2 - m1 = 128 := by omega
                      have t6 : ¬ wc = m1 := by omega
                      have t7 : ¬ ch = m1 := by omega
                      have t8 : m2 ≤ ch := by omega
                      have t9 : m1 ≤ L := by omega
                      have t10 : m1 ≤ wc := by omega
                      have HSrc : Hid (∀ w', Below w10.heap.size w10 w' → ∀ i u, (bytesL 128 (blkOf s.now q0))[i]? = some u → w'.cell? ((⟨b1, o1 + m1, none⟩ : Addr).add i) = some u) := fun w' hb i u hi => by
                        by_cases hi' : i < 128
                        · rw [bytesL_get _ _ _ hi'] at hi
                          have h1 := HC1.out (m1 + i) (by omega)
                          have h2 := (HB10.out.trans (hb.mono HB10.out.size)).cell (p := ⟨b1, o1 + (m1 + i), none⟩) (World.block_lt_of_cell? w9 _ h1)
                          rw [addk, Nat.add_assoc, h2, h1]
                          rw [← hi]
                          show some (Value.int .u8 (s.now (m1 + i) : Int)) = some (.int .u8 (s.now (128 * q0 + i) : Int))
                          rw [hm1]
                        · rw [List.getElem?_eq_none (by rw [bytesL_len]; omega)] at hi
                          cases hi
                      have HQ := Lib.hid (And.intro hm1 hpq)
                      clear hm1 hm2 hpq
                      go_wp2_with fail
                      go_region_law (refine step_copy_lies _ rfl (.tmp 155) (.tmp 159) 25 25 rfl 5 w9.heap.size gh L ch m1 128 (ch - m1) (bytesL L (s.wr j ar).now) (own_keep (w := w10) (by go_grown) HHalf.out) ⟨b1, o1 + m1, none⟩ (L - m1) (wc - m1) (bytesL 128 (blkOf s.now q0)) Try.underlying25 size5 (by simp [Act.eval, Act.put]) (by simp [Act.eval, Act.put]) (by rw [bytesL_len]; exact (Nat.min_eq_right (by omega)).symm) (by rw [bytesL_len]; omega) (HSrc.out _ (by go_grown)) (bytesL_one _ _) ?_; intro w11 ho hout; have HO11 := Lib.hid ho; have HOut11 := Lib.hid hout; clear ho hout)
                      obtain ⟨hm1, hpq⟩ := HQ.out
                      have ho5 : Out (fun b => b = gh) w10 w11 := (Out.drew (Out.refl _ _)).tr HOut11.out
                      have hb9 := HB10.out
                      have hgh := HGh.out
                      have hz9 := HR9.out.inv.mdl.lt
                      have hbW := HR9.out.inv.bel.size
                      have hgz : ∀ k, k = gh → ¬ Z5 k := fun k e hz => by have := hz9 k hz; omega
                      have hrow := HO11.out
                      have hLL := HLj.out
                      subst hLL
                      rw [← hm1, half_splice j q0 s.now (s.wr j ar).now hqn] at hrow
                      have HHalf11 := Lib.hid hrow
                      have HI11 : Hid (Inv Z5 W w11 m j (s.wr j ar) (k + 1)) := (HR9.out.inv.keep hb9).out ho5 (fun k e => by have e' : k = gh := e; omega) (fun k _ e => hgz k e)
                      have HWas11 : Hid (BtsX Z5 w11 (.slice (some ⟨b1, o1, none⟩) (128 * j) wc) (128 * j) s.now) := by
                        have h1 : BtsX (fun k => Z5 k ∨ k = gh) w9 (.slice (some ⟨b1, o1, none⟩) (128 * j) wc) (128 * j) s.now := HR9.out.was.mono fun k hk e => e.elim id fun e => by omega
                        exact ((btsX_keep h1 hb9).out ho5 fun k _ e => .inr e).mono fun k _ e => .inl e
                      obtain ⟨hM5, hL55⟩ := HML.out
                      have hone : (s.wr j ar).L = 1 := by rw [hL55]; exact HL1.out
                      have HNot : Hid (¬ (s.wr j ar).could j (128 * j) (halfB s.now (s.wr j ar).now q0)) := by
                        refine half_not HI11.out.ok hone HI11.out.way (was_sure HI4.out.ok hone (by rw [HcB.out]; exact HDP.out)) (fun _ _ => rfl) hpq hqn (by rw [HcB.out]; exact HDP.out) (by rw [HcB.out]; exact HDQ.out)
                      have HYes : Hid ((s.wr j ar).could j (128 * j) s.now) := St.could_sure _ (was_sure HI4.out.ok hone (by rw [HcB.out]; exact HDP.out))
                      have HHLt : Hid (Lt (128 * j) (halfB s.now (s.wr j ar).now q0)) := halfB_lt HI4.out.ok.now HI11.out.ok.now q0
                      clear hm1 hpq ho5 hb9 hgh hz9 hbW hgz hrow HO11 HOut11 hM5 hL55 hone HR9 HHalf HSrc t0 t00 tq t1 t2 t3 t4 t5 t6 t7 t8 t9 t10
                      have hL511 : (s.wr j ar).L ≤ 1000000 := by have := HI11.out.few; omega
                      go_wp2_with fail
                      refine (could_at Z5 m j _ _ _ _ _ w11 HI11.out.mdl HI11.out.ok (by omega) hn hL511 (own_bts HHalf11.out) HHLt.out false (by simp [HNot.out])).mono ?_
                      rintro e w12 ⟨rfl, hb⟩
                      have HI12 := Lib.hid (HI11.out.keep hb)
                      have HWas12 := Lib.hid (btsX_keep HWas11.out hb)
                      have HHalf12 := Lib.hid (own_keep hb HHalf11.out)
                      clear hb HI11 HWas11 HHalf11
                      go_wp2_with fail
                      refine (could_at Z5 m j _ _ _ _ _ w12 HI12.out.mdl HI12.out.ok (by omega) hn hL511 HWas12.out.bts HI4.out.ok.now true (by simp [HYes.out])).mono ?_
                      rintro e w13 ⟨rfl, hb⟩
                      have HI13 := Lib.hid (HI12.out.keep hb)
                      have HHalf13 := Lib.hid (own_keep hb HHalf12.out)
                      clear hb HI12 HWas12 HHalf12
                      go_wp2_with fail
                      refine (crash_any Z5 m j _ _ _ _ _ w13 HI13.out.mdl HI13.out.ok (by omega) hn hL511 (own_bts HHalf13.out) HHLt.out false (by simp [HNot.out])).mono ?_
                      rintro e w14 ⟨rfl, Z6, hM6, hO6, hZ6⟩
                      have HI14 := Lib.hid (HI13.out.same hM6 hO6 hZ6)
                      clear hM6 hO6 hZ6 HI13 HHalf13
                      go_wp2_with fail
                      go_roundw
                      case rel => exact ⟨k + 1, Z6, _, by omega, by go_num, HI14.out⟩
                      case measure => simp [intOf]; omega
                    · have j5 : ((M5 : Int) != (M5 : Int) + L5 - 1) = true := by simp; omega
                      go_wp2_with fail
                      go_roundw
                      case rel => exact ⟨k + 1, Z5, _, by omega, by go_num, HR9.out.inv⟩
                      case measure => simp [intOf]; omega
            · obtain ⟨cc, hcc⟩ : ∃ cc, ar.chk n = cc := ⟨_, rfl⟩
              rw [hcc] at hck ⊢
              have hne : ((cc : Int) != 0) = true := by simp; exact hck
              clear hcc hck
              go_wp2_with fail
              go_roundw
              case rel => exact ⟨k + 1, Z5, _, by omega, by go_num, HI5.out⟩
              case measure => simp [intOf]; omega
          · by_cases hK3 : K = 3
            · subst hK3
              clear hK2
              go_wp2_with fail
              refine (read_all Z m n s w4 HI4.out.mdl hn).mono ?_
              rintro e w6 ⟨na, nc, rfl, ho, hnc, hb⟩
              have HI6 := Lib.hid (HI4.out.keep hb)
              have HN6 : Hid (BtsX Z w6 (.slice na (128 * n) nc) (128 * n) s.now) := fresh_X HI4.out.mdl.lt ho
              have HBox6 := Lib.hid ((hb.block _ q3).trans HBox4.out)
              clear ho hb q1 q2 q3 HBox4 HAr4
              obtain ⟨q1, q2, q3⟩ := cr HBox6.out
              go_wp2_with fail
              refine (could_at Z m n _ _ _ _ _ w6 HI6.out.mdl HI6.out.ok (by omega) hn hLs HN6.out.bts HI6.out.ok.now true (by simp [HI6.out.ok.could_now _ (fun _ _ => rfl)])).mono ?_
              rintro e w7 ⟨rfl, hb⟩
              have HI7 := Lib.hid (HI6.out.keep hb)
              have HN7 := Lib.hid (btsX_keep HN6.out hb)
              have HBox7 := Lib.hid ((hb.block _ q3).trans HBox6.out)
              clear hb q1 q2 q3 HBox6 HI6 HN6
              obtain ⟨q1, q2, q3⟩ := cr HBox7.out
              go_wp2_with fail
              refine (sure_any Z m n s w7 HI7.out.mdl (by have := HI7.out.few; omega)).mono ?_
              rintro e w8 ⟨rfl, hM8, hO8⟩
              have HI8 : Hid (Inv Z W w8 m n s.mkSure (k + 1)) := ⟨hM8, HI7.out.ok.mkSure, HI7.out.way, by have := HI7.out.few; show s.many + s.L + 0 ≤ k + 1; omega, HI7.out.zb, HI7.out.bel.trans (hO8.below (fun k _ hk => HI7.out.zb k hk) HI7.out.bel.size)⟩
              have HN8 : Hid (BtsX Z w8 (.slice na (128 * n) nc) (128 * n) s.now) := HN7.out.out hO8 (fun _ _ h => h)
              clear hM8 hO8 q1 q2 q3 HBox7 HI7 HN7
              go_wp2_with fail
              refine (fate_any Z m n s.mkSure w8 HI8.out.mdl (by have := HI8.out.few; omega)).mono ?_
              rintro e w9 ⟨rfl, hb⟩
              have HI9 := Lib.hid (HI8.out.keep hb)
              have HN9 := Lib.hid (btsX_keep HN8.out hb)
              clear hb HI8 HN8
              have e1 : ((s.mkSure.many : Int) + (s.mkSure.L : Int)) = (s.mkSure.many : Int) := by show (s.mkSure.many : Int) + ((0 : Nat) : Int) = _; simp
              rw [e1]
              clear e1
              obtain ⟨M9, hM9⟩ : ∃ M9, s.mkSure.many = M9 := ⟨_, rfl⟩
              rw [hM9]
              clear hM9
              go_wp2_with fail
              have hb9 : Below w9.heap.size w9 (w9.alloc (.cells #[.int .i64 M9, .int .i64 M9, .bool (decide (0 < s.mkSure.way.N))] 43)) := bal (Below.refl _ _) _
              refine (could_at Z m n s.mkSure _ _ _ _ _ (HI9.out.mdl.keep hb9) HI9.out.ok (by omega) hn (Nat.zero_le _) (btsX_keep HN9.out hb9).bts HI9.out.ok.now true (by simp [HI9.out.ok.could_now s.now (fun _ _ => rfl)])).mono ?_
              rintro e w10 ⟨rfl, hb⟩
              have HI10 := Lib.hid (HI9.out.keep (hb9.trans (hb.mono hb9.size)))
              clear hb hb9 HI9 HN9
              go_wp2_with fail
              go_roundw
              case rel => exact ⟨k + 1, Z, _, by omega, by go_num, HI10.out⟩
              case measure => simp [intOf]; omega
            · have k1 : (K == 2) = false := by simp; exact hK2
              have k2 : (K != 2) = true := by simp; exact hK2
              have k3 : (K != 3) = true := by simp; exact hK3
              clear hK2 hK3
              go_wp2_with fail
              go_roundw
              case rel => exact ⟨k + 1, Z, s, by omega, by go_num, HI4.out.up (Nat.le_succ _)⟩
              case measure => simp [intOf]; omega
        · obtain rfl : k = N := by omega
          have hLs : s.L ≤ 1000000 := by have := HI.out.few; omega
          go_wp2_with fail
          refine (read_all Z m n s _ HI.out.mdl hn).mono ?_
          rintro e w4 ⟨na, nc, rfl, ho, hnc, hb⟩
          have HI4 := Lib.hid (HI.out.keep hb)
          have HN4 : Hid (BtsX Z w4 (.slice na (128 * n) nc) (128 * n) s.now) := fresh_X HI.out.mdl.lt ho
          clear ho hb HI
          go_wp2_with fail
          refine (crash_any Z m n s _ _ _ _ w4 HI4.out.mdl HI4.out.ok (by omega) hn hLs HN4.out.bts HI4.out.ok.now true (by simp [HI4.out.ok.could_now _ (fun _ _ => rfl)])).mono ?_
          rintro e w5 ⟨rfl, Z5, hM5, hO5, hZ5⟩
          have HM5 : Hid (MdlAt Z5 w5 m n (St.start s.now)) := hM5
          have HN5 := Lib.hid (btsX_mut HN4.out hO5 hZ5)
          have HB5 : Hid (Below W.heap.size W w5) := HI4.out.bel.trans (hO5.below (fun k _ hk => HI4.out.zb k hk) HI4.out.bel.size)
          clear hM5 hO5 hZ5 HN4
          go_wp2_with fail
          refine (read_all Z5 m n _ w5 HM5.out hn).mono ?_
          rintro e w6 ⟨ra, rc, rfl, ho, hrc, hb⟩
          have HM6 := Lib.hid (HM5.out.keep hb)
          have HN6 := Lib.hid (btsX_keep HN5.out hb)
          have HR6 : Hid (Bts w6 (.slice ra (128 * n) rc) (128 * n) s.now) := own_bts ho
          have HB6 := Lib.hid (via HB5.out hb)
          clear ho hb HM5 HN5 HB5
          go_wp2_with fail
          refine (same_V _ _ (128 * n) (128 * n) s.now s.now w6 HN6.out.bts HR6.out (by omega)).mono ?_
          rintro e w7 ⟨rfl, hb⟩
          rw [eqB_true (fun _ _ => rfl)]
          have HM7 := Lib.hid (HM6.out.keep hb)
          have HB7 := Lib.hid (via HB6.out hb)
          clear hb HM6 HN6 HR6 HB6
          go_wp2_with fail
          refine (fate_any Z5 m n _ w7 HM7.out (by show 0 + 0 ≤ _; omega)).mono ?_
          rintro e w8 ⟨rfl, hb⟩
          have HB8 := Lib.hid (via HB7.out hb)
          clear hb HM7 HB7
          have e1 : (Value.agg #[.int .i64 (St.start s.now).many, .int .i64 (((St.start s.now).many : Int) + ((St.start s.now).L : Int)), .bool (decide (0 < (St.start s.now).way.N))]) = .agg #[.int .i64 0, .int .i64 0, .bool false] := rfl
          rw [e1]
          clear e1
          go_wp2
          go_ret
          exact ⟨rfl, HB8.out⟩
theorem kinds4 : ∀ t ∈ Try.f4.params.toList, Try.prog.readableRec t = true ∧ t < Try.prog.types.size := by
  rw [Try.params4]
  intro t ht
  simp only [List.mem_cons, List.not_mem_nil, or_false] at ht
  rcases ht with rfl | rfl
  all_goals exact ⟨by kernel_rfl, of_decide_eq_true (by kernel_rfl)⟩
set_option maxRecDepth 100000 in
theorem lifted (os : Os) (started : os.Started) (H : Type) (enc : TypeId × Value → H) :
    ReturnsInHanded {} Try.checked os 4 .any (Rows.modelHoldsSpec.pre6 enc Try.prog Try.f4 Rows.modelHoldsRow.domain false) (Rows.modelHoldsSpec.post enc Try.prog Try.f4 false true false false) := by
  refine returnsInHanded_of_change_sized (C := Try.checked) own started (by kernel_rfl) Try.func4
    (ChangeSpec.witness6 (enc := enc) (C := Try.checked) false ⟨#[], #[.int .i64 0, .slice none 0 0], []⟩ 8 (by kernel_rfl) (by kernel_rfl) (by kernel_rfl) (by kernel_rfl)) ?_
  intro W base args ds gs before hval0 hW hcnd hsz0 _
  have hval : ∀ (j : Nat) t v, Try.f4.params[j]? = some t → args[j]? = some v → Value.okWide Try.prog W .any base t v := hval0
  have hW' := hW
  obtain ⟨p, q, hA0, hV, rfl, hfz, hnd⟩ := hW
  have hA : DataW.TrodAll enc Try.prog W 0 (fun _ => true) true Try.f4.params.toList args.toList ds p := hA0
  have hA1 := hA
  have hsz : (DataW.weightsEach Try.prog (Try.f4.params.toList ++ []) (ds ++ gs)).all (· ≤ reachBytes) = true := hsz0
  rw [Try.params4] at hA hval hsz
  obtain ⟨v0, vs0, d0, ds0, p0, q0, hargs, rfl, rfl, h0, r0⟩ := trodAll_cons hA
  obtain ⟨v1, vs1, d1, ds1, p1, q1, rfl, rfl, rfl, h1, r1⟩ := trodAll_cons r0
  obtain ⟨rfl, rfl, rfl⟩ := trodAll_nil r1
  obtain rfl : args = #[v0, v1] := by cases args; simp_all
  obtain ⟨rfl, rfl⟩ := trodVars_none hV
  obtain ⟨a0, rfl, rfl, rfl, w0⟩ := open_int Try.underlying3 (hval 0 3 v0 rfl rfl) h0
  obtain ⟨x1, y1, z1, rfl⟩ := okWide_slice Try.underlying23 (hval 1 23 v1 rfl rfl)
  obtain ⟨fu1, hf1⟩ := h1
  have ft1 : FitD 23 d1 := fit_of hsz (j := 1) rfl rfl
  obtain ⟨a1, N1, c1, ops1, pv1, av1, e1, hO1, hN1, hF1, hI1⟩ := open_ops (v := .slice x1 y1 z1) hf1 ft1
  cases e1
  clear hval0 hsz0
  refine (walk a0 _ _ _ ops1 pv1 av1 W hO1 hN1 hF1).mono fun e W' ⟨he, bel⟩ => ?_
  subst he
  exact ⟨_, rfl, _, _, _, [], _, [], hW', trodAll_mk1 (shut_bool Try.underlying4 _), carryAll laidOut bel _ _ _ _ kinds4 hA1 (fun x hx => hW'.lt x (List.mem_append.2 (.inl hx))), rfl, bel.frame _, fun h => by cases h⟩
theorem proved : Rows.ModelHoldsSaid :=
  OpenClaim.holds_of_wide 4 Try.f4 rfl rfl rfl rfl rfl rfl rfl ⟨rfl, rfl, rfl, rfl, rfl⟩ rfl rfl rfl rfl rfl (by kernel_rfl) Try.func4 (by kernel_rfl)
    (of_decide_eq_true (by kernel_rfl)) (by unfold Func.isWrapper; first | (rw [if_pos (by decide +kernel)]; kernel_rfl) | (rw [if_neg (by decide +kernel)]; exact ⟨rfl, rfl⟩))
    (fun os started H enc _ => lifted os started H enc)
#print axioms proved
end Go.Proofs.Ytgkkmdebpekckaa.Holds
