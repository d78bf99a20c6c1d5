/- ModelPrefixes: where what comes in is of bulk at most 1048576, the law returns true: just those blocks could be found that were read since Sure. Conditions: the form's bound. -/
import Derived.Test.YtgkkmdebpekckaaMv
import Derived.Deep.CondSized
namespace Go.Proofs.Ytgkkmdebpekckaa.Prefixes
open Go.ChangeShapes Go.WideShapes Go.ChangeAt Go.RowKit
open Go.Proofs.Ytgkkmdebpekckaa
/-- The script under way: i of the batches are in it. -/
structure Scr (W w : World) (sv : Value) (i : Nat) (pv : Nat → Value) : Prop where
  own : w.ownsRow W.heap.size 27 5 sv i (wrL i pv)
  bel : Below W.heap.size W w
theorem anyB_succ (p : Nat) (f : Nat → Bool) : anyB (p + 1) f = (anyB p f || f p) := by simp [anyB, List.range_succ]
set_option maxRecDepth 100000 in
theorem run_append_none (w : World) : (Builtin.append_ #[35, 35] 35 #[.slice none 0 0, .slice none 0 0]).run Try.prog w = .ok (.slice none 0 0) w := by
  obtain ⟨i0, hi, hz0, hz1, hz2⟩ := info_parts Try.info25
  simp [Builtin.append_, run_underlying Try.underlying35, sizeOf, typeInfo, hi, Builtin.lenOf, Builtin.firstCells]
set_option maxRecDepth 100000 in
set_option maxHeartbeats 4000000 in
theorem walk (nb : Int) (a : Option Addr) (N cap : Nat) (bs : Nat → Ar) (pv : Nat → Value) (su : Int) (W : World) (hB : BassX (fun k => W.heap.size ≤ k) W a N bs pv) (hN : N ≤ 5864062014634) (hf : ∀ i, i < N → (bs i).fit) :
    Calls Try.prog 3 #[.int .i64 nb, .slice a N cap, .int .i64 su] W fun e w' => e = .returned (.bool true) ∧ Below W.heap.size W w' := by
  have HB := Lib.hid hB
  have HF := Lib.hid hf
  have HPv := Lib.hid (fun i (hi : i < N) => (hB.puts i hi).form)
  obtain ⟨i1, hi1, hy0, hy1, hy2⟩ := info_parts Try.info27
  clear hB hf
  go_enter Try.func3, Try.ntmps3
  go_wp2_with fail
  go_loopw [7, 8, 9] (fun s7 s8 s9 wr => ∃ k t : Nat, k ≤ N ∧ k ≤ 2001 ∧ s9 = .int .i64 k ∧ s7 = .int .i64 t ∧ t ≤ k * 4398046510976 ∧ Hid (Scr W wr s8 k pv)) (fun _ _ s9 _ => N - (intOf s9).toNat)
  case atStart => exact ⟨0, 0, Nat.zero_le _, Nat.zero_le _, rfl, rfl, Nat.zero_le _, ⟨World.ownsRow_nil _ _ _ _, Below.refl _ _⟩⟩
  case round =>
    obtain ⟨k, t, hk, hk2, rfl, rfl, ht, HS⟩ := hrel
    obtain ⟨sa, sc, e8, hsf⟩ := own_formN HS.out.own
    subst e8
    by_cases hlt : k < N ∧ k ≤ 2000
    · obtain ⟨hlt, hk3⟩ := hlt
      rcases HB.out.l with h0 | ⟨ob, oo, rfl, -, hc⟩
      · omega
      have hck : wr.cell? ⟨ob, oo + k, none⟩ = some (pv k) := by
        rw [HS.out.bel.cell (p := ⟨ob, oo + k, none⟩) (World.block_lt_of_cell? W _ (hc k hlt))]; exact hc k hlt
      obtain ⟨pa, pc, hpk⟩ := HPv.out k hlt
      rw [hpk] at hck
      have hpN := (HF.out k hlt).1
      obtain ⟨M, hM⟩ : ∃ M, (bs k).N = M := ⟨_, rfl⟩
      rw [hM] at hck hpk hpN
      have HPK := Lib.hid hpk
      have i1' : (0 : Int) ≤ (k : Int) := by omega
      have i2 : (k : Int) < (N : Int) := by omega
      have i3 : (k : Int) ≤ 2000 := by omega
      have j1 : (0 : Int) ≤ (t : Int) := by omega
      have j2 : (t : Int) ≤ 8800490488462976 := by omega
      have j3 : (M : Int) ≤ 4398046510976 := by omega
      have HT := Lib.hid ht
      have HcN := Lib.hid hpN
      clear hc hM hpk hsf ht hpN
      go_wp2_with (first | (at_builtin; refine wpList_append_two _ rfl _ _ 23 rfl W.heap.size 27 i1 (.agg #[.int .i64 0, .int .i64 0, .int .i64 0, .slice none 0 0, .slice none 0 0]) 5 72 Try.underlying23 hi1 hy0 hy1 hy2 rfl (by decide) (.slice sa k sc) k (wrL k pv) rfl (HS.out.own.alloc _) ⟨wr.heap.size, 0, none⟩ 1 1 [.int .i64 2, .int .i64 0, .int .i64 0, .slice pa M pc, .slice none 0 0] rfl rfl (World.news_of_block (cs := #[.int .i64 2, .int .i64 0, .int .i64 0, .slice pa M pc, .slice none 0 0]) (t := 27) (fr := (0, 0)) (heap_alloc_new wr _)) (by intro u hu; simp only [List.mem_cons, List.not_mem_nil, or_false] at hu; rcases hu with rfl | rfl | rfl | rfl | rfl <;> rfl) (by omega) (by unfold maxLen; omega) (by omega) (by have := HS.out.bel.size; rw [World.size_alloc]; omega) ?_))
      intro v' w' hown htwo
      have hbel : Below W.heap.size W w' := htwo.below (B := W.heap.size) ((HS.out.bel.alloc HS.out.bel.size _)) (by have := HS.out.bel.size; rw [World.size_alloc]; omega) (fun q hq => (HS.out.own.lt q hq).1)
      have hsc : Scr W w' v' (k + 1) pv := ⟨by rw [← wrL_snoc, HPK.out]; exact hown, hbel⟩
      have hck' : w'.cell? ⟨ob, oo + k, none⟩ = some (.slice pa M pc) := by
        rcases HB.out.l with h0 | ⟨ob2, oo2, e, -, hc⟩
        · omega
        · cases e
          rw [hbel.cell (p := ⟨ob, oo + k, none⟩) (World.block_lt_of_cell? W _ (hc k hlt)), hc k hlt, HPK.out]
      obtain ⟨va, vc, rfl, -⟩ := own_formN hown
      have HSc := Lib.hid hsc
      clear hown htwo hbel hsc hck
      go_wp2_with fail
      go_roundw
      case rel => exact ⟨k + 1, t + M, by omega, by omega, by go_num, by go_num, (by have := HT.out; have := HcN.out; omega), HSc.out⟩
      case measure => simp [intOf]; omega
    · have hend : k = N ∨ k = 2001 := by omega
      have HEnd := Lib.hid hend
      have j1 : (0 : Int) ≤ (t : Int) := by omega
      have hpost : ∀ x, Below W.heap.size W x → ((Ending.returned (.bool true) = Ending.returned (.bool true)) ∧ Below W.heap.size W x) := fun x h => ⟨rfl, h⟩
      clear hpost
      by_cases h300 : 300 < N
      · have hcond : (k : Int) = N ∨ 2000 < (k : Int) := by omega
        have h300' : (300 : Int) < (N : Int) := by omega
        clear hsf hend ht hlt
        rcases hcond with hc1 | hc2
        · obtain rfl : k = N := by omega
          clear hc1
          go_wp2_with fail
          go_ret
          exact ⟨rfl, HS.out.bel⟩
        · go_wp2_with fail
          all_goals (go_ret; exact ⟨rfl, HS.out.bel⟩)
      · obtain rfl : k = N := by omega
        have h300' : (k : Int) ≤ 300 := by omega
        clear hsf hend ht hlt h300
        by_cases h5 : (5000 : Int) < (t : Int)
        · go_wp2_with fail
          go_ret
          exact ⟨rfl, HS.out.bel⟩
        · obtain ⟨_, _, e9, hops⟩ := wr_ops (bs := bs) HS.out.own (fun i hi => ((HB.out.out (Out.of_below (S := fun _ => False) HS.out.bel) (fun _ _ h => h.elim)).puts i hi).mono (fun _ _ h => h.elim))
          cases e9
          have HMu := Lib.hid (much_any nb _ sa k sc (wrO bs) pv _ wr hops (by omega) (fun i hi => ⟨HF.out i hi, fun _ h => absurd h (Nat.not_lt_zero _), Nat.zero_le _⟩))
          clear hops
          go_wp2_with fail
          refine HMu.out.mono ?_
          clear HMu
          rintro e w1 ⟨bl, rfl, -, hb⟩
          have HW1 := Lib.hid (HS.out.bel.trans (hb.mono HS.out.bel.size))
          clear hb
          cases bl with
          | true =>
            go_wp2_with fail
            go_ret
            exact ⟨rfl, HW1.out⟩
          | false =>
            by_cases hnb : nb < 1 ∨ 61440 < nb
            · go_wp2_with fail
              refine (new_bad nb _ hnb).mono ?_
              rintro e w2 ⟨rfl, rfl⟩
              clear hnb
              go_wp2_with fail
              refine (known_true _).mono ?_
              rintro e w2 ⟨rfl, hb⟩
              have HW2 := Lib.hid (via HW1.out hb)
              clear hb
              go_wp2
              go_ret
              exact ⟨rfl, HW2.out⟩
            · obtain ⟨n, rfl⟩ : ∃ n : Nat, nb = (n : Int) := ⟨nb.toNat, by omega⟩
              have hn1 : 1 ≤ n := by omega
              have hn : n ≤ 61440 := by omega
              clear hnb HS
              go_wp2_with fail
              refine (new_ok n _ hn1 hn).mono ?_
              rintro e w2 ⟨m, Z0, rfl, hM, hZ, hb⟩
              have hE2 : Env Z0 W w2 m n (St.start fun _ => 0) := ⟨hM, fun k hk => Nat.le_trans HW1.out.size (hZ k hk), via HW1.out hb⟩
              have HP2 : Hid (PI Z0 W w2 m n (St.start fun _ => 0) (.slice none 0 0) 0 (fun _ => .slice none 0 0) (fun _ _ => 0) (.slice none 0 0) 0 (fun _ => .slice none 0 0) (fun _ _ => 0) 0) :=
                ⟨hE2, St.start_ok (fun _ _ => by show 0 < 256; omega), rfl, Lst.nil _ _ _ _ _ _, Lst.nil _ _ _ _ _ _, fun _ h => absurd h (Nat.not_lt_zero _), fun _ h => absurd h (Nat.not_lt_zero _), fun _ h => absurd h (Nat.not_lt_zero _)⟩
              clear hM hZ hb hE2 HW1
              go_wp2_with fail
              refine (known_true _).mono ?_
              rintro e w3 ⟨rfl, hb⟩
              have HP3 := Lib.hid (HP2.out.keep hb)
              clear hb HP2
              obtain ⟨i2, hi2, hv0, hv1, hv2⟩ := info_parts Try.info25
              go_wp2_with fail
              go_loopw [12, 13, 14] (fun s12 s13 s14 wr => ∃ (i : Nat) (Z : Nat → Prop) (s : St) (Na : Nat) (rva : Nat → Value) (Fa : Nat → Nat → Nat) (Ns : Nat) (rvs : Nat → Value) (Fs : Nat → Nat → Nat), i ≤ k + 1 ∧ s14 = .int .i64 i ∧ Na ≤ i ∧ Ns ≤ i ∧ Hid (s.many + s.L ≤ i ∧ ((i : Int) ≤ su → s12 = .slice none 0 0 ∧ Na = 0 ∧ Ns = i) ∧ (i = 0 → s13 = .slice none 0 0) ∧ PI Z W wr m n s s12 Na rva Fa s13 Ns rvs Fs (if i ≤ k then s.L else s.L + 1))) (fun _ _ s14 _ => k + 1 - (intOf s14).toNat)
              case atStart => exact ⟨0, Z0, _, 0, _, _, 0, _, _, Nat.zero_le _, rfl, Nat.le_refl _, Nat.le_refl _, Nat.le_refl _, fun _ => ⟨rfl, rfl, rfl⟩, fun _ => rfl, HP3.out⟩
              case round =>
                clear HP3
                obtain ⟨i, Z, s, Na, rva, Fa, Ns, rvs, Fs, hi, rfl, hNa, hNs, HR⟩ := hrel
                obtain ⟨aa, ac, ea, hac, haf⟩ := HR.out.2.2.2.la.form
                obtain ⟨sa', sc', es, hsc', hsf'⟩ := HR.out.2.2.2.ls.form
                subst ea
                subst es
                have hmL := HR.out.1
                by_cases hik : i ≤ k
                · have HP : Hid (PI Z W wr m n s (.slice aa Na ac) Na rva Fa (.slice sa' Ns sc') Ns rvs Fs s.L) := by have := HR.out.2.2.2; rwa [if_pos hik] at this
                  have i1' : (i : Int) ≤ (k : Int) := by omega
                  have i0' : (0 : Int) ≤ (i : Int) := by omega
                  have HFa := Lib.hid haf
                  have HFs := Lib.hid hsf'
                  clear haf hsf'
                  by_cases hsu2 : (i : Int) = su
                  · obtain ⟨g1, g2, g3⟩ := HR.out.2.1 (by omega)
                    cases g1
                    have HG3 := Lib.hid g3
                    have HI0 := Lib.hid (HR.out.2.2.1)
                    have hsu3 : ((i : Int) == su) = true := by simp; exact hsu2
                    have hsu4 : ¬ (i : Int) + 1 ≤ su := by omega
                    clear HR hsu2 g3 g2
                    by_cases hi0 : i = 0
                    · have e0 := HI0.out hi0
                      cases e0
                      have hi00 : (i : Int) ≤ 0 := by omega
                      clear hi0
                      have HNx : Hid ((i : Int) + 1 ≤ su → (Value.slice none 0 0) = .slice none 0 0 ∧ 0 = 0 ∧ 0 = i) := fun h => absurd h (by omega)
                      go_wp2_with fail
                      refine (sure_any Z m n s wr HP.out.env.mdl (by omega)).mono ?_
                      rintro e w4 ⟨rfl, hM, hO⟩
                      have hmk : s.mkSure.many + s.mkSure.L ≤ i := by show s.many + s.L + 0 ≤ i; omega
                      have HPa : Hid (PI Z W w4 m n s.mkSure (.slice none 0 0) 0 rvs Fs (.slice none 0 0) 0 rvs Fs s.mkSure.L) := HP.out.moved hM hO (World.ownsRow_nil _ _ _ _) (Below.refl _ _) (fun q hq => by cases hq)
                      obtain ⟨sN, hsN⟩ : ∃ sN, s.mkSure = sN := ⟨_, rfl⟩
                      rw [hsN] at HPa hmk
                      clear hM hO HP hmL hsN
                      go_wp2_with (first | (at_builtin; refine Lib.wpList_append_run _ rfl _ _ 35 35 rfl (.slice none 0 0) (.slice none 0 0) rfl rfl _ _ (run_append_none _) ?_))
                      go_wp2_with fail
                      refine (read_all Z m n sN _ HPa.out.env.mdl hn).mono ?_
                      rintro e t1 ⟨xa, xc, rfl, ho, hxc, hb⟩
                      have HX : Hid (BtsX (fun k => (Z k ∨ (Value.slice none 0 0).ownBlock = some k) ∨ (Value.slice none 0 0).ownBlock = some k) t1 (.slice xa (128 * n) xc) (128 * n) sN.now) := HPa.out.fresh ho
                      have HP1 := Lib.hid (HPa.out.keep hb)
                      clear ho hb HPa
                      go_wp2_with (first | (at_builtin; refine wpList_append_two _ rfl _ _ 35 rfl W.heap.size 25 i2 (.slice none 0 0) 1 24 Try.underlying35 hi2 hv0 hv1 hv2 rfl (by decide) (.slice none 0 0) 0 ((List.range 0).map rvs) rfl (HP1.out.ls.own.alloc _) ⟨t1.heap.size, 0, none⟩ 1 1 [.slice xa (128 * n) xc] rfl rfl (World.news_of_block (cs := #[.slice xa (128 * n) xc]) (t := 25) (fr := (0, 0)) (heap_alloc_new t1 _)) (by intro u hu; rw [List.mem_singleton.1 hu]; rfl) (by omega) (by unfold maxLen; omega) (by omega) (by have := HP1.out.env.bel.size; rw [World.size_alloc]; omega) ?_))
                      intro lv5 t2 hown htwo
                      have hp2 := HP1.out.push HX.out hown htwo
                      obtain ⟨la5, lc5, rfl, hlc5, -⟩ := hp2.ls.form
                      have HP2 := Lib.hid hp2
                      clear hown htwo hp2 HP1 HX
                      by_cases hwr : i < k
                      · rcases HB.out.l with h0 | ⟨ob, oo, rfl, -, hc⟩
                        · omega
                        have hck : t2.cell? ⟨ob, oo + i, none⟩ = some (pv i) := by
                          rw [HP2.out.env.bel.cell (p := ⟨ob, oo + i, none⟩) (World.block_lt_of_cell? W _ (hc i hwr))]; exact hc i hwr
                        obtain ⟨pa, pc, hpk⟩ := HPv.out i hwr
                        rw [hpk] at hck
                        have hAr : ArX Z t2 (.slice pa (bs i).N pc) (bs i) := by
                          have := HB.out.puts i hwr
                          rw [hpk] at this
                          exact (this.out (Out.of_below (S := fun _ => False) HP2.out.env.bel) (fun _ _ h => h.elim)).mono fun q _ h => HP2.out.env.zb q h
                        have HAr := Lib.hid hAr
                        have i3' : (i : Int) < (k : Int) := by omega
                        have HLt := Lib.hid (HF.out i hwr).2.2
                        clear hc hpk hAr
                        go_wp2_with fail
                        refine (write_any Z m n sN (bs i) _ t2 HP2.out.env.mdl hn (by omega) HAr.out).mono ?_
                        rintro e t3 ⟨rfl, Z5, hM, hO, hZ⟩
                        have HP3 := Lib.hid (HP2.out.wr HLt.out hM hO hZ)
                        clear hM hO hZ HP2 HAr hck
                        go_wp2_with fail
                        go_roundw
                        case rel =>
                          have hsm := (wr_small n sN (bs i)).1
                          exact ⟨i + 1, Z5, sN.wr n (bs i), 0, rvs, Fs, 0 + 1, _, _, by omega, by go_num, by omega, by omega, by omega, (fun h => by obtain ⟨e1, e2, e3⟩ := HNx.out (by omega); exact ⟨(by first | exact e1 | rfl), (by first | exact e2 | rfl), by omega⟩), (fun h => by omega), by rw [if_pos (by omega)]; exact HP3.out⟩
                        case measure => simp [intOf]; omega
                      · obtain rfl : i = k := by omega
                        go_wp2_with fail
                        go_roundw
                        case rel =>
                          exact ⟨i + 1, Z, sN, 0, rvs, Fs, 0 + 1, _, _, by omega, by go_num, by omega, by omega, by omega, (fun h => by obtain ⟨e1, e2, e3⟩ := HNx.out (by omega); exact ⟨(by first | exact e1 | rfl), (by first | exact e2 | rfl), by omega⟩), (fun h => by omega), by rw [if_neg (by omega)]; exact HP2.out⟩
                        case measure => first | (simp [intOf]; done) | (simp [intOf]; omega)
                    · have hi1' : 0 < i := by omega
                      have hNi : 0 < Ns := by have := HG3.out; omega
                      clear hi0
                      rcases HFs.out with h0 | ⟨sg, rfl⟩
                      · omega
                      go_wp2_with fail
                      refine (sure_any Z m n s wr HP.out.env.mdl (by omega)).mono ?_
                      rintro e w4 ⟨rfl, hM, hO⟩
                      have hmk : s.mkSure.many + s.mkSure.L ≤ i := by show s.many + s.L + 0 ≤ i; omega
                      have hLs4 := (HP.out.ls.out hO (fun _ _ h => .inl h)).own
                      have HC4 : Hid (∀ j u, ((List.range Ns).map rvs)[j]? = some u → w4.cell? ((⟨sg, 0, none⟩ : Addr).add j) = some u) := hLs4.cells (g := sg) rfl
                      have H1c : Hid (∀ u ∈ (List.range Ns).map rvs, u.oneCell' = true) := fun u hu => by
                        simp only [List.mem_map, List.mem_range] at hu
                        obtain ⟨q, hq, rfl⟩ := hu
                        obtain ⟨x, c, e⟩ := HP.out.ls.rform hq
                        rw [e]; rfl
                      have HMO := Lib.hid (And.intro hM hO)
                      clear hM hO hLs4
                      go_wp2_with (first | (at_builtin; refine wpList_append_two _ rfl _ _ 35 rfl W.heap.size 25 i2 (.slice none 0 0) 1 24 Try.underlying35 hi2 hv0 hv1 hv2 rfl (by decide) (.slice none 0 0) 0 [] rfl (World.ownsRow_nil _ _ _ _) ⟨sg, 0, none⟩ Ns sc' ((List.range Ns).map rvs) rfl (by simp) HC4.out H1c.out (by omega) (by unfold maxLen; omega) (by omega) (Nat.le_trans HP.out.env.bel.size HMO.out.2.size) ?_))
                      intro la5' w5 hown htwo
                      have hown' : w5.ownsRow W.heap.size 25 1 la5' Ns ((List.range Ns).map rvs) := by simpa using hown
                      obtain ⟨hb5, hbl5⟩ := two_nil htwo (Nat.le_refl _)
                      obtain ⟨hM, hO⟩ := HMO.out
                      have HPa := Lib.hid (HP.out.moved hM hO hown' hb5 hbl5)
                      obtain ⟨la6, lc6, rfl, -, -⟩ := own_form hown'
                      obtain ⟨sN, hsN⟩ : ∃ sN, s.mkSure = sN := ⟨_, rfl⟩
                      rw [hsN] at HPa hmk
                      have HNx : Hid ((i : Int) + 1 ≤ su → (Value.slice la6 Ns lc6) = .slice none 0 0 ∧ Ns = 0 ∧ 0 = i) := fun h => absurd h (by omega)
                      clear hM hO HP hmL hsN hown hown' htwo hb5 hbl5 HMO HC4 H1c HG3 HI0 HFs HFa
                      go_wp2_with fail
                      refine (read_all Z m n sN _ HPa.out.env.mdl hn).mono ?_
                      rintro e t1 ⟨xa, xc, rfl, ho, hxc, hb⟩
                      have HX : Hid (BtsX (fun k => (Z k ∨ (Value.slice la6 Ns lc6).ownBlock = some k) ∨ (Value.slice none 0 0).ownBlock = some k) t1 (.slice xa (128 * n) xc) (128 * n) sN.now) := HPa.out.fresh ho
                      have HP1 := Lib.hid (HPa.out.keep hb)
                      clear ho hb HPa
                      go_wp2_with (first | (at_builtin; refine wpList_append_two _ rfl _ _ 35 rfl W.heap.size 25 i2 (.slice none 0 0) 1 24 Try.underlying35 hi2 hv0 hv1 hv2 rfl (by decide) (.slice none 0 0) 0 ((List.range 0).map rvs) rfl (HP1.out.ls.own.alloc _) ⟨t1.heap.size, 0, none⟩ 1 1 [.slice xa (128 * n) xc] rfl rfl (World.news_of_block (cs := #[.slice xa (128 * n) xc]) (t := 25) (fr := (0, 0)) (heap_alloc_new t1 _)) (by intro u hu; rw [List.mem_singleton.1 hu]; rfl) (by omega) (by unfold maxLen; omega) (by omega) (by have := HP1.out.env.bel.size; rw [World.size_alloc]; omega) ?_))
                      intro lv5 t2 hown htwo
                      have hp2 := HP1.out.push HX.out hown htwo
                      obtain ⟨la5, lc5, rfl, hlc5, -⟩ := hp2.ls.form
                      have HP2 := Lib.hid hp2
                      clear hown htwo hp2 HP1 HX
                      by_cases hwr : i < k
                      · rcases HB.out.l with h0 | ⟨ob, oo, rfl, -, hc⟩
                        · omega
                        have hck : t2.cell? ⟨ob, oo + i, none⟩ = some (pv i) := by
                          rw [HP2.out.env.bel.cell (p := ⟨ob, oo + i, none⟩) (World.block_lt_of_cell? W _ (hc i hwr))]; exact hc i hwr
                        obtain ⟨pa, pc, hpk⟩ := HPv.out i hwr
                        rw [hpk] at hck
                        have hAr : ArX Z t2 (.slice pa (bs i).N pc) (bs i) := by
                          have := HB.out.puts i hwr
                          rw [hpk] at this
                          exact (this.out (Out.of_below (S := fun _ => False) HP2.out.env.bel) (fun _ _ h => h.elim)).mono fun q _ h => HP2.out.env.zb q h
                        have HAr := Lib.hid hAr
                        have i3' : (i : Int) < (k : Int) := by omega
                        have HLt := Lib.hid (HF.out i hwr).2.2
                        clear hc hpk hAr
                        go_wp2_with fail
                        refine (write_any Z m n sN (bs i) _ t2 HP2.out.env.mdl hn (by omega) HAr.out).mono ?_
                        rintro e t3 ⟨rfl, Z5, hM, hO, hZ⟩
                        have HP3 := Lib.hid (HP2.out.wr HLt.out hM hO hZ)
                        clear hM hO hZ HP2 HAr hck
                        go_wp2_with fail
                        go_roundw
                        case rel =>
                          have hsm := (wr_small n sN (bs i)).1
                          exact ⟨i + 1, Z5, sN.wr n (bs i), Ns, rvs, Fs, 0 + 1, _, _, by omega, by go_num, by omega, by omega, by omega, (fun h => by obtain ⟨e1, e2, e3⟩ := HNx.out (by omega); exact ⟨(by first | exact e1 | rfl), (by first | exact e2 | rfl), by omega⟩), (fun h => by omega), by rw [if_pos (by omega)]; exact HP3.out⟩
                        case measure => simp [intOf]; omega
                      · obtain rfl : i = k := by omega
                        go_wp2_with fail
                        go_roundw
                        case rel =>
                          exact ⟨i + 1, Z, sN, Ns, rvs, Fs, 0 + 1, _, _, by omega, by go_num, by omega, by omega, by omega, (fun h => by obtain ⟨e1, e2, e3⟩ := HNx.out (by omega); exact ⟨(by first | exact e1 | rfl), (by first | exact e2 | rfl), by omega⟩), (fun h => by omega), by rw [if_neg (by omega)]; exact HP2.out⟩
                        case measure => first | (simp [intOf]; done) | (simp [intOf]; omega)
                  · have HNx : Hid ((i : Int) + 1 ≤ su → (Value.slice aa Na ac) = .slice none 0 0 ∧ Na = 0 ∧ Ns = i) := fun h => HR.out.2.1 (by omega)
                    have hsu3 : ((i : Int) == su) = false := by simp; exact hsu2
                    clear HR hsu2
                    go_wp2_with fail
                    refine (read_all Z m n s _ HP.out.env.mdl hn).mono ?_
                    rintro e t1 ⟨xa, xc, rfl, ho, hxc, hb⟩
                    have HX : Hid (BtsX (fun k => (Z k ∨ (Value.slice aa Na ac).ownBlock = some k) ∨ (Value.slice sa' Ns sc').ownBlock = some k) t1 (.slice xa (128 * n) xc) (128 * n) s.now) := HP.out.fresh ho
                    have HP1 := Lib.hid (HP.out.keep hb)
                    clear ho hb HP
                    go_wp2_with (first | (at_builtin; refine wpList_append_two _ rfl _ _ 35 rfl W.heap.size 25 i2 (.slice none 0 0) 1 24 Try.underlying35 hi2 hv0 hv1 hv2 rfl (by decide) (.slice sa' Ns sc') Ns ((List.range Ns).map rvs) rfl (HP1.out.ls.own.alloc _) ⟨t1.heap.size, 0, none⟩ 1 1 [.slice xa (128 * n) xc] rfl rfl (World.news_of_block (cs := #[.slice xa (128 * n) xc]) (t := 25) (fr := (0, 0)) (heap_alloc_new t1 _)) (by intro u hu; rw [List.mem_singleton.1 hu]; rfl) (by omega) (by unfold maxLen; omega) (by omega) (by have := HP1.out.env.bel.size; rw [World.size_alloc]; omega) ?_))
                    intro lv5 t2 hown htwo
                    have hp2 := HP1.out.push HX.out hown htwo
                    obtain ⟨la5, lc5, rfl, hlc5, -⟩ := hp2.ls.form
                    have HP2 := Lib.hid hp2
                    clear hown htwo hp2 HP1 HX
                    by_cases hwr : i < k
                    · rcases HB.out.l with h0 | ⟨ob, oo, rfl, -, hc⟩
                      · omega
                      have hck : t2.cell? ⟨ob, oo + i, none⟩ = some (pv i) := by
                        rw [HP2.out.env.bel.cell (p := ⟨ob, oo + i, none⟩) (World.block_lt_of_cell? W _ (hc i hwr))]; exact hc i hwr
                      obtain ⟨pa, pc, hpk⟩ := HPv.out i hwr
                      rw [hpk] at hck
                      have hAr : ArX Z t2 (.slice pa (bs i).N pc) (bs i) := by
                        have := HB.out.puts i hwr
                        rw [hpk] at this
                        exact (this.out (Out.of_below (S := fun _ => False) HP2.out.env.bel) (fun _ _ h => h.elim)).mono fun q _ h => HP2.out.env.zb q h
                      have HAr := Lib.hid hAr
                      have i3' : (i : Int) < (k : Int) := by omega
                      have HLt := Lib.hid (HF.out i hwr).2.2
                      clear hc hpk hAr
                      go_wp2_with fail
                      refine (write_any Z m n s (bs i) _ t2 HP2.out.env.mdl hn (by omega) HAr.out).mono ?_
                      rintro e t3 ⟨rfl, Z5, hM, hO, hZ⟩
                      have HP3 := Lib.hid (HP2.out.wr HLt.out hM hO hZ)
                      clear hM hO hZ HP2 HAr hck
                      go_wp2_with fail
                      go_roundw
                      case rel =>
                        have hsm := (wr_small n s (bs i)).1
                        exact ⟨i + 1, Z5, s.wr n (bs i), Na, rva, Fa, Ns + 1, _, _, by omega, by go_num, by omega, by omega, by omega, (fun h => by obtain ⟨e1, e2, e3⟩ := HNx.out (by omega); exact ⟨(by first | exact e1 | rfl), (by first | exact e2 | rfl), by omega⟩), (fun h => by omega), by rw [if_pos (by omega)]; exact HP3.out⟩
                      case measure => simp [intOf]; omega
                    · obtain rfl : i = k := by omega
                      go_wp2_with fail
                      go_roundw
                      case rel =>
                        exact ⟨i + 1, Z, s, Na, rva, Fa, Ns + 1, _, _, by omega, by go_num, by omega, by omega, by omega, (fun h => by obtain ⟨e1, e2, e3⟩ := HNx.out (by omega); exact ⟨(by first | exact e1 | rfl), (by first | exact e2 | rfl), by omega⟩), (fun h => by omega), by rw [if_neg (by omega)]; exact HP2.out⟩
                      case measure => first | (simp [intOf]; done) | (simp [intOf]; omega)
                · obtain rfl : i = k + 1 := by omega
                  have HP : Hid (PI Z W wr m n s (.slice aa Na ac) Na rva Fa (.slice sa' Ns sc') Ns rvs Fs (s.L + 1)) := by have := HR.out.2.2.2; rwa [if_neg hik] at this
                  have hmL2 : s.many + s.L ≤ 301 := by omega
                  have hNa2 : (Na : Int) ≤ 301 := by omega
                  have hNs2 : (Ns : Int) ≤ 301 := by omega
                  have hLs : s.L ≤ 1000000 := by omega
                  have HFa := Lib.hid haf
                  have HFs := Lib.hid hsf'
                  have HIm := Lib.hid (show (((k + 1 : Nat) : Int) ≤ (k : Int)) → False from fun h => by omega)
                  obtain ⟨i, hki⟩ : ∃ i, k + 1 = i := ⟨_, rfl⟩
                  rw [hki]
                  have hki' : (k : Int) < (i : Int) := by omega
                  have hdk : decide (i ≤ k) = false := by simp; omega
                  clear HR hmL hik hi hNa hNs haf hsf' hki HIm
                  go_wp2_with fail
                  go_loopw [17] (fun s17 wr => ∃ j : Nat, j ≤ Ns ∧ s17 = .int .i64 j ∧ Hid (PI Z W wr m n s (.slice aa Na ac) Na rva Fa (.slice sa' Ns sc') Ns rvs Fs (s.L + 1))) (fun s17 _ => Ns - (intOf s17).toNat)
                  case atStart => exact ⟨0, Nat.zero_le _, rfl, HP.out⟩
                  case round =>
                    clear HP
                    obtain ⟨j, hj, rfl, HP⟩ := hrel
                    by_cases hjl : j < Ns
                    · rcases HFs.out with h0 | ⟨sg, rfl⟩
                      · omega
                      obtain ⟨ja, jc, hjv⟩ := HP.out.ls.rform hjl
                      have hcell := HP.out.ls.cell hjl
                      rw [hjv] at hcell
                      have HJ : Hid (Bts wr (.slice ja (128 * n) jc) (128 * n) (Fs j)) := by have := (HP.out.ls.row j hjl).bts; rwa [hjv] at this
                      have k1 : (0 : Int) ≤ (j : Int) := by omega
                      have k2 : (j : Int) < (Ns : Int) := by omega
                      clear hjv
                      go_wp2_with fail
                      refine (could_at Z m n s ja (128 * n) jc (Fs j) wr HP.out.env.mdl HP.out.ok (by omega) hn hLs HJ.out (HP.out.pst j hjl).lt true (by simp [(HP.out.pst j hjl).could])).mono ?_
                      rintro e w5 ⟨rfl, hb⟩
                      have HP5 := Lib.hid (HP.out.keep hb)
                      clear hb HP HJ hcell
                      go_wp2_with fail
                      go_roundw
                      case rel => exact ⟨j + 1, by omega, by go_num, HP5.out⟩
                      case measure => simp [intOf]; omega
                    · obtain rfl : j = Ns := by omega
                      go_wp2_with fail
                      go_loopw [18] (fun s18 wr => ∃ q : Nat, q ≤ Na ∧ s18 = .int .i64 q ∧ Hid (PI Z W wr m n s (.slice aa Na ac) Na rva Fa (.slice sa' j sc') j rvs Fs (s.L + 1))) (fun s18 _ => Na - (intOf s18).toNat)
                      case atStart => exact ⟨0, Nat.zero_le _, rfl, HP.out⟩
                      case round =>
                        clear HP
                        obtain ⟨q, hq, rfl, HP⟩ := hrel
                        by_cases hql : q < Na
                        · rcases HFa.out with h0 | ⟨ag, rfl⟩
                          · omega
                          obtain ⟨qa, qc, hqv⟩ := HP.out.la.rform hql
                          have hqcell := HP.out.la.cell hql
                          rw [hqv] at hqcell
                          have HQ : Hid (Bts wr (.slice qa (128 * n) qc) (128 * n) (Fa q)) := by have := (HP.out.la.row q hql).bts; rwa [hqv] at this
                          have HCb : Hid (s.could n (128 * n) (Fa q) ↔ anyB j (fun i => eqB (128 * n) (128 * n) (Fa q) (Fs i)) = true) := could_cov HP.out.way HP.out.cov HP.out.pst (Fa q)
                          have HLq := Lib.hid (HP.out.alt q hql)
                          have k1 : (0 : Int) ≤ (q : Int) := by omega
                          have k2 : (q : Int) < (Na : Int) := by omega
                          have HQv := Lib.hid hqv
                          clear hqv hqcell
                          go_wp2_with fail
                          go_loopw [19, 20] (fun s19 s20 wq => ∃ p : Nat, p ≤ j ∧ s20 = .int .i64 p ∧ s19 = .bool (anyB p (fun i => eqB (128 * n) (128 * n) (Fa q) (Fs i))) ∧ Hid (PI Z W wq m n s (.slice (some ⟨ag, 0, none⟩) Na ac) Na rva Fa (.slice sa' j sc') j rvs Fs (s.L + 1) ∧ Bts wq (.slice qa (128 * n) qc) (128 * n) (Fa q) ∧ wq.cell? ⟨ag, q, none⟩ = some (.slice qa (128 * n) qc))) (fun _ s20 _ => j - (intOf s20).toNat)
                          case atStart => exact ⟨0, Nat.zero_le _, rfl, rfl, HP.out, HQ.out, HP.out.la.cell hql |>.trans (by rw [HQv.out])⟩
                          case round =>
                            obtain ⟨p, hp, rfl, rfl, HI⟩ := hrel
                            by_cases hpl : p < j
                            · rcases HFs.out with h0 | ⟨sg, rfl⟩
                              · omega
                              obtain ⟨ja, jc, hjv⟩ := HI.out.1.ls.rform hpl
                              have hcell := HI.out.1.ls.cell hpl
                              rw [hjv] at hcell
                              have hacell := HI.out.2.2
                              have HJ : Hid (Bts wr (.slice ja (128 * n) jc) (128 * n) (Fs p)) := by have := (HI.out.1.ls.row p hpl).bts; rwa [hjv] at this
                              have k3 : (0 : Int) ≤ (p : Int) := by omega
                              have k4 : (p : Int) < (j : Int) := by omega
                              obtain ⟨be, hbe⟩ : ∃ be, eqB (128 * n) (128 * n) (Fa q) (Fs p) = be := ⟨_, rfl⟩
                              obtain ⟨bI, hbI⟩ : ∃ bI, anyB p (fun i => eqB (128 * n) (128 * n) (Fa q) (Fs i)) = bI := ⟨_, rfl⟩
                              have HSame : Hid (∀ d, Calls Try.prog 14 #[.slice qa (128 * n) qc, .slice ja (128 * n) jc] (wr.drewN d) fun e w' => e = .returned (.bool be) ∧ ∃ m, w' = (wr.drewN d).drewN m) := fun d => by
                                rw [← hbe]
                                exact same_Q _ _ _ _ _ _ (wr.drewN d) (HI.out.2.1.keep (bdn (Below.refl _ _) _)) (HJ.out.keep (bdn (Below.refl _ _) _)) (by omega)
                              have HNext : Hid (anyB (p + 1) (fun i => eqB (128 * n) (128 * n) (Fa q) (Fs i)) = (bI || be)) := (anyB_succ _ _).trans (by rw [hbI, hbe])
                              rw [hbI]
                              clear hbe hbI hjv
                              cases bI
                              · go_wp2_with fail
                                go_quiet ((go_at_call 14; exact Calls.quiet_of (HSame.out _)))
                                go_wp2_with fail
                                go_roundw
                                case rel => exact ⟨p + 1, by omega, by go_num, by rw [HNext.out]; rfl, HI.out.1.keep (bdn (Below.refl _ _) _), HI.out.2.1.keep (bdn (Below.refl _ _) _), HI.out.2.2⟩
                                case measure => simp [intOf]; omega
                              · go_wp2_with fail
                                go_quiet (fail)
                                go_wp2_with fail
                                go_roundw
                                case rel => exact ⟨p + 1, by omega, by go_num, by rw [HNext.out]; rfl, HI.out.1.keep (bdn (Below.refl _ _) _), HI.out.2.1.keep (bdn (Below.refl _ _) _), HI.out.2.2⟩
                                case measure => simp [intOf]; omega
                            · obtain rfl : p = j := by omega
                              have hacell := HI.out.2.2
                              obtain ⟨bI, hbI⟩ : ∃ bI, anyB p (fun i => eqB (128 * n) (128 * n) (Fa q) (Fs i)) = bI := ⟨_, rfl⟩
                              rw [hbI] at HCb ⊢
                              clear hbI
                              have HCo := Lib.hid (could_at Z m n s qa (128 * n) qc (Fa q) wr HI.out.1.env.mdl HI.out.1.ok (by omega) hn hLs HI.out.2.1 HLq.out bI HCb.out.symm)
                              cases bI
                              · go_wp2_with fail
                                refine HCo.out.mono ?_
                                rintro e w6 ⟨rfl, hb⟩
                                have HP6 := Lib.hid (HI.out.1.keep hb)
                                clear hb HI HCo hacell
                                go_wp2_with fail
                                go_roundw
                                case rel => exact ⟨q + 1, by omega, by go_num, HP6.out⟩
                                case measure => simp [intOf]; omega
                              · go_wp2_with fail
                                refine HCo.out.mono ?_
                                rintro e w6 ⟨rfl, hb⟩
                                have HP6 := Lib.hid (HI.out.1.keep hb)
                                clear hb HI HCo hacell
                                go_wp2_with fail
                                go_roundw
                                case rel => exact ⟨q + 1, by omega, by go_num, HP6.out⟩
                                case measure => simp [intOf]; omega
                        · obtain rfl : q = Na := by omega
                          go_wp2_with fail
                          go_ret
                          exact ⟨rfl, HP.out.env.bel⟩
theorem kinds3 : ∀ t ∈ Try.f3.params.toList, Try.prog.readableRec t = true ∧ t < Try.prog.types.size := by
  rw [Try.params3]
  intro t ht
  simp only [List.mem_cons, List.not_mem_nil, or_false] at ht
  rcases ht with rfl | rfl | rfl
  all_goals exact ⟨by kernel_rfl, of_decide_eq_true (by kernel_rfl)⟩
set_option maxRecDepth 100000 in
theorem lifted (os : Os) (started : os.Started) (H : Type) (enc : TypeId × Value → H) (F : Stop.Interp) :
    ReturnsInHanded {} Try.checked os 3 .any ((Rows.OpenSpec.upto Rows.modelPrefixesSpec).pre6 enc Try.prog Try.f3 Rows.modelPrefixesUptoRow.domain false) (((Rows.OpenSpec.upto Rows.modelPrefixesSpec).at F).post enc Try.prog Try.f3 false true false false) := by
  refine returnsInHanded_of_cond_sized (C := Try.checked) (s := Rows.OpenSpec.upto Rows.modelPrefixesSpec) (k := Rows.uptoSmall) rfl own started (by kernel_rfl) Try.func3
    (OpenSpec.witness (enc := enc) (C := Try.checked) (s := Rows.OpenSpec.upto Rows.modelPrefixesSpec) (k := Rows.uptoSmall) rfl false ⟨#[], #[.int .i64 0, .slice none 0 0, .int .i64 0], []⟩ 8 (by kernel_rfl) (by kernel_rfl) (by kernel_rfl)
      (x := ([.lit (.int .i64 0), .nil, .lit (.int .i64 0)], [], [])) (by kernel_rfl) rfl (by kernel_rfl)) ?_
  intro W base args ds gs before hval0 hW hcnd hk hsz0 _
  have hval : ∀ (j : Nat) t v, Try.f3.params[j]? = some t → args[j]? = some v → Value.okWide Try.prog W .any base t v := hval0
  have hW' := hW
  obtain ⟨p, q, hA0, hV, rfl, hfz, hnd⟩ := hW
  have hA : DataW.TrodAll enc Try.prog W 0 (fun _ => true) true Try.f3.params.toList args.toList ds p := hA0
  have hA1 := hA
  have hsz : (DataW.weightsEach Try.prog (Try.f3.params.toList ++ []) (ds ++ gs)).all (· ≤ reachBytes) = true := hsz0
  rw [Try.params3] at hA hval hsz
  obtain ⟨v0, vs0, d0, ds0, p0, q0, hargs, rfl, rfl, h0, r0⟩ := trodAll_cons hA
  obtain ⟨v1, vs1, d1, ds1, p1, q1, rfl, rfl, rfl, h1, r1⟩ := trodAll_cons r0
  obtain ⟨v2, vs2, d2, ds2, p2, q2, rfl, rfl, rfl, h2, r2⟩ := trodAll_cons r1
  obtain ⟨rfl, rfl, rfl⟩ := trodAll_nil r2
  obtain rfl : args = #[v0, v1, v2] := by cases args; simp_all
  obtain ⟨rfl, rfl⟩ := trodVars_none hV
  obtain ⟨a0, rfl, rfl, rfl, w0⟩ := open_int Try.underlying3 (hval 0 3 v0 rfl rfl) h0
  obtain ⟨x1, y1, z1, rfl⟩ := okWide_slice Try.underlying22 (hval 1 22 v1 rfl rfl)
  obtain ⟨fu1, hf1⟩ := h1
  have ft1 : FitD 22 d1 := fit_of hsz (j := 1) rfl rfl
  obtain ⟨a1, N1, c1, bs1, pv1, e1, hB1, hN1, hF1⟩ := open_bass (v := .slice x1 y1 z1) hf1 ft1
  cases e1
  obtain ⟨a2, rfl, rfl, rfl, w2⟩ := open_int Try.underlying3 (hval 2 3 v2 rfl rfl) h2
  clear hval0 hsz0
  refine (walk a0 _ _ _ bs1 pv1 a2 W hB1 hN1 hF1).mono fun e W' ⟨he, bel⟩ => ?_
  subst he
  exact ⟨_, rfl, _, _, _, [], _, [], hW', trodAll_mk1 (shut_bool Try.underlying4 _), carryAll laidOut bel _ _ _ _ kinds3 hA1 (fun x hx => hW'.lt x (List.mem_append.2 (.inl hx))), rfl, bel.frame _, fun h => by cases h⟩
theorem proved : Rows.ModelPrefixesUptoSaid :=
  OpenClaim.holds_of_cond 3 Try.f3 rfl rfl rfl rfl rfl rfl rfl ⟨rfl, rfl, rfl, rfl, rfl⟩ rfl rfl rfl rfl rfl (by kernel_rfl) Try.func3 (by kernel_rfl)
    (of_decide_eq_true (by kernel_rfl)) (by unfold Func.isWrapper; first | (rw [if_pos (by decide +kernel)]; kernel_rfl) | (rw [if_neg (by decide +kernel)]; exact ⟨rfl, rfl⟩))
    (fun os started H enc _ F => lifted os started H enc F)
#print axioms proved
end Go.Proofs.Ytgkkmdebpekckaa.Prefixes
