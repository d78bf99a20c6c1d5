/- The reference's Could. Conditions: as stated at each. -/
import Derived.Test.YtgkkmdebpekckaaNn
namespace Go.Proofs.Ytgkkmdebpekckaa
open Go.RowKit Go.Shelf
theorem fate_add (x : Nat → Nat) (rb : Nat → Bt) (M j : Nat) : fate (fate x rb M) (fun k => rb (M + k)) j = fate x rb (M + j) := by
  induction j with
  | zero => rfl
  | succ j ih =>
    show layN (fate (fate x rb M) (fun k => rb (M + k)) j) (rb (M + j)).bl (rb (M + j)).f (rb (M + j)).N = layN (fate x rb (M + j)) (rb (M + j)).bl (rb (M + j)).f (rb (M + j)).N
    rw [ih]
/-- What the reference compares: behind so many of its batches, and behind the one under way. -/
def Rf.last (s : Rf) : Nat → Nat := layN (fate s.x0 s.rb s.NB) s.way.bl s.way.f s.way.N
def Rf.could (s : Rf) (n nA : Nat) (fa : Nat → Nat) : Prop :=
  (∃ i, s.many ≤ i ∧ i ≤ s.NB ∧ eqB (128 * n) nA (fate s.x0 s.rb i) fa = true) ∨ (s.way.N ≠ 0 ∧ eqB (128 * n) nA s.last fa = true)
theorem Rf.fate_all (s : Rf) (j : Nat) (hj : j ≤ s.NB - s.many) : fate s.st.sure s.st.all j = fate s.x0 s.rb (s.many + j) := by
  funext p
  rw [← fate_add]
  refine fate_congr j p rfl fun k hk => ?_
  show (if k < s.NB - s.many then s.rb (s.many + k) else s.way) = _
  rw [if_pos (by omega)]
theorem Rf.fate_last (s : Rf) (hm : s.many ≤ s.NB) : fate s.st.sure s.st.all (s.NB - s.many + 1) = s.last := by
  show layN (fate s.st.sure s.st.all (s.NB - s.many)) _ _ _ = _
  rw [s.fate_all _ (Nat.le_refl _)]
  have e : s.st.all (s.NB - s.many) = s.way := if_neg (Nat.lt_irrefl _)
  rw [e, show s.many + (s.NB - s.many) = s.NB by omega]
  rfl
theorem Rf.could_iff (s : Rf) (hm : s.many ≤ s.NB) (n nA : Nat) (fa : Nat → Nat) : s.st.could n nA fa ↔ s.could n nA fa := by
  have hM : s.st.M = (s.NB - s.many) + if s.way.N = 0 then 0 else 1 := rfl
  constructor
  · rintro ⟨j, hj, he⟩
    rw [hM] at hj
    by_cases h : j ≤ s.NB - s.many
    · rw [s.fate_all j h] at he
      exact .inl ⟨s.many + j, by omega, by omega, he⟩
    · by_cases h0 : s.way.N = 0
      · rw [if_pos h0] at hj; omega
      · rw [if_neg h0] at hj
        obtain rfl : j = s.NB - s.many + 1 := by omega
        rw [s.fate_last hm] at he
        exact .inr ⟨h0, he⟩
  · rintro (⟨i, h1, h2, he⟩ | ⟨h0, he⟩)
    · refine ⟨i - s.many, by rw [hM]; omega, ?_⟩
      rw [s.fate_all _ (by omega), show s.many + (i - s.many) = i by omega]
      exact he
    · refine ⟨s.NB - s.many + 1, by rw [hM, if_neg h0]; exact Nat.le_refl _, ?_⟩
      rw [s.fate_last hm]
      exact he
set_option maxRecDepth 100000 in
set_option maxHeartbeats 1000000 in
theorem rcould_any (Z : Nat → Prop) (r n : Nat) (s : Rf) (aa : Option Addr) (nA ca : Nat) (fa : Nat → Nat) (w : World) (h : RMdAt Z w r n s) (hs : s.ok n) (hn0 : 0 < n) (hn : n ≤ 61440) (hB : s.NB ≤ 1000000000)
    (ha : Bts w (.slice aa nA ca) nA fa) (hf : Lt nA fa) (b : Bool) (hb : b = true ↔ s.could n nA fa) :
    Calls Try.prog 37 #[.pointer (some ⟨r, 0, none⟩), .slice aa nA ca] w (CouldP b w) := by
  obtain ⟨gF, cF, lv, wv, bv, h⟩ := h
  have HAll := Lib.hid (all_any Z r n s s.many w ⟨_, _, _, _, _, h⟩ hs hn0 hn hs.many hB)
  have HLa := Lib.hid (fun (W : World) (vx v : Value) (x : Nat → Nat) (b : Bt) (hx : Bts W vx (128 * n) x) (hv : BatX (fun _ => False) W v b) (hb : b.ok n) => laid_any (fun _ => False) vx v n x b W hn0 hn hx hv hb.bl (Nat.le_trans hb.N (by omega)))
  have HM := Lib.hid (fun (W : World) (hb : Below w.heap.size w W) => h.keep hb)
  have HS := Lib.hid hs
  have HMany : s.many ≤ s.NB := hs.many
  have HFate := Lib.hid (fun i (hi : i ≤ s.NB) => fate_lt (n := n) hs.x0 (bt := s.rb) i (fun j hj => hs.bat j (by omega)))
  have HLast : Hid (Lt (128 * n) s.last) := layN_lt (HFate.out s.NB (Nat.le_refl _)) _ _ _ hs.way.f
  obtain ⟨k1, f1, z1⟩ := cr h.blk
  obtain ⟨L, hL⟩ : ∃ L, 128 * n = L := ⟨_, rfl⟩
  have HLn := Lib.hid hL
  by_cases hne : nA = L
  case neg =>
    have e0 : b = false := by
      cases b
      · rfl
      · rcases hb.1 rfl with ⟨i, _, _, he⟩ | ⟨_, he⟩ <;> (rw [eqB_len (by omega)] at he; cases he)
    subst e0
    have hne' : ¬ (nA : Int) = (L : Int) := by omega
    have hne2 : ((nA : Int) == (L : Int)) = false := by simpa using hne'
    obtain ⟨la, lc, rfl, -⟩ := own_form h.list
    rw [hL] at k1
    clear h hs hL HAll HLa HM HS HFate HLast hb ha hf
    go_enter Try.func37, Try.ntmps37
    go_wp2_with fail
    go_ret
    exact ⟨rfl, Below.refl _ _⟩
  subst hne
  have HBI := Lib.hid hb
  have HCa := Lib.hid (conv_bts ha)
  obtain ⟨wa, wc, hwv⟩ : ∃ x y, wv = .slice x s.way.N y := by
    obtain ⟨_, ⟨x, y, e, _⟩, _⟩ := h.way
    exact ⟨x, y, e⟩
  obtain ⟨la, lc, hlv, hlc, hlf⟩ := own_form h.list
  subst hwv
  subst hlv
  have HLf := Lib.hid hlf
  obtain ⟨sa, hsa⟩ : ∃ sa, strB nA fa = sa := ⟨_, rfl⟩
  have HSa := Lib.hid hsa
  rw [hsa] at HCa
  have hCmp : Hid (∀ (x : Nat → Nat), Lt nA x → ((strB nA x).toList == sa.toList) = eqB nA nA x fa) := fun x hx => by rw [← hsa]; exact strB_eq nA nA x fa hx hf
  obtain ⟨WN, hWN⟩ : ∃ N, s.way.N = N := ⟨_, rfl⟩
  have HWN := Lib.hid hWN
  obtain ⟨NB, hNB⟩ : ∃ N, s.NB = N := ⟨_, rfl⟩
  have HNB := Lib.hid hNB
  obtain ⟨M, hM0⟩ : ∃ N, s.many = N := ⟨_, rfl⟩
  have HM0 := Lib.hid hM0
  rw [hL, hWN, hNB, hM0] at k1
  rw [hM0] at HAll
  rw [hM0, hNB] at HMany
  rw [hNB] at HFate
  rw [hNB] at hlc HLf hB
  rw [hL] at HFate HLast
  clear h hs hL hb ha hf hlf hsa hWN hNB hM0
  go_enter Try.func37, Try.ntmps37
  go_wp2_with fail
  refine HAll.out.mono ?_
  rintro e w1 ⟨g, c, rfl, ho, hb⟩
  have HB := Lib.hid hb
  have HO : Hid (w1.ownsRow w.heap.size 5 1 (.slice (some ⟨g, 0, none⟩) nA c) nA (bytesL nA (fate s.x0 s.rb M))) := by
    have h9 := ho
    rw [HLn.out] at h9
    exact h9
  rw [HLn.out]
  have hm1 := (HM.out w1 hb).blk
  rw [HLn.out, HWN.out, HNB.out, HM0.out] at hm1
  clear hb ho HAll k1 f1 z1
  obtain ⟨k1, f1, z1⟩ := cr hm1
  clear hm1
  have HLaA := Lib.hid (fun (W : World) (gx cx : Nat) (x : Nat → Nat) (v : Value) (b : Bt) (hx : W.ownsRow w.heap.size 5 1 (.slice (some ⟨gx, 0, none⟩) nA cx) nA (bytesL nA x)) (hv : BatX (fun _ => False) W v b) (hb : b.ok n) => HLa.out W _ v x b (by rw [HLn.out]; exact own_bts hx) hv hb)
  clear HLa
  go_wp2_with fail
  go_loopw [5, 6] (fun s5 s6 wr => ∃ (i p g c : Nat), M ≤ p ∧ p ≤ NB ∧ ((i = p ∧ p = M) ∨ i = p + 1) ∧ s6 = .int .i64 i ∧ s5 = .slice (some ⟨g, 0, none⟩) nA c ∧ Hid (wr.ownsRow w.heap.size 5 1 (.slice (some ⟨g, 0, none⟩) nA c) nA (bytesL nA (fate s.x0 s.rb p)) ∧ Below w.heap.size w wr ∧ ∀ j, M ≤ j → j < i → eqB nA nA (fate s.x0 s.rb j) fa = false)) (fun _ s6 _ => NB + 1 - (intOf s6).toNat)
  case atStart => exact ⟨M, M, _, _, Nat.le_refl _, HMany, .inl ⟨rfl, rfl⟩, rfl, rfl, HO.out, HB.out, fun j h1 h2 => absurd h1 (by omega)⟩
  case round =>
    obtain ⟨i, p, g1, c1, hp1, hp2, hip, rfl, rfl, HR⟩ := hrel
    have hM := HM.out wr HR.out.2.1
    have hm1 := hM.blk
    rw [HLn.out, HWN.out, HNB.out, HM0.out] at hm1
    clear k1 f1 z1
    obtain ⟨k1, f1, z1⟩ := cr hm1
    clear hm1
    by_cases hlt : i ≤ NB
    · have hlt' : (i : Int) ≤ (NB : Int) := by omega
      rcases hip with ⟨h1, h2⟩ | h1
      · subst h2
        subst h1
        clear hM
        have C1 := conv_bts (own_bts (HR.out.1)) wr (Below.refl _ _)
        have C2 := HCa.out wr (HR.out.2.1)
        have hc := hCmp.out _ (HFate.out i (by omega))
        obtain ⟨s1, hs1⟩ : ∃ s1, strB nA (fate s.x0 s.rb i) = s1 := ⟨_, rfl⟩
        rw [hs1] at C1 hc
        clear hs1
        obtain ⟨q, hq⟩ : ∃ q, eqB nA nA (fate s.x0 s.rb i) fa = q := ⟨_, rfl⟩
        rw [hq] at hc
        have HQ := Lib.hid hq
        clear hq
        cases q
        · go_wp2_with fail
          go_roundw
          case rel =>
            refine ⟨i + 1, i, _, _, by omega, by omega, .inr rfl, by go_num, rfl, HR.out.1, HR.out.2.1, fun j h1 h2 => ?_⟩
            by_cases e : j = i
            · subst e; exact HQ.out
            · exact HR.out.2.2 j h1 (by omega)
          case measure => simp [intOf]; omega
        · have e0 : b = true := HBI.out.2 (.inl ⟨i, by have := HM0.out; omega, by have := HNB.out; omega, by rw [HLn.out]; exact HQ.out⟩)
          subst e0
          go_wp2_with fail
          go_ret
          exact ⟨rfl, HR.out.2.1⟩
      · subst h1
        have HBat : Hid (BatX (fun _ => False) wr (bv p) (s.rb p)) := (hM.bat p (by rw [HNB.out]; omega)).mono fun _ _ h => h.elim
        have hl2 := hM.list
        rw [HNB.out] at hl2
        obtain ⟨lg, rfl⟩ := HLf.out.resolve_left (by omega)
        have c2 := (own_cellN hl2 (k := p) (u := bv p) (by rw [List.getElem?_map, List.getElem?_range (by omega)]; rfl)).1
        obtain ⟨bva, bvc, hbv⟩ : ∃ x y, bv p = .slice x (s.rb p).N y := by
          obtain ⟨_, ⟨x, y, e, _⟩, _⟩ := HBat.out
          exact ⟨x, y, e⟩
        rw [hbv] at c2 HBat
        have i1 : (M : Int) < ((p + 1 : Nat) : Int) := by omega
        have i2 : IntKind.i64.wrap (((p + 1 : Nat) : Int) - 1) = (p : Int) := by go_arith
        have i3 : (p : Int) < (NB : Int) := by omega
        have HCl := Lib.hid (HLaA.out wr _ _ (fate s.x0 s.rb p) _ _ HR.out.1 HBat.out (HS.out.bat p (by rw [HNB.out]; omega)))
        clear hM hl2 hbv
        go_wp2_with fail
        refine HCl.out.mono ?_
        rintro e w2 ⟨g2, c2', rfl, ho2, hb2⟩
        have HO2 : Hid (w2.ownsRow w.heap.size 5 1 (.slice (some ⟨g2, 0, none⟩) nA c2') nA (bytesL nA (fate s.x0 s.rb (p + 1)))) := by
          have h9 := own_base_le ho2 HR.out.2.1.size
          rw [HLn.out] at h9
          exact h9
        have HB2 : Hid (Below w.heap.size w w2) := HR.out.2.1.trans (hb2.mono HR.out.2.1.size)
        rw [HLn.out]
        have hm2 := (HM.out w2 HB2.out).blk
        rw [HLn.out, HWN.out, HNB.out, HM0.out] at hm2
        clear ho2 hb2 HCl c2 k1 f1 z1
        obtain ⟨k1, f1, z1⟩ := cr hm2
        clear hm2
        have C1 := conv_bts (own_bts (HO2.out)) w2 (Below.refl _ _)
        have C2 := HCa.out w2 (HB2.out)
        have hc := hCmp.out _ (HFate.out (p + 1) (by omega))
        obtain ⟨s1, hs1⟩ : ∃ s1, strB nA (fate s.x0 s.rb (p + 1)) = s1 := ⟨_, rfl⟩
        rw [hs1] at C1 hc
        clear hs1
        obtain ⟨q, hq⟩ : ∃ q, eqB nA nA (fate s.x0 s.rb (p + 1)) fa = q := ⟨_, rfl⟩
        rw [hq] at hc
        have HQ := Lib.hid hq
        clear hq
        cases q
        · go_wp2_with fail
          go_roundw
          case rel =>
            refine ⟨(p + 1) + 1, (p + 1), _, _, by omega, by omega, .inr rfl, by go_num, rfl, HO2.out, HB2.out, fun j h1 h2 => ?_⟩
            by_cases e : j = (p + 1)
            · subst e; exact HQ.out
            · exact HR.out.2.2 j h1 (by omega)
          case measure => simp [intOf]; omega
        · have e0 : b = true := HBI.out.2 (.inl ⟨(p + 1), by have := HM0.out; omega, by have := HNB.out; omega, by rw [HLn.out]; exact HQ.out⟩)
          subst e0
          go_wp2_with fail
          go_ret
          exact ⟨rfl, HB2.out⟩
    · have hpN : p = NB := by omega
      have hiN : i = NB + 1 := by omega
      subst hpN
      subst hiN
      have HNo : Hid (∀ j, M ≤ j → j ≤ p → eqB nA nA (fate s.x0 s.rb j) fa = false) := fun j h1 h2 => HR.out.2.2 j h1 (by omega)
      by_cases hw0 : WN = 0
      · have e0 : b = false := by
          cases b
          · rfl
          · rcases HBI.out.1 rfl with ⟨i, h1, h2, he⟩ | ⟨h0, _⟩
            · rw [HLn.out, HNo.out i (by have := HM0.out; omega) (by have := HNB.out; omega)] at he
              cases he
            · exact absurd hw0 (by have := HWN.out; omega)
        subst e0
        subst hw0
        clear hM
        go_wp2_with fail
        go_ret
        exact ⟨rfl, HR.out.2.1⟩
      · have HBat : Hid (BatX (fun _ => False) wr (.slice wa WN wc) s.way) := by
          have h9 := hM.way.mono (Y := fun _ => False) fun _ _ h => h.elim
          rw [HWN.out] at h9
          exact h9
        have hw0' : ((WN : Int) == 0) = false := by simp; omega
        have HCl := Lib.hid (HLaA.out wr _ _ (fate s.x0 s.rb p) _ _ HR.out.1 HBat.out HS.out.way)
        clear hM
        go_wp2_with fail
        refine HCl.out.mono ?_
        rintro e w2 ⟨g2, c2', rfl, ho2, hb2⟩
        have HO2 : Hid (w2.ownsRow w.heap.size 5 1 (.slice (some ⟨g2, 0, none⟩) nA c2') nA (bytesL nA s.last)) := by
          have h9 := own_base_le ho2 HR.out.2.1.size
          rw [HLn.out, ← HNB.out] at h9
          exact h9
        have HB2 : Hid (Below w.heap.size w w2) := HR.out.2.1.trans (hb2.mono HR.out.2.1.size)
        rw [HLn.out]
        have C1 := conv_bts (own_bts HO2.out) w2 (Below.refl _ _)
        have C2 := HCa.out w2 HB2.out
        have hc := hCmp.out _ HLast.out
        obtain ⟨s1, hs1⟩ : ∃ s1, strB nA s.last = s1 := ⟨_, rfl⟩
        rw [hs1] at C1 hc
        clear hs1 ho2 hb2
        have e0 : eqB nA nA s.last fa = b := by
          rw [Bool.eq_iff_iff, HBI.out]
          constructor
          · intro h
            exact .inr ⟨by have := HWN.out; omega, by rw [HLn.out]; exact h⟩
          · rintro (⟨i, h1, h2, he⟩ | ⟨_, he⟩)
            · rw [HLn.out, HNo.out i (by have := HM0.out; omega) (by have := HNB.out; omega)] at he
              cases he
            · rw [HLn.out] at he; exact he
        rw [e0] at hc
        clear e0
        go_wp2_with fail
        go_ret
        exact ⟨rfl, HB2.out⟩
end Go.Proofs.Ytgkkmdebpekckaa
