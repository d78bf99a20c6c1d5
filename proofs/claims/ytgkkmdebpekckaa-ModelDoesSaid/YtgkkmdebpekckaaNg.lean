/- How the reference's model lies, whole; All. Conditions: as stated at each. -/
import Derived.Test.YtgkkmdebpekckaaNf
namespace Go.Proofs.Ytgkkmdebpekckaa
open Go.RowKit Go.Shelf
/-- What the reference's model holds: the first bytes, NB batches of which many are sure, the one under way. -/
structure Rf where
  x0 : Nat → Nat
  NB : Nat
  rb : Nat → Bt
  many : Nat
  way : Bt
def Rf.st (s : Rf) : St := ⟨s.many, s.NB - s.many, fun k => s.rb (s.many + k), s.way, fate s.x0 s.rb s.many, fate s.x0 s.rb s.NB⟩
/-- The blocks that it writes into. -/
def Rx (r gF : Nat) (lv : Value) (k : Nat) : Prop := k = r ∨ k = gF ∨ lv.ownBlock = some k
structure RMd (Z : Nat → Prop) (w : World) (r n : Nat) (s : Rf) (gF cF : Nat) (lv wv : Value) (bv : Nat → Value) : Prop where
  blk : w.heap[r]? = some (.cells #[.slice (some ⟨gF, 0, none⟩) (128 * n) cF, lv, .int .i64 s.many, wv] 76 (0, 0))
  first : w.ownsRow 0 5 1 (.slice (some ⟨gF, 0, none⟩) (128 * n) cF) (128 * n) (bytesL (128 * n) s.x0)
  list : w.ownsRow 0 24 1 lv s.NB ((List.range s.NB).map bv)
  bat : ∀ k, k < s.NB → BatX (fun k => ¬ Z k ∨ Rx r gF lv k) w (bv k) (s.rb k)
  way : BatX (fun k => ¬ Z k ∨ Rx r gF lv k) w wv s.way
  zx : ∀ k, Rx r gF lv k → Z k
  zlt : ∀ k, Z k → k < w.heap.size
  d1 : r ≠ gF
  d2 : ∀ k, lv.ownBlock = some k → k ≠ r ∧ k ≠ gF
def RMdAt (Z : Nat → Prop) (w : World) (r n : Nat) (s : Rf) : Prop := ∃ gF cF lv wv bv, RMd Z w r n s gF cF lv wv bv
theorem RMd.out {Z S : Nat → Prop} {w w1 : World} {r n : Nat} {s : Rf} {gF cF : Nat} {lv wv : Value} {bv : Nat → Value} (h : RMd Z w r n s gF cF lv wv bv) (ho : Out S w w1) (hS : ∀ k, k < w.heap.size → S k → ¬ Z k) : RMd Z w1 r n s gF cF lv wv bv := by
  have hx : ∀ k, Rx r gF lv k → ¬ S k := fun k hk hs => hS k (h.zlt k (h.zx k hk)) hs (h.zx k hk)
  exact ⟨ho.heap h.blk (hx _ (.inl rfl)), ho.own h.first (fun k hk => hx k (by cases hk; exact .inr (.inl rfl))),
    ho.own h.list (fun k hk => hx k (.inr (.inr hk))), fun k hk => (h.bat k hk).out ho (fun b hb hs => .inl (hS b hb hs)), h.way.out ho (fun b hb hs => .inl (hS b hb hs)), h.zx, fun k hk => Nat.lt_of_lt_of_le (h.zlt k hk) ho.size, h.d1, h.d2⟩
theorem RMd.keep {Z : Nat → Prop} {w w1 : World} {r n : Nat} {s : Rf} {gF cF : Nat} {lv wv : Value} {bv : Nat → Value} (h : RMd Z w r n s gF cF lv wv bv) (hb : Below w.heap.size w w1) : RMd Z w1 r n s gF cF lv wv bv :=
  h.out (Out.of_below (S := fun _ => False) hb) (fun _ _ h => h.elim)
theorem RMdAt.out {Z S : Nat → Prop} {w w1 : World} {r n : Nat} {s : Rf} (h : RMdAt Z w r n s) (ho : Out S w w1) (hS : ∀ k, k < w.heap.size → S k → ¬ Z k) : RMdAt Z w1 r n s := by
  obtain ⟨_, _, _, _, _, h⟩ := h
  exact ⟨_, _, _, _, _, h.out ho hS⟩
theorem RMdAt.keep {Z : Nat → Prop} {w w1 : World} {r n : Nat} {s : Rf} (h : RMdAt Z w r n s) (hb : Below w.heap.size w w1) : RMdAt Z w1 r n s :=
  h.out (Out.of_below (S := fun _ => False) hb) (fun _ _ h => h.elim)
/-- A state that fits n blocks. -/
structure Rf.ok (n : Nat) (s : Rf) : Prop where
  x0 : Lt (128 * n) s.x0
  bat : ∀ k, k < s.NB → (s.rb k).ok n
  way : s.way.ok n
  many : s.many ≤ s.NB
def AllP (n : Nat) (x : Nat → Nat) (W : World) (e : Ending) (w' : World) : Prop :=
  ∃ g c, e = .returned (.slice (some ⟨g, 0, none⟩) (128 * n) c) ∧ w'.ownsRow W.heap.size 5 1 (.slice (some ⟨g, 0, none⟩) (128 * n) c) (128 * n) (bytesL (128 * n) x) ∧ Below W.heap.size W w'
set_option maxRecDepth 100000 in
set_option maxHeartbeats 1000000 in
theorem all_any (Z : Nat → Prop) (r n : Nat) (s : Rf) (K : Nat) (w : World) (h : RMdAt Z w r n s) (hs : s.ok n) (hn0 : 0 < n) (hn : n ≤ 61440) (hK : K ≤ s.NB) (hK2 : s.NB ≤ 1000000000) :
    Calls Try.prog 38 #[.pointer (some ⟨r, 0, none⟩), .int .i64 K] w (AllP n (fate s.x0 s.rb K) w) := by
  obtain ⟨gF, cF, lv, wv, bv, h⟩ := h
  have HLa := Lib.hid (fun (W : World) (vx v : Value) (x : Nat → Nat) (b : Bt) (hx : Bts W vx (128 * n) x) (hv : BatX (fun _ => False) W v b) (hb : b.ok n) => laid_any (fun _ => False) vx v n x b W hn0 hn hx hv hb.bl (Nat.le_trans hb.N (by omega)))
  have HM := Lib.hid (fun (W : World) (hb : Below w.heap.size w W) => h.keep hb)
  have HS := Lib.hid hs
  obtain ⟨k1, f1, z1⟩ := cr h.blk
  have HF0 : Hid (Bts w (.slice (some ⟨gF, 0, none⟩) (128 * n) cF) (128 * n) s.x0) := (own_btsX (X := fun _ => False) h.first (fun _ _ => id)).bts
  obtain ⟨L, hL⟩ : ∃ L, 128 * n = L := ⟨_, rfl⟩
  have HLn := Lib.hid hL
  unfold AllP
  rw [hL] at k1 HF0 ⊢
  clear h hs hL
  go_enter Try.func38, Try.ntmps38
  go_wp2_with fail
  have HL0 := HLa.out w _ (.slice none 0 0) s.x0 noBt (by rw [HLn.out]; exact HF0.out) (noBt_at _ _) (noBt_ok n)
  refine HL0.mono ?_
  rintro e w1 ⟨g, c, rfl, ho, hb⟩
  have HB := Lib.hid hb
  have HO : Hid (w1.ownsRow w.heap.size 5 1 (.slice (some ⟨g, 0, none⟩) L c) L (bytesL L s.x0)) := by
    have h9 := ho
    rw [HLn.out] at h9
    exact h9
  rw [HLn.out]
  clear hb ho HL0 k1 f1 z1
  go_wp2_with fail
  go_loopw [5, 6] (fun s5 s6 wr => ∃ (k g c : Nat), k ≤ K ∧ s6 = .int .i64 k ∧ s5 = .slice (some ⟨g, 0, none⟩) L c ∧ Hid (wr.ownsRow w.heap.size 5 1 (.slice (some ⟨g, 0, none⟩) L c) L (bytesL L (fate s.x0 s.rb k)) ∧ Below w.heap.size w wr)) (fun _ s6 _ => K - (intOf s6).toNat)
  case atStart => exact ⟨0, _, _, Nat.zero_le _, rfl, rfl, HO.out, HB.out⟩
  case round =>
    obtain ⟨k, g1, c1, hk, rfl, rfl, HR⟩ := hrel
    by_cases hlt : k < K
    · have hM := HM.out wr HR.out.2
      obtain ⟨k1, f1, z1⟩ := cr hM.blk
      rw [HLn.out] at k1
      have HBat : Hid (BatX (fun _ => False) wr (bv k) (s.rb k)) := (hM.bat k (by omega)).mono fun _ _ h => h.elim
      have HRow : Hid (Bts wr (.slice (some ⟨g1, 0, none⟩) L c1) L (fate s.x0 s.rb k)) := (own_btsX (X := fun _ => False) HR.out.1 (fun _ _ => id)).bts
      obtain ⟨la, lc, hlv, hlc, hlf⟩ := own_form hM.list
      have hl2 := hM.list
      rw [hlv] at k1 hl2
      obtain ⟨lg, rfl⟩ := hlf.resolve_left (by omega)
      have c2 := (own_cellN hl2 (k := k) (u := bv k) (by rw [List.getElem?_map, List.getElem?_range (by omega)]; rfl)).1
      obtain ⟨bva, bvc, hbv⟩ : ∃ x y, bv k = .slice x (s.rb k).N y := by
        obtain ⟨_, ⟨x, y, e, _⟩, _⟩ := HBat.out
        exact ⟨x, y, e⟩
      rw [hbv] at c2 HBat
      have i1 : (0 : Int) ≤ (k : Int) := by omega
      have i2 : (k : Int) < (s.NB : Int) := by omega
      have HCl := Lib.hid (HLa.out wr _ _ (fate s.x0 s.rb k) (s.rb k) (by rw [HLn.out]; exact HRow.out) HBat.out (HS.out.bat k (by omega)))
      clear hM hl2 hlv hlf hbv
      go_wp2_with fail
      refine HCl.out.mono ?_
      rintro e w2 ⟨g2, c2', rfl, ho2, hb2⟩
      have HO2 : Hid (w2.ownsRow w.heap.size 5 1 (.slice (some ⟨g2, 0, none⟩) L c2') L (bytesL L (fate s.x0 s.rb (k + 1)))) := by
        have h9 := own_base_le ho2 HR.out.2.size
        rw [HLn.out] at h9
        exact h9
      have HB2 : Hid (Below w.heap.size w w2) := HR.out.2.trans (hb2.mono HR.out.2.size)
      rw [HLn.out]
      clear ho2 hb2 HCl c2 k1 f1 z1
      go_wp2_with fail
      go_roundw
      case rel => exact ⟨k + 1, _, _, by omega, by go_num, rfl, HO2.out, HB2.out⟩
      case measure => simp [intOf]; omega
    · obtain rfl : k = K := by omega
      go_wp2
      go_ret
      exact ⟨g1, c1, rfl, HR.out.1, HR.out.2⟩
end Go.Proofs.Ytgkkmdebpekckaa
