/- The iterator behind fates, round by round. Conditions: as stated. -/
import Derived.Test.YtgkkmdebpekckaaMh2
import Derived.Deep.RegionHeld3
import Derived.Deep.AppendLies
import Derived.RangeFuncNested
import Derived.RangeFuncBound
import Derived.RangeFuncCalls
import Derived.RangeFuncLeaves
import Derived.Shelf.Abstract
import Derived.Shelf.RegionOpen
import Derived.OwnWalkIn
import Derived.TacticsInMore
import Derived.LoopNIn
import Derived.LoopIn
namespace Go.Proofs.Ytgkkmdebpekckaa
open Go.RowKit Go.Shelf
attribute [local go_sem] Oper.semAt_some
/-- The blocks x with the first k batches laid in. -/
def fate (x : Nat → Nat) (bt : Nat → Bt) : Nat → Nat → Nat
  | 0 => x
  | k + 1 => layN (fate x bt k) (bt k).bl (bt k).f (bt k).N
/-- The loose batches, and the one under way behind them. -/
def St.all (s : St) (k : Nat) : Bt := if k < s.L then s.bt k else s.way
def St.M (s : St) : Nat := s.L + if s.way.N = 0 then 0 else 1
/-- What may be found behind a crash. -/
def St.could (s : St) (n nA : Nat) (fa : Nat → Nat) : Prop := ∃ j, j ≤ s.M ∧ eqB (128 * n) nA (fate s.sure s.all j) fa = true
theorem own_bts {w : World} {B n : Nat} {v : Value} {f : Nat → Nat} (h : w.ownsRow B 5 1 v n (bytesL n f)) : Bts w v n f := by
  obtain ⟨a, cap, rfl, hf⟩ := own_formN h
  refine ⟨_, _, rfl, ?_⟩
  rcases hf with h0 | ⟨g, rfl⟩
  · exact .inl h0
  · exact .inr ⟨g, 0, rfl, fun k hk => by
      have := h.cells (g := g) rfl k _ (bytesL_get n f k hk)
      rwa [addk] at this⟩
/-- Behind k rounds of the loop over the batches; w3 is the world where it began. -/
structure LoopI (X : Nat → Prop) (Rdy : World → Prop) (W w3 wr : World) (g L cap n nA : Nat) (fa : Nat → Nat) (s : St) (k : Nat) : Prop where
  row : wr.ownsRow W.heap.size 5 1 (.slice (some ⟨g, 0, none⟩) L cap) L (bytesL L (fate s.sure s.all k))
  out : Out (fun b => X b ∨ b = g) w3 wr
  rdy : Rdy wr
  no : ∀ j, j ≤ k → eqB (128 * n) nA (fate s.sure s.all j) fa = false
theorem LoopI.outX {X : Nat → Prop} {Rdy : World → Prop} {W w3 wr : World} {g L cap n nA : Nat} {fa : Nat → Nat} {s : St} {k : Nat} (h : LoopI X Rdy W w3 wr g L cap n nA fa s k) (h3 : Out X W w3) (hg : W.heap.size ≤ g) : Out X W wr :=
  h3.trans h.out fun b hb hS => hS.elim id fun e => by omega
def LayQ (B g L cap : Nat) (x : Nat → Nat) (w : World) (e : Ending) (w' : World) : Prop :=
  e = .returned (.tuple #[]) ∧ w'.ownsRow B 5 1 (.slice (some ⟨g, 0, none⟩) L cap) L (bytesL L x) ∧ Out (fun b => b = g) w w'
theorem layN_lt {L : Nat} {x : Nat → Nat} (hx : Lt L x) (bl : Nat → Nat) (f : Nat → Nat → Nat) (N : Nat) (hf : ∀ i, i < N → Lt 128 (f i)) : Lt L (layN x bl f N) := by
  induction N with
  | zero => exact hx
  | succ N ih =>
    intro p hp
    simp only [layN]
    by_cases h : 128 * bl N ≤ p ∧ p < 128 * bl N + 128
    · rw [if_pos h]; exact hf N (by omega) _ (by omega)
    · rw [if_neg h]; exact ih (fun i hi => hf i (by omega)) p hp
theorem fate_lt {L n : Nat} {x : Nat → Nat} (hx : Lt L x) {bt : Nat → Bt} (k : Nat) (h : ∀ j, j < k → (bt j).ok n) : Lt L (fate x bt k) := by
  induction k with
  | zero => exact hx
  | succ k ih => exact layN_lt (ih fun j hj => h j (by omega)) _ _ _ (h k (by omega)).f
def IterP (X : Nat → Prop) (Rdy Stp : World → Prop) (n nA : Nat) (fa : Nat → Nat) (s : St) (W : World) (e : Ending) (W' : World) : Prop :=
  (∃ v, e = .returned v) ∧ Out X W W' ∧ ((¬ s.could n nA fa ∧ Rdy W') ∨ (s.could n nA fa ∧ Stp W'))
def RoundP (X : Nat → Prop) (Rdy Stp : World → Prop) (r : Bool) (A : World) (e : Ending) (A' : World) : Prop :=
  e = .returned (.bool (!r)) ∧ Out X A A' ∧ ((r = false ∧ Rdy A') ∨ (r = true ∧ Stp A'))
set_option maxRecDepth 100000 in
set_option maxHeartbeats 800000 in
theorem iter_any (l c1 m n nA : Nat) (fa : Nat → Nat) (s : St) (gS cS : Nat) (nv lv wv : Value) (bv : Nat → Value) (X : Nat → Prop) (Rdy Stp : World → Prop) (W : World)
    (hv : View X W m n s gS cS nv lv wv bv) (hs : Lt (128 * n) s.sure) (hok : ∀ k, k < s.L → (s.bt k).ok n) (hwok : s.way.ok n) (hn0 : 0 < n) (hn : n ≤ 61440) (hL : s.L ≤ 1000000)
    (hc : W.heap[c1]? = some (.cells #[.pointer (some ⟨m, 0, none⟩)] 29 (0, 0))) (hcX : ¬ X c1) (hX : ∀ k, X k → k < W.heap.size)
    (hR0 : Rdy W) (hRk : ∀ A B, Rdy A → Below W.heap.size A B → Rdy B)
    (hY : ∀ q v x A, Rdy A → Bts A v (128 * n) x → Lt (128 * n) x → YieldAt Fence.wide q Try.prog l #[v] A (RoundP X Rdy Stp (eqB (128 * n) nA x fa) A)) :
    CallsIn Fence.wide 2 Try.prog 59 #[.func (.yield l) #[] #[], .pointer (some ⟨c1, 0, none⟩)] W (IterP X Rdy Stp n nA fa s W) := by
  refine callsIn_of_wp Try.func59 rfl trivial ?_
  simp only [Try.ntmps59, List.size_toArray, List.length_cons, List.length_nil, Nat.reduceAdd, Nat.reduceSub, Array.replicate_succ, Array.replicate_zero, List.push_toArray, List.append_toArray, List.nil_append, List.cons_append]
  have HV := Lib.hid hv
  have HC := Lib.hid hc
  have HS := Lib.hid hs
  have HK := Lib.hid hok
  have HY := Lib.hid hY
  have HRk := Lib.hid hRk
  obtain ⟨m1, m2, m3⟩ := cr hv.blk
  obtain ⟨d1, d2, d3⟩ := cr hc
  have hcl : Calls Try.prog 60 #[.slice (some ⟨gS, 0, none⟩) (128 * n) cS] W (CloneP (128 * n) s.sure W) := by
    obtain ⟨_, _, e0, hb0⟩ := hv.sure
    cases e0
    rcases hb0 with h0 | ⟨b, o, e1, _, hcb⟩
    · exact clone60_any gS 0 _ _ _ W (fun k hk => by omega) (by omega)
    · cases e1
      exact clone60_any gS 0 _ _ _ W hcb (by omega)
  clear hv hc hs hok hY hRk
  obtain ⟨L, hL⟩ : ∃ L, 128 * n = L := ⟨_, rfl⟩
  rw [hL] at hcl HS
  simp only [hL] at m1 HY
  gi_wp2_with (first
    | (refine ⟨trivial, ?_⟩; gi_at_call 60; refine (callsIn_wide.2 hcl).mono ?_; clear hcl; rintro e w1 ⟨v1, rfl, ho, hb⟩
       obtain ⟨a1, cap1, rfl, hf⟩ := own_formN ho
       obtain ⟨g, rfl⟩ := hf.resolve_left (by omega)
       have HO := Lib.hid ho
       have HB := Lib.hid hb
       have HR1 := Lib.hid (HRk.out _ _ hR0 hb)
       obtain ⟨fn, tmps, assign, body, hy, hR⟩ := HY.out 1 (.slice (some ⟨g, 0, none⟩) L cap1) s.sure w1 HR1.out (own_bts ho) HS.out
       have HR := Lib.hid hR
       clear ho hb hf hR))
  refine HR.out.mono ?_
  clear HR hy
  rintro e w2 ⟨rfl, hout, hst⟩
  have HG := Lib.hid (HO.out.lt g rfl)
  have HO2 : Hid (w2.ownsRow W.heap.size 5 1 (.slice (some ⟨g, 0, none⟩) L cap1) L (bytesL L s.sure)) := hout.own HO.out (fun k hk hS => by
    have h1 := hX k hS
    have h2 := (HO.out.lt k hk).1
    omega)
  have HOut : Hid (Out X W w2) := (Out.of_below HB.out).tr hout
  have HV2 := Lib.hid ((HV.out.mono (Y := fun b => X b ∨ b = g) fun b hb hS => hS.elim id fun e => by have := HG.out.1; omega).out HOut.out fun _ _ h => .inl h)
  have HC2 : Hid (w2.heap[c1]? = some (.cells #[.pointer (some ⟨m, 0, none⟩)] 29 (0, 0))) := HOut.out.heap HC.out hcX
  rcases hst with ⟨hr, hst⟩ | ⟨hr, hst⟩
  · have HNo := Lib.hid hr
    have HR2 := Lib.hid hst
    rw [hr]
    clear hr hst hout m1 m2 m3 d1 d2 d3 HR1 HO HB
    obtain ⟨m1, m2, m3⟩ := cr HV2.out.blk
    obtain ⟨d1, d2, d3⟩ := cr HC2.out
    obtain ⟨la, lc, rfl, hlc, -⟩ := HV2.out.loose
    by_cases h0 : s.way.N = 0
    · obtain ⟨_, ⟨wa, wc, rfl, -⟩, -⟩ := HV2.out.way
      have hM : s.M = s.L := by simp [St.M, h0]
      rw [h0] at m1
      rw [← hM] at m1
      obtain ⟨w3, rfl⟩ : ∃ w3, w3 = w2 := ⟨_, rfl⟩
      obtain ⟨bw, rfl⟩ : ∃ bw, bw = bv := ⟨_, rfl⟩
      have HRW : Hid (RwsX (fun b => X b ∨ b = g) w3 (.slice la s.M lc) s.M bw) := by rw [hM]; exact HV2.out.loose
      have HBW : Hid (∀ k, k < s.M → BatX (fun b => X b ∨ b = g) w3 (bw k) (s.all k)) := fun k hk => by
        have e : s.all k = s.bt k := if_pos (by omega)
        rw [e]; exact HV2.out.bat k (by omega)
      have HO3 := HO2
      have HR3 := HR2
      have HOut3 := HOut
      have HAll : Hid (∀ k, k < s.M → (s.all k).ok n) := fun k hk => by
        have e : s.all k = s.bt k := if_pos (by omega)
        rw [e]; exact HK.out k (by omega)
      gi_wp2
      obtain ⟨la3, lc3, e3, -, hrows⟩ := HRW.out
      have HRows := Lib.hid hrows
      cases e3
      clear hrows
      gi_loopw [36] (fun i wr => ∃ k : Nat, k ≤ s.M ∧ i = .int .i64 k ∧ Hid (LoopI X Rdy W w3 wr g L cap1 n nA fa s k)) (fun i _ => s.M - (intOf i).toNat)
      case atStart =>
        exact ⟨0, Nat.zero_le _, rfl, HO3.out, Out.refl _ _, HR3.out, fun j hj => by
          obtain rfl : j = 0 := by omega
          rw [hL]; exact HNo.out⟩
      case round =>
        obtain ⟨k, hk, rfl, HI⟩ := hrel
        have HOX : Hid (Out X W wr) := HI.out.outX HOut3.out HG.out.1
        by_cases hlt : k < s.M
        · obtain ⟨dv, hpt, hdt⟩ := (HBW.out k hlt).out HI.out.out (fun _ _ h => h)
          obtain ⟨pa, pc, e4, -⟩ := id hpt
          rcases HRows.out with h0 | ⟨lb, lo, e5, hlX, hlc⟩
          · omega
          cases e5
          have c1 : wr.cell? ⟨lb, lo + k, none⟩ = some (.slice pa (s.all k).N pc) := by
            rw [← e4]
            exact HI.out.out.cell (hlc k hlt) hlX
          have i1 : (0 : Int) ≤ (k : Int) := by omega
          have i2 : (k : Int) < (s.M : Int) := by omega
          have HOK := Lib.hid (HAll.out k hlt)
          have HLay : Hid (Calls Try.prog 24 #[.slice (some ⟨g, 0, none⟩) L cap1, .slice pa (s.all k).N pc] wr (LayQ W.heap.size g L cap1 (fate s.sure s.all (k + 1)) wr)) := by
            have h1 := HI.out.row
            rw [← hL] at h1 ⊢
            rw [← e4]
            exact lay_any W.heap.size g n cap1 (fate s.sure s.all k) (bw k) (s.all k).N (s.all k).bl dv (s.all k).f wr h1 (hpt.mono fun _ _ h => .inr h) (fun i hi => (hdt i hi).mono fun _ _ h => .inr h) HOK.out.bl (by have := HOK.out.N; omega) hn
          have HF := Lib.hid (fate_lt HS.out (k + 1) fun j hj => HAll.out j (by omega))
          clear hpt hdt e4 hlX hlc
          gi_wp2_with (first
            | (refine ⟨trivial, ?_⟩; gi_at_call 24; refine (callsIn_wide.2 HLay.out).mono ?_; clear HLay; rintro e w4 ⟨rfl, ho, hb⟩
               have HO4 := Lib.hid ho
               have HB4 := Lib.hid hb
               have HR4 := Lib.hid (HRk.out _ _ HI.out.rdy (hb.below (fun b _ e => by rw [e]; exact HG.out.1) HOX.out.size))
               obtain ⟨fn, tmps, assign, body, hy, hR⟩ := HY.out 1 (.slice (some ⟨g, 0, none⟩) L cap1) (fate s.sure s.all (k + 1)) w4 HR4.out (own_bts ho) HF.out
               have HR := Lib.hid hR
               clear ho hb hR))
          refine HR.out.mono ?_
          clear HR hy
          rintro e w5 ⟨rfl, hout, hst⟩
          have HO5 : Hid (w5.ownsRow W.heap.size 5 1 (.slice (some ⟨g, 0, none⟩) L cap1) L (bytesL L (fate s.sure s.all (k + 1)))) := hout.own HO4.out (fun b hb hS => by
            have h1 := hX b hS
            have h2 := (HO4.out.lt b hb).1
            omega)
          have HXX : Hid (Out (fun b => X b ∨ b = g) wr w5) := (HB4.out.mono fun _ _ h => .inr h).tr (hout.mono fun _ _ h => .inl h)
          rcases hst with ⟨hr, hst⟩ | ⟨hr, hst⟩
          · have HNo5 := Lib.hid hr
            have HR5 := Lib.hid hst
            rw [hr]
            clear hr hst hout
            gi_wp2
            go_roundw
            case rel =>
              refine ⟨k + 1, by omega, by go_num, HO5.out, HI.out.out.tr HXX.out, HR5.out, fun j hj => ?_⟩
              by_cases e : j = k + 1
              · subst e; rw [hL]; exact HNo5.out
              · exact HI.out.no j (by omega)
            case measure => simp [intOf]; omega
          · have HYes5 := Lib.hid hr
            have HS5 := Lib.hid hst
            rw [hr]
            clear hr hst hout
            gi_wp2
            go_end0
            refine ⟨⟨_, rfl⟩, HOX.out.trans HXX.out (fun b hb hS => hS.elim id fun e => by have := HG.out.1; omega), .inr ⟨⟨k + 1, by omega, by rw [hL]; exact HYes5.out⟩, HS5.out⟩⟩
        · obtain rfl : k = s.M := by omega
          gi_wp2
          go_end0
          refine ⟨⟨_, rfl⟩, HOX.out, .inl ⟨fun ⟨j, hj, h⟩ => ?_, HI.out.rdy⟩⟩
          rw [HI.out.no j hj] at h
          cases h
    · obtain ⟨_, ⟨wa, wc, rfl, -⟩, -⟩ := HV2.out.way
      have hM : s.M = s.L + 1 := by simp [St.M, h0]
      gi_wp2
      refine wpIn_wide.2 ?_
      have HOld : Hid (∀ w', Below w2.heap.size w2 w' → (s.L = 0 ∨ ∃ ad, la = some ad ∧ ∀ j u, ((List.range s.L).map bv)[j]? = some u → w'.cell? (ad.add j) = some u)) := fun w' hb => by
        obtain ⟨_, _, e6, _, h6⟩ := HV2.out.loose
        cases e6
        rcases h6 with h6 | ⟨b, o, e7, _, hcc⟩
        · exact .inl h6
        · refine .inr ⟨_, e7, fun j u hj => ?_⟩
          by_cases hjl : j < s.L
          · rw [addk, hb.cell (p := ⟨b, o + j, none⟩) (World.block_lt_of_cell? w2 _ (hcc j hjl)), hcc j hjl]
            simpa [hjl] using hj
          · rw [List.getElem?_eq_none (by simp; omega)] at hj
            cases hj
      obtain ⟨i1, hi1, hy0, hy1, hy2⟩ := info_parts Try.info24
      go_region_held3 (fun w' => w'.cell? ⟨c1, 0, none⟩ = some (.pointer (some ⟨m, 0, none⟩)) ∧ w'.cell? ⟨m, 4, none⟩ = some (.slice wa s.way.N wc)) (first | (simp [*, go_sem]; done) | (refine ⟨?_, ?_⟩ <;> (rw [hB7.cell (by simp; omega)]; simp [*, go_sem]; done))) (first | (go_at_call 61; refine (clip_any _ _ _ _ hlc).mono ?_; rintro e w7 ⟨rfl, rfl⟩) | (refine step_append_fresh _ (by rfl) _ _ _ (by rfl) 24 i1 _ 1 24 Try.underlying22 hi1 hy0 hy1 hy2 (by rfl) la s.L ((List.range s.L).map bv) (by rfl) (by simp) (HOld.out _ (by go_grown)) ⟨w2.heap.size, 0, none⟩ 1 1 [.slice wa s.way.N wc] (by rfl) (by rfl) (World.news_of_block (cs := #[.slice wa s.way.N wc]) (t := 24) (fr := (0, 0)) (heap_alloc_new w2 _)) (by omega) (by unfold maxLen; omega) (by omega) ?_; intro gg cap7 w7 hgg hown7 hB7))
      all_goals (
        have hb27 : Below w2.heap.size w2 w7 := (show Below w2.heap.size w2 _ by go_grown).trans (hB7.mono (by simp))
        have HB27 := Lib.hid hb27
        have HOwn7 : Hid (w7.ownsRow 0 24 1 (.slice (some ⟨w2.heap.size + 1, 0, none⟩) (s.L + 1) cap7) (s.L + 1) ((List.range s.L).map bv ++ [.slice wa s.way.N wc])) := by
          have h1 := own_base0 hown7
          simp only [hgg] at h1
          have h2 : w7.ownsRow 0 24 1 (.slice (some ⟨w2.heap.size + 1, 0, none⟩) (s.L + 1) cap7) (s.L + 1) ((List.range s.L).map bv ++ [.slice wa s.way.N wc]) := by simpa using h1
          exact h2
        rename_i hHeld
        clear hb27 hB7 hown7 hHeld hgg
        obtain ⟨w3, rfl⟩ : ∃ w3, w3 = w7 := ⟨_, rfl⟩
        obtain ⟨bw, hbw⟩ : ∃ bw : Nat → Value, bw = fun k => if k < s.L then bv k else .slice wa s.way.N wc := ⟨_, rfl⟩
        have HRW : Hid (RwsX (fun b => X b ∨ b = g) w3 (.slice (some ⟨w2.heap.size + 1, 0, none⟩) s.M cap7) s.M bw) := by
          refine ⟨_, _, rfl, ?_, .inr ⟨_, 0, rfl, fun hS => ?_, fun k hk => ?_⟩⟩
          · rw [hM]
            rcases HOwn7.out.2 with ⟨h, _⟩ | ⟨_, _, _, h, _, _, h2, _⟩
            · cases h
            · cases h; exact h2
          · have h1 := HOut.out.size
            rcases hS with hS | hS
            · have := hX _ hS; omega
            · have h2 : g < w2.heap.size := (HO2.out.lt g rfl).2
              omega
          · have h1 := HOwn7.out.cells (g := w2.heap.size + 1) rfl k (bw k) (by
              subst hbw
              by_cases hkl : k < s.L
              · rw [List.getElem?_append_left (by simpa using hkl)]
                simp [hkl]
              · rw [List.getElem?_append_right (by simp; omega)]
                have e : k - ((List.range s.L).map bv).length = 0 := by simp; omega
                rw [e]
                simp [hkl])
            rwa [addk] at h1
        have HBW : Hid (∀ k, k < s.M → BatX (fun b => X b ∨ b = g) w3 (bw k) (s.all k)) := fun k hk => by
          subst hbw
          have hV := HV2.out.out (Out.of_below (S := fun _ => False) HB27.out) (fun _ _ h => h.elim)
          by_cases hkl : k < s.L
          · have e : s.all k = s.bt k := if_pos hkl
            rw [e]
            simp only [if_pos hkl]
            exact hV.bat k hkl
          · have e : s.all k = s.way := if_neg hkl
            rw [e]
            simp only [if_neg hkl]
            exact hV.way
        have HO3 : Hid (w3.ownsRow W.heap.size 5 1 (.slice (some ⟨g, 0, none⟩) L cap1) L (bytesL L s.sure)) := own_keep HB27.out HO2.out
        have HOut3 : Hid (Out X W w3) := HOut.out.then HB27.out
        have HR3 : Hid (Rdy w3) := HRk.out _ _ HR2.out (HB27.out.mono HOut.out.size)
        have HAll : Hid (∀ k, k < s.M → (s.all k).ok n) := fun k hk => by
          by_cases hkl : k < s.L
          · have e : s.all k = s.bt k := if_pos hkl
            rw [e]; exact HK.out k hkl
          · have e : s.all k = s.way := if_neg hkl
            rw [e]; exact hwok
        have hM2 : s.L + 1 = s.M := hM.symm
        rw [hM2]
        obtain ⟨la7, hla7⟩ : ∃ la7 : Option Addr, some (⟨w2.heap.size + 1, 0, none⟩ : Addr) = la7 := ⟨_, rfl⟩
        rw [hla7] at HRW ⊢
        have hMb : s.M ≤ 1000001 := by omega
        clear hM hM2 hbw hla7
        gi_wp2
        obtain ⟨la3, lc3, e3, -, hrows⟩ := HRW.out
        have HRows := Lib.hid hrows
        cases e3
        clear hrows
        gi_loopw [36] (fun i wr => ∃ k : Nat, k ≤ s.M ∧ i = .int .i64 k ∧ Hid (LoopI X Rdy W w3 wr g L cap1 n nA fa s k)) (fun i _ => s.M - (intOf i).toNat)
        case atStart =>
          exact ⟨0, Nat.zero_le _, rfl, HO3.out, Out.refl _ _, HR3.out, fun j hj => by
            obtain rfl : j = 0 := by omega
            rw [hL]; exact HNo.out⟩
        case round =>
          obtain ⟨k, hk, rfl, HI⟩ := hrel
          have HOX : Hid (Out X W wr) := HI.out.outX HOut3.out HG.out.1
          by_cases hlt : k < s.M
          · obtain ⟨dv, hpt, hdt⟩ := (HBW.out k hlt).out HI.out.out (fun _ _ h => h)
            obtain ⟨pa, pc, e4, -⟩ := id hpt
            rcases HRows.out with h0 | ⟨lb, lo, e5, hlX, hlc⟩
            · omega
            cases e5
            have c1 : wr.cell? ⟨lb, lo + k, none⟩ = some (.slice pa (s.all k).N pc) := by
              rw [← e4]
              exact HI.out.out.cell (hlc k hlt) hlX
            have i1 : (0 : Int) ≤ (k : Int) := by omega
            have i2 : (k : Int) < (s.M : Int) := by omega
            have HOK := Lib.hid (HAll.out k hlt)
            have HLay : Hid (Calls Try.prog 24 #[.slice (some ⟨g, 0, none⟩) L cap1, .slice pa (s.all k).N pc] wr (LayQ W.heap.size g L cap1 (fate s.sure s.all (k + 1)) wr)) := by
              have h1 := HI.out.row
              rw [← hL] at h1 ⊢
              rw [← e4]
              exact lay_any W.heap.size g n cap1 (fate s.sure s.all k) (bw k) (s.all k).N (s.all k).bl dv (s.all k).f wr h1 (hpt.mono fun _ _ h => .inr h) (fun i hi => (hdt i hi).mono fun _ _ h => .inr h) HOK.out.bl (by have := HOK.out.N; omega) hn
            have HF := Lib.hid (fate_lt HS.out (k + 1) fun j hj => HAll.out j (by omega))
            clear hpt hdt e4 hlX hlc
            gi_wp2_with (first
              | (refine ⟨trivial, ?_⟩; gi_at_call 24; refine (callsIn_wide.2 HLay.out).mono ?_; clear HLay; rintro e w4 ⟨rfl, ho, hb⟩
                 have HO4 := Lib.hid ho
                 have HB4 := Lib.hid hb
                 have HR4 := Lib.hid (HRk.out _ _ HI.out.rdy (hb.below (fun b _ e => by rw [e]; exact HG.out.1) HOX.out.size))
                 obtain ⟨fn, tmps, assign, body, hy, hR⟩ := HY.out 1 (.slice (some ⟨g, 0, none⟩) L cap1) (fate s.sure s.all (k + 1)) w4 HR4.out (own_bts ho) HF.out
                 have HR := Lib.hid hR
                 clear ho hb hR))
            refine HR.out.mono ?_
            clear HR hy
            rintro e w5 ⟨rfl, hout, hst⟩
            have HO5 : Hid (w5.ownsRow W.heap.size 5 1 (.slice (some ⟨g, 0, none⟩) L cap1) L (bytesL L (fate s.sure s.all (k + 1)))) := hout.own HO4.out (fun b hb hS => by
              have h1 := hX b hS
              have h2 := (HO4.out.lt b hb).1
              omega)
            have HXX : Hid (Out (fun b => X b ∨ b = g) wr w5) := (HB4.out.mono fun _ _ h => .inr h).tr (hout.mono fun _ _ h => .inl h)
            rcases hst with ⟨hr, hst⟩ | ⟨hr, hst⟩
            · have HNo5 := Lib.hid hr
              have HR5 := Lib.hid hst
              rw [hr]
              clear hr hst hout
              gi_wp2
              go_roundw
              case rel =>
                refine ⟨k + 1, by omega, by go_num, HO5.out, HI.out.out.tr HXX.out, HR5.out, fun j hj => ?_⟩
                by_cases e : j = k + 1
                · subst e; rw [hL]; exact HNo5.out
                · exact HI.out.no j (by omega)
              case measure => simp [intOf]; omega
            · have HYes5 := Lib.hid hr
              have HS5 := Lib.hid hst
              rw [hr]
              clear hr hst hout
              gi_wp2
              go_end0
              refine ⟨⟨_, rfl⟩, HOX.out.trans HXX.out (fun b hb hS => hS.elim id fun e => by have := HG.out.1; omega), .inr ⟨⟨k + 1, by omega, by rw [hL]; exact HYes5.out⟩, HS5.out⟩⟩
          · obtain rfl : k = s.M := by omega
            gi_wp2
            go_end0
            refine ⟨⟨_, rfl⟩, HOX.out, .inl ⟨fun ⟨j, hj, h⟩ => ?_, HI.out.rdy⟩⟩
            rw [HI.out.no j hj] at h
            cases h)
  · have HYes := Lib.hid hr
    have HS2 := Lib.hid hst
    rw [hr]
    clear hr hst hout m1 m2 m3 d1 d2 d3 HR1 HO HB
    gi_wp2
    go_end0
    exact ⟨⟨_, rfl⟩, HOut.out, .inr ⟨⟨0, Nat.zero_le _, by rw [hL]; exact HYes.out⟩, HS2.out⟩⟩
end Go.Proofs.Ytgkkmdebpekckaa

