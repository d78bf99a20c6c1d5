/- own: a batch with bytes of its own. Conditions: as stated at each. -/
import Derived.Test.YtgkkmdebpekckaaMc
namespace Go.Proofs.Ytgkkmdebpekckaa
open Go.RowKit
/-- One cell of a row of one's own is written, whatever its elements' size. -/
theorem own_setN {w : World} {base : Nat} {e : TypeId} {g n cap sz : Nat} {xs : List Value} (h : w.ownsRow base e sz (.slice (some ⟨g, 0, none⟩) n cap) n xs) (k : Nat) (u : Value) : (w.setCell ⟨g, k, none⟩ u).ownsRow base e sz (.slice (some ⟨g, 0, none⟩) n cap) n (xs.set k u) := by
  refine ⟨by rw [List.length_set]; exact h.1, ?_⟩
  rcases h.2 with ⟨hv, _⟩ | ⟨g', cap', cur, hv, hb, hg, h1, h2, h3, h4⟩
  · cases hv
  · cases hv
    refine .inr ⟨g, cap, _, rfl, hb, heap_setCell_same w g k cur e u hg, h1, h2, by simpa using h3, ?_⟩
    rw [← h4]
    simp [List.take_set]
theorem own_cellN {w : World} {base : Nat} {e : TypeId} {g n cap sz : Nat} {xs : List Value} (h : w.ownsRow base e sz (.slice (some ⟨g, 0, none⟩) n cap) n xs) {k : Nat} {u : Value} (hk : xs[k]? = some u) : w.cell? ⟨g, k, none⟩ = some u ∧ w.frozen? ⟨g, k, none⟩ = false := by
  rcases h.2 with ⟨hv, _⟩ | ⟨g', cap', cur, hv, hb, hg, h1, h2, h3, h4⟩
  · cases hv
  · cases hv
    refine ⟨?_, frozen_of_row w g k cur e hg⟩
    rw [cell_of_row w g k cur e (0, 0) hg, ← hk, ← h4, List.getElem?_take, if_pos]
    · simp
    · have := (List.getElem?_eq_some_iff.1 hk).1
      rw [h.1] at this
      exact this
theorem own_formN {w : World} {base : Nat} {e : TypeId} {sz : Nat} {v : Value} {n : Nat} {xs : List Value} (h : w.ownsRow base e sz v n xs) : ∃ a cap, v = .slice a n cap ∧ (n = 0 ∨ ∃ g, a = some ⟨g, 0, none⟩) := by
  rcases h.2 with ⟨rfl, rfl⟩ | ⟨g, cap, cur, rfl, _⟩
  · exact ⟨none, 0, rfl, .inl rfl⟩
  · exact ⟨_, _, rfl, .inr ⟨g, rfl⟩⟩
theorem own_base_le {w : World} {b b' : Nat} {e : TypeId} {sz : Nat} {v : Value} {n : Nat} {xs : List Value} (h : w.ownsRow b e sz v n xs) (hb : b' ≤ b) : w.ownsRow b' e sz v n xs := by
  obtain ⟨h1, h2⟩ := h
  refine ⟨h1, ?_⟩
  rcases h2 with h2 | ⟨g, cap, cur, hv, hg, r⟩
  · exact .inl h2
  · exact .inr ⟨g, cap, cur, hv, Nat.le_trans hb hg, r⟩
/-- What own hands back: a list of N puts in new blocks. -/
def OwnP (N : Nat) (bl : Nat → Int) (f : Nat → Nat → Nat) (w : World) (e : Ending) (w' : World) : Prop :=
  ∃ v dv, e = .returned v ∧ w'.ownsRow w.heap.size 47 2 v N (putL N bl dv) ∧ (∀ i, i < N → w'.ownsRow w.heap.size 5 1 (dv i) 128 (bytesL 128 (f i))) ∧ Below w.heap.size w w'
/-- Behind k rounds. -/
structure OwnR (B : Nat) (w1 wr : World) (a : Option Addr) (N cap k : Nat) (bl : Nat → Int) (dv0 dv : Nat → Value) (f : Nat → Nat → Nat) : Prop where
  row : wr.ownsRow B 47 2 (.slice a N cap) N (putL N bl dv)
  new : ∀ i, i < k → wr.ownsRow w1.heap.size 5 1 (dv i) 128 (bytesL 128 (f i))
  old : ∀ i, k ≤ i → dv i = dv0 i
  out : Out (fun b => (Value.slice a N cap).ownBlock = some b) w1 wr
set_option maxRecDepth 100000 in
set_option maxHeartbeats 800000 in
theorem own_any (v : Value) (N : Nat) (bl : Nat → Int) (dv : Nat → Value) (f : Nat → Nat → Nat) (X : Nat → Prop) (w : World) (h : PtsX X w v N bl dv) (hd : ∀ i, i < N → BtsX X w (dv i) 128 (f i)) (hN : N ≤ 65536) :
    Calls Try.prog 23 #[v] w (OwnP N bl f w) := by
  have HD : ∀ i, i < N → ∃ b o cap, dv i = .slice (some ⟨b, o, none⟩) 128 cap ∧ ∀ k, k < 128 → w.cell? ⟨b, o + k, none⟩ = some (.int .u8 (f i k)) := fun i hi => by
    obtain ⟨a, cap, hv, h0⟩ := hd i hi
    rcases h0 with h0 | ⟨b, o, rfl, _, hc⟩
    · omega
    · exact ⟨b, o, cap, hv, hc⟩
  have HDH := Lib.hid HD
  obtain ⟨a, cap, rfl, h0⟩ := h
  have hcl : Calls Try.prog 58 #[.slice a N cap] w (ClonePtsP N bl dv w) := by
    rcases h0 with rfl | ⟨b, o, rfl, _, hc⟩
    · exact clone58_none _ _ _ _ _
    · refine clone58_any b o N cap bl dv w hc (fun i hi => ?_) hN
      obtain ⟨_, _, _, hv, _⟩ := HD i hi
      rw [hv]; rfl
  clear hd HD h0
  go_enter Try.func23, Try.ntmps23
  go_wp2_with (first | (go_at_call 58; refine hcl.mono ?_; rintro e w1 ⟨v1, rfl, ho1, hb1⟩; obtain ⟨a1, cap1, rfl, hf1⟩ := own_formN ho1; have HO1 := Lib.hid ho1; have HB1 := Lib.hid hb1; have HF1 := Lib.hid hf1; clear ho1 hb1 hf1))
  clear hcl
  go_loopw [9] (fun i wr => ∃ (k : Nat) (dvk : Nat → Value), k ≤ N ∧ i = .int .i64 k ∧ Hid (OwnR w.heap.size w1 wr a1 N cap1 k bl dv dvk f)) (fun i _ => N - (intOf i).toNat)
  case atStart => exact ⟨0, dv, Nat.zero_le _, rfl, ⟨HO1.out, fun i hi => absurd hi (Nat.not_lt_zero _), fun _ _ => rfl, Out.refl _ _⟩⟩
  case round =>
    obtain ⟨k, dvk, hk, rfl, HR⟩ := hrel
    have hB : Below w.heap.size w wr := HB1.out.trans (HR.out.out.below (fun b _ e => (HO1.out.lt b e).1) HB1.out.size)
    have HBW := Lib.hid hB
    clear hB
    by_cases hlt : k < N
    · rcases HF1.out with h0 | ⟨g, rfl⟩
      · omega
      have hc0 := own_cellN HR.out.row (putL_get N bl dvk (k * 2 + 1) (by omega))
      rw [putC_dv, HR.out.old k (Nat.le_refl _)] at hc0
      obtain ⟨b, o, cp, hv, hcb⟩ := HDH.out k hlt
      rw [hv] at hc0
      obtain ⟨hc1, hc2⟩ := hc0
      have i1 : (0 : Int) ≤ (k : Int) := by omega
      have i2 : (k : Int) < (N : Int) := by omega
      have hglr : g < wr.heap.size := (HR.out.row.lt g rfl).2
      have HCL := Lib.hid (clone21_any b o 128 cp (f k) wr (fun q hq => by
        rw [HBW.out.cell (p := ⟨b, o + q, none⟩) (World.block_lt_of_cell? w _ (hcb q hq))]; exact hcb q hq) (by omega))
      clear hcb hv
      go_wp2_with (first | (go_at_call 21; refine HCL.out.mono ?_; rintro e w2 ⟨v2, rfl, ho2, hb2⟩; obtain ⟨a2, cap2, rfl, _⟩ := own_formN ho2; obtain ⟨k1, k2, k3⟩ := kp hb2 g hglr; have HO2 := Lib.hid ho2; have HB2 := Lib.hid hb2; clear ho2 hb2))
      go_roundw
      case rel =>
        refine ⟨k + 1, fun j => if j = k then .slice a2 128 cap2 else dvk j, by omega, by go_num, ?_, fun i hi => ?_, fun i hi => ?_, ?_⟩
        · rw [← putL_set]
          exact own_setN (own_keep HB2.out HR.out.row) _ _
        · by_cases e : i = k
          · subst e
            simp only [if_true]
            refine ownsRow_setCell_other (own_base_le HO2.out HR.out.out.size) (fun hb => ?_) _
            have h1 : wr.heap.size ≤ g := (HO2.out.lt _ hb).1
            omega
          · simp only [if_neg e]
            refine ownsRow_setCell_other (own_keep HB2.out (HR.out.new i (by omega))) (fun hb => ?_) _
            have h1 : w1.heap.size ≤ g := ((HR.out.new i (by omega)).lt _ hb).1
            have h2 := (HO1.out.lt g rfl).2
            omega
        · rw [if_neg (by omega)]
          exact HR.out.old i (by omega)
        · exact (HR.out.out.then HB2.out).setCell (p := ⟨g, k * 2 + 1, none⟩) (fun _ => rfl) _
      case measure => simp [intOf]; omega
    · obtain rfl : k = N := by omega
      go_wp2
      go_ret
      exact ⟨_, dvk, rfl, HR.out.row, fun i hi => own_base_le (HR.out.new i hi) HB1.out.size, HBW.out⟩
end Go.Proofs.Ytgkkmdebpekckaa
