/- The contracts of each, sum, Clone, Value, Nought. Conditions: as stated at each. -/
import Derived.Test.YtnjcnnjdogdbdaaXb
namespace Go.Proofs.Ytnjcnnjdogdbdaa
open Go.RowKit
/-- The exclusive or of the first i rows. -/
def acc (f0 : Nat → Nat) (h : Nat → Nat → Nat) : Nat → Nat → Nat
  | 0 => f0
  | i + 1 => xo (acc f0 h i) (h i)
/-- N rows of bytes. -/
structure Rows2 (w : World) (v : Value) (N : Nat) (rv : Nat → Value) (n : Nat → Nat) (h : Nat → Nat → Nat) : Prop where
  l : Rws w v N rv
  b : ∀ i, i < N → Bts w (rv i) (n i) (h i)
  lt : ∀ i, i < N → ∀ k, k < n i → h i k < 256
theorem Rows2.keep {w w1 : World} {v : Value} {N : Nat} {rv : Nat → Value} {n : Nat → Nat} {h : Nat → Nat → Nat} (H : Rows2 w v N rv n h) (hb : Below w.heap.size w w1) : Rows2 w1 v N rv n h :=
  ⟨H.l.keep hb, fun i hi => (H.b i hi).keep hb, H.lt⟩
theorem rowIn {w0 w : World} {v : Value} {n : Nat} {h : Nat → Nat} {sb g : Nat} (hB : Bts w0 v n h) (hlt : ∀ k, k < n → h k < 256) (hb : Below w0.heap.size w0 w) (hs : w0.heap.size ≤ sb) (hg : w0.heap.size ≤ g) : RowIn w v n h sb g := by
  obtain ⟨a, cap, rfl, hc⟩ := hB
  refine ⟨hlt, a, cap, rfl, ?_⟩
  rcases hc with rfl | ⟨b, o, rfl, hc⟩
  · exact .inl rfl
  · by_cases h0 : n = 0
    · exact .inl h0
    · have hl := World.block_lt_of_cell? w0 _ (hc 0 (by omega))
      simp at hl
      exact .inr ⟨b, o, rfl, by omega, by omega, fun k hk => by rw [hb.cell (p := ⟨b, o + k, none⟩) (World.block_lt_of_cell? w0 _ (hc k hk))]; exact hc k hk⟩
def EachP (N j sb g L : Nat) (a : Nat → Nat) (w : World) (e : Ending) (w' : World) : Prop :=
  e = .returned (.int .u16 (if j = N then 0 else 4)) ∧ (j = N → SumS w' sb g L a N) ∧ But sb g w w'
set_option maxHeartbeats 400000 in
theorem each_any (v : Value) (N : Nat) (rv : Nat → Value) (n : Nat → Nat) (h : Nat → Nat → Nat) (sb g L : Nat) (f0 : Nat → Nat) (w0 w : World) (hr : Rows2 w0 v N rv n h) (hb : Below w0.heap.size w0 w) (hs : w0.heap.size ≤ sb) (hg : w0.heap.size ≤ g) (hS : SumS w sb g L f0 0) (hL : L ≤ 200000) (hN : N ≤ 200000) (j : Nat) (hj : j ≤ N) (hjL : ∀ i, i < j → n i = L) (hend : j = N ∨ n j ≠ L) :
    Calls Try.prog 65 #[v, .func (.func 34) #[.pointer (some ⟨sb, 0, none⟩)] #[]] w (EachP N j sb g L (acc f0 h N) w) := by
  have HR := Lib.hid hr
  obtain ⟨a, cap, rfl, hl⟩ := hr.l
  have HB := Lib.hid hb
  have HS := Lib.hid hS
  have HJ := Lib.hid hjL
  have HL := Lib.hid hl
  clear hr hb hS hjL hl
  go_enter Try.func65, Try.ntmps65
  go_wp2
  go_loopw [10] (fun s10 wr => ∃ k : Nat, k ≤ j ∧ s10 = .int .i64 k ∧ SumS wr sb g L (acc f0 h k) k ∧ But sb g w wr) (fun s10 _ => N - (intOf s10).toNat)
  case atStart => exact ⟨0, by omega, rfl, HS.out, But.refl _ _ _⟩
  case round =>
    obtain ⟨k, hk, rfl, hSr, hBut⟩ := hrel
    have HSr := Lib.hid hSr
    have HBut := Lib.hid hBut
    have hwr : Below w0.heap.size w0 wr := HB.out.trans (hBut.below hs hg HB.out.size)
    have HW := Lib.hid hwr
    clear hSr hBut hwr
    by_cases hlt : k < N
    · rcases HL.out with h0 | ⟨b, o, rfl, hc⟩
      · omega
      have hcell : wr.cell? ⟨b, o + k, none⟩ = some (rv k) := by
        rw [HW.out.cell (p := ⟨b, o + k, none⟩) (World.block_lt_of_cell? w0 _ (hc k hlt))]; exact hc k hlt
      have hrow := rowIn (HR.out.b k hlt) (HR.out.lt k hlt) HW.out hs hg
      obtain ⟨av, capv, hv, -⟩ := HR.out.b k hlt
      rw [hv] at hrow hcell
      have Hrow := Lib.hid hrow
      clear hc hrow hv
      by_cases hkj : k < j
      · have e := HJ.out k hkj
        rw [e] at Hrow hcell
        go_wp2_with (first | (go_at_call 34; refine (add_ok _ (h k) sb g L (acc f0 h k) k _ HSr.out Hrow.out hL (by omega)).mono ?_; rintro e w1 ⟨rfl, hS1, hB1⟩))
        go_roundw
        case rel => exact ⟨k + 1, by omega, by go_num, hS1, HBut.out.trans hB1⟩
        case measure => simp [intOf]; omega
      · obtain rfl : k = j := by omega
        have hne : n k ≠ L := by rcases hend with h1 | h1; omega; exact h1
        go_wp2_with (first | (go_at_call 34; refine (add_bad _ (n k) (h k) sb g L (acc f0 h k) k _ HSr.out Hrow.out hne).mono ?_; rintro e w1 ⟨rfl, rfl⟩))
        go_ret
        refine ⟨ret_int ?_, fun e => by omega, HBut.out⟩
        rw [if_neg (by omega)]
    · obtain rfl : k = N := by omega
      obtain rfl : j = k := by omega
      go_wp2
      go_ret
      refine ⟨ret_int ?_, fun _ => HSr.out, HBut.out⟩
      rw [if_pos rfl]
end Go.Proofs.Ytnjcnnjdogdbdaa
