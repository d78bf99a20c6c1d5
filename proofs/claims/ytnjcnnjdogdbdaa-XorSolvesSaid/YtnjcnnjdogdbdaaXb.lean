/- The contracts of Sum.Add, each, sum. Conditions: as stated at each. -/
import Derived.Test.YtnjcnnjdogdbdaaXa
namespace Go.Proofs.Ytnjcnnjdogdbdaa
open Go.RowKit
/-- The sum at block sb: its bytes f in block g, so many added. -/
structure SumS (w : World) (sb g L : Nat) (f : Nat → Nat) (many : Nat) : Prop where
  ne : sb ≠ g
  hs : w.heap[sb]? = some (.cells #[.slice (some ⟨g, 0, none⟩) L L, .int .i64 many] 92 (0, 0))
  hg : w.heap[g]? = some (.cells (arrB L f) 5 (0, 0))
  lt : ∀ k, k < L → f k < 256
theorem SumS.keep {w w1 : World} {sb g L : Nat} {f : Nat → Nat} {many : Nat} (h : SumS w sb g L f many) (hb : Below w.heap.size w w1) : SumS w1 sb g L f many :=
  ⟨h.ne, (hb.block _ (cr h.hs).2.2).trans h.hs, (hb.block _ (cr h.hg).2.2).trans h.hg, h.lt⟩
def xo (f h : Nat → Nat) (k : Nat) : Nat := f k ^^^ h k
theorem xo_lt {a b : Nat} (ha : a < 256) (hb : b < 256) : a ^^^ b < 256 := Nat.xor_lt_two_pow (n := 8) (by omega) (by omega)
/-- A row that is handed in: it lies in none of the sum's blocks. -/
def RowIn (w : World) (v : Value) (n : Nat) (h : Nat → Nat) (sb g : Nat) : Prop :=
  (∀ k, k < n → h k < 256) ∧ ∃ a cap, v = .slice a n cap ∧ (n = 0 ∨ ∃ b o, a = some ⟨b, o, none⟩ ∧ b ≠ sb ∧ b ≠ g ∧ ∀ k, k < n → w.cell? ⟨b, o + k, none⟩ = some (.int .u8 (h k)))
theorem add_bad (v : Value) (n : Nat) (h : Nat → Nat) (sb g L : Nat) (f : Nat → Nat) (many : Nat) (w : World) (hS : SumS w sb g L f many) (hr : RowIn w v n h sb g) (hne : n ≠ L) :
    Calls Try.prog 34 #[.pointer (some ⟨sb, 0, none⟩), v] w fun e w' => e = .returned (.int .u16 4) ∧ w = w' := by
  obtain ⟨-, a, cap, rfl, -⟩ := hr
  obtain ⟨c0, f0, z0⟩ := cr hS.hs
  clear hS
  have hb : ((n : Int) != (L : Int)) = true := by rw [bne_iff_ne]; omega
  go_enter Try.func34, Try.ntmps34
  go_wp2
  go_ret
  exact ⟨rfl, rfl⟩
set_option maxHeartbeats 400000 in
theorem add_ok (v : Value) (h : Nat → Nat) (sb g L : Nat) (f : Nat → Nat) (many : Nat) (w : World) (hS : SumS w sb g L f many) (hr : RowIn w v L h sb g) (hL : L ≤ 200000) (hm : many ≤ 200000) :
    Calls Try.prog 34 #[.pointer (some ⟨sb, 0, none⟩), v] w fun e w' => e = .returned (.int .u16 0) ∧ SumS w' sb g L (xo f h) (many + 1) ∧ But sb g w w' := by
  obtain ⟨hlt, a, cap, rfl, hr⟩ := hr
  obtain ⟨c0, f0, z0⟩ := cr hS.hs
  obtain ⟨-, -, zg⟩ := cr hS.hg
  have HS := Lib.hid hS
  have HR := Lib.hid hr
  have HL := Lib.hid hlt
  have hne := hS.ne
  clear hS hr hlt
  have hb : ((L : Int) != (L : Int)) = false := by simp
  go_enter Try.func34, Try.ntmps34
  go_wp2
  go_loopw [17] (fun s17 wr => ∃ k : Nat, k ≤ L ∧ s17 = .int .i64 k ∧ SumS wr sb g L (fun i => if i < k then f i ^^^ h i else f i) many ∧ But sb g w wr) (fun s17 _ => L - (intOf s17).toNat)
  case atStart => exact ⟨0, by omega, rfl, by simpa using HS.out, But.refl _ _ _⟩
  case round =>
    obtain ⟨k, hk, rfl, hSr, hB⟩ := hrel
    obtain ⟨c1, f1, z1⟩ := cr hSr.hs
    have HSr := Lib.hid hSr
    by_cases hlt : k < L
    · rcases HR.out with h0 | ⟨b, o, rfl, nb1, nb2, hc⟩
      · omega
      have d1 := hB.cell (hc k hlt) nb1 nb2
      have d2 := (cr hSr.hg).1 k
      rw [arrB_get _ _ _ hlt, if_neg (Nat.lt_irrefl k)] at d2
      have d3 := (cr hSr.hg).2.1 k
      have hx := xor_u8 (f k) (h k) (HS.out.lt k hlt) (HL.out k hlt)
      have HB := Lib.hid hB
      clear hSr hB hc
      go_wp2
      go_roundw
      case rel =>
        refine ⟨k + 1, by omega, by go_num, ⟨hne, ?_, ?_, ?_⟩, HB.out.setCell (.inr rfl) _⟩
        · rw [heap_setCell_other _ _ _ _ (by simpa using hne)]; exact HSr.out.hs
        · refine (heap_setCell_same _ _ _ _ _ _ HSr.out.hg).trans ?_
          rw [arrB_set]
          congr 2
          refine arrB_congr _ _ _ (fun x _ => ?_)
          by_cases e : x = k
          · subst e; rw [if_pos rfl, if_pos (by omega)]
          · rw [if_neg e]
            by_cases e2 : x < k
            · rw [if_pos e2, if_pos (by omega)]
            · rw [if_neg e2, if_neg (by omega)]
        · intro x hx
          show (if x < k + 1 then f x ^^^ h x else f x) < 256
          split
          · exact xo_lt (HS.out.lt x hx) (HL.out x hx)
          · exact HS.out.lt x hx
      case measure => simp [intOf]; omega
    · obtain rfl : k = L := by omega
      have HB := Lib.hid hB
      clear hSr hB
      go_wp2
      go_ret
      refine ⟨rfl, ⟨hne, ?_, ?_, ?_⟩, HB.out.setCell (.inl rfl) _⟩
      · refine (heap_setCell_same _ _ _ _ _ _ HSr.out.hs).trans ?_
        simp
      · rw [heap_setCell_other _ _ _ _ (by simpa using fun e => hne e.symm)]
        refine HSr.out.hg.trans ?_
        congr 2
        exact arrB_congr _ _ _ (fun x hx => by rw [if_pos hx]; rfl)
      · intro x hx
        exact xo_lt (HS.out.lt x hx) (HL.out x hx)
end Go.Proofs.Ytnjcnnjdogdbdaa
