/- The reference's Under and Write of a batch that is not taken. Conditions: as stated at each. -/
import Derived.Test.YtgkkmdebpekckaaNk
namespace Go.Proofs.Ytgkkmdebpekckaa
open Go.RowKit Go.Shelf
set_option maxRecDepth 100000 in
set_option maxHeartbeats 800000 in
theorem runder_bad (Z : Nat → Prop) (r n : Nat) (s : Rf) (v : Value) (a : Ar) (w : World) (h : RMdAt Z w r n s) (hn : n ≤ 61440) (hv : ArX (fun _ => False) w v a) (hc : a.chk n ≠ 0) :
    Calls Try.prog 31 #[.pointer (some ⟨r, 0, none⟩), v] w fun e w' => e = .returned (.int .i64 (a.chk n)) ∧ Below w.heap.size w w' := by
  obtain ⟨gF, cF, lv, wv, bv, h⟩ := h
  have HT := Lib.hid (taken_any r n cF _ _ _ _ a v w h.blk hn hv)
  obtain ⟨z, hz⟩ : ∃ z, a.chk n = z := ⟨_, rfl⟩
  rw [hz] at HT hc ⊢
  clear h hv hz
  go_enter Try.func31, Try.ntmps31
  go_wp2_with fail
  refine HT.out.mono ?_
  rintro e w1 ⟨rfl, hb⟩
  have HB := Lib.hid hb
  clear hb HT
  go_wp2_with fail
  go_ret
  exact ⟨rfl, HB.out⟩
set_option maxRecDepth 100000 in
set_option maxHeartbeats 800000 in
theorem rwrite_bad (Z : Nat → Prop) (r n : Nat) (s : Rf) (v : Value) (a : Ar) (w : World) (h : RMdAt Z w r n s) (hn : n ≤ 61440) (hv : ArX (fun _ => False) w v a) (hc : a.chk n ≠ 0) :
    Calls Try.prog 30 #[.pointer (some ⟨r, 0, none⟩), v] w fun e w' => e = .returned (.int .i64 (a.chk n)) ∧ Below w.heap.size w w' := by
  obtain ⟨gF, cF, lv, wv, bv, h⟩ := h
  have HT := Lib.hid (taken_any r n cF _ _ _ _ a v w h.blk hn hv)
  obtain ⟨va, vc, rfl⟩ := hv.form
  obtain ⟨z, hz⟩ : ∃ z, a.chk n = z := ⟨_, rfl⟩
  rw [hz] at HT hc ⊢
  clear h hv hz
  go_enter Try.func30, Try.ntmps30
  go_wp2_with fail
  refine HT.out.mono ?_
  rintro e w1 ⟨rfl, hb⟩
  have HB := Lib.hid hb
  clear hb HT
  have hd : (z == 0) = false := by simpa using hc
  have hd2 : decide (z = 0) = false := by simpa using hc
  go_wp2_with fail
  go_ret
  exact ⟨rfl, HB.out⟩
end Go.Proofs.Ytgkkmdebpekckaa
