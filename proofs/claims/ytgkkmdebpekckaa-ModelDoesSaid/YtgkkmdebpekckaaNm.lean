/- The reference's Write of a batch of no puts. Conditions: as stated. -/
import Derived.Test.YtgkkmdebpekckaaNl
namespace Go.Proofs.Ytgkkmdebpekckaa
open Go.RowKit Go.Shelf
set_option maxRecDepth 100000 in
set_option maxHeartbeats 800000 in
theorem rwrite_none (Z : Nat → Prop) (r n : Nat) (s : Rf) (v : Value) (a : Ar) (w : World) (h : RMdAt Z w r n s) (hn : n ≤ 61440) (hv : ArX (fun _ => False) w v a) (hc : a.chk n = 0) (h0 : a.N = 0) :
    Calls Try.prog 30 #[.pointer (some ⟨r, 0, none⟩), v] w fun e w' => e = .returned (.int .i64 0) ∧ Below w.heap.size w w' := by
  obtain ⟨gF, cF, lv, wv, bv, h⟩ := h
  have HT := Lib.hid (taken_any r n cF _ _ _ _ a v w h.blk hn hv)
  obtain ⟨va, vc, rfl⟩ := hv.form
  rw [hc] at HT
  rw [h0] at HT ⊢
  clear h hv hc h0
  go_enter Try.func30, Try.ntmps30
  go_wp2_with fail
  refine HT.out.mono ?_
  rintro e w1 ⟨rfl, hb⟩
  have HB := Lib.hid hb
  clear hb HT
  go_wp2_with fail
  go_ret
  exact ⟨rfl, HB.out⟩
end Go.Proofs.Ytgkkmdebpekckaa
