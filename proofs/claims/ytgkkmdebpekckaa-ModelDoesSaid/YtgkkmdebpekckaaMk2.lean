/- check: whether a batch is taken. Conditions: as stated at each. -/
import Derived.Test.YtgkkmdebpekckaaMk
namespace Go.Proofs.Ytgkkmdebpekckaa
open Go.RowKit
theorem ArX.form {X : Nat → Prop} {w : World} {v : Value} {a : Ar} (h : ArX X w v a) : ∃ a0 cap, v = .slice a0 a.N cap := by
  obtain ⟨dv, ⟨a0, cap, e, _⟩, _⟩ := h
  exact ⟨a0, cap, e⟩
set_option maxRecDepth 100000 in
set_option maxHeartbeats 800000 in
theorem check_any (m n cN : Nat) (sv : Value) (aN : Option Addr) (mv lv wv : Value) (a : Ar) (v : Value) (w : World)
    (hm : w.heap[m]? = some (.cells #[sv, .slice aN (128 * n) cN, mv, lv, wv] 68 (0, 0))) (hn : n ≤ 61440) (h : ArX (fun _ => False) w v a) :
    Calls Try.prog 22 #[.pointer (some ⟨m, 0, none⟩), v] w fun e w' => e = .returned (.int .u16 (a.chk n)) ∧ Below w.heap.size w w' := by
  have hmz : m < w.heap.size := (Array.getElem?_eq_some_iff.1 hm).1
  obtain ⟨dv, hp, hd⟩ := h
  have HD : ∀ i, i < a.N → ∃ x l c, dv i = .slice x l c := fun i hi => by
    obtain ⟨x, c, e, _⟩ := hd i hi
    exact ⟨x, _, c, e⟩
  have HL : ∀ i, i < a.N → ∃ x c, dv i = .slice x (a.len i) c := fun i hi => by
    obtain ⟨x, c, e, _⟩ := hd i hi
    exact ⟨x, c, e⟩
  have hfo : ∃ a0 cap, v = .slice a0 a.N cap := by
    obtain ⟨a0, cap, e, _⟩ := hp
    exact ⟨a0, cap, e⟩
  by_cases h256 : 256 < a.N
  · have e0 : a.chk n = 1 := if_pos h256
    rw [e0]
    obtain ⟨a0, cap, rfl⟩ := hfo
    clear hp hd HD HL hm e0
    obtain ⟨N, hN⟩ : ∃ N, a.N = N := ⟨_, rfl⟩
    rw [hN] at h256 ⊢
    clear hN
    go_enter Try.func22, Try.ntmps22
    go_wp2
    go_ret
    exact ⟨rfl, bal (Below.refl _ _) _⟩
  · have hb0 : Below w.heap.size w (w.alloc (.cells #[.pointer (some ⟨m, 0, none⟩)] 29)) := bal (Below.refl _ _) _
    have C1 := Lib.hid (contains55_any v a.N a.bl dv (a.away n) (w.alloc (.cells #[.pointer (some ⟨m, 0, none⟩)] 29)) w.heap.size (hp.out (Out.of_below (S := fun _ => False) hb0) (fun _ _ h => h)) HD (by omega) (fun i hi w1 hb => by
      obtain ⟨x, c, e⟩ := HL i hi
      rw [e]
      exact none_any (a.bl i) x (a.len i) c w.heap.size m n cN sv aN mv lv wv w1 ((hb.block _ (by simp)).trans (heap_alloc_new w _)) ((hb.block m (by simp; omega)).trans ((Below.heap_alloc w _ m hmz).trans hm)) hn))
    have C2 := Lib.hid (fun (w2 : World) (hb2 : Below w.heap.size w w2) => contains56_any v a.N a.bl dv a.odd w2 (hp.out (Out.of_below (S := fun _ => False) hb2) (fun _ _ h => h)) HD (by omega) (fun i hi w1 hb => by
      obtain ⟨x, c, e⟩ := HL i hi
      rw [e]
      exact short_any (a.bl i) x (a.len i) c w1))
    have e0 : a.chk n = if anyB a.N (a.away n) then 3 else if anyB a.N a.odd then 4 else 0 := if_neg h256
    rw [e0]
    clear e0 hp hd HD HL hm
    obtain ⟨b1, hb1⟩ : ∃ b1, anyB a.N (a.away n) = b1 := ⟨_, rfl⟩
    obtain ⟨b2, hb2⟩ : ∃ b2, anyB a.N a.odd = b2 := ⟨_, rfl⟩
    rw [hb1] at C1 ⊢
    rw [hb2] at C2 ⊢
    clear hb1 hb2
    obtain ⟨a0, cap, rfl⟩ := hfo
    obtain ⟨N, hN⟩ : ∃ N, a.N = N := ⟨_, rfl⟩
    rw [hN] at h256 C1 C2 ⊢
    clear hN
    have h256' : ¬ (256 : Int) < (N : Int) := by omega
    clear h256
    cases b1
    · cases b2
      · go_enter Try.func22, Try.ntmps22
        go_wp2_with fail
        refine C1.out.mono ?_
        rintro e w2 ⟨rfl, hb⟩
        have HB := Lib.hid (hb0.trans (hb.mono (by simp)))
        clear hb C1
        go_wp2_with fail
        refine (C2.out w2 HB.out).mono ?_
        rintro e w3 ⟨rfl, hb⟩
        have HB3 := Lib.hid (HB.out.trans (hb.mono HB.out.size))
        clear hb C2
        go_wp2
        go_ret
        exact ⟨rfl, HB3.out⟩
      · go_enter Try.func22, Try.ntmps22
        go_wp2_with fail
        refine C1.out.mono ?_
        rintro e w2 ⟨rfl, hb⟩
        have HB := Lib.hid (hb0.trans (hb.mono (by simp)))
        clear hb C1
        go_wp2_with fail
        refine (C2.out w2 HB.out).mono ?_
        rintro e w3 ⟨rfl, hb⟩
        have HB3 := Lib.hid (HB.out.trans (hb.mono HB.out.size))
        clear hb C2
        go_wp2
        go_ret
        exact ⟨rfl, HB3.out⟩
    · go_enter Try.func22, Try.ntmps22
      go_wp2_with fail
      refine C1.out.mono ?_
      rintro e w2 ⟨rfl, hb⟩
      have HB := Lib.hid (hb0.trans (hb.mono (by simp)))
      clear hb C1
      go_wp2
      go_ret
      exact ⟨rfl, HB.out⟩
end Go.Proofs.Ytgkkmdebpekckaa
