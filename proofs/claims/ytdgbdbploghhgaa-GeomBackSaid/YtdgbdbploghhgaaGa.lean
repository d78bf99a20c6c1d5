/- The contracts of geom.Check and geom.of: what they return, and that they leave old memory as it was. Conditions: none. -/
import Derived.Test.YtdgbdbploghhgaaRows
import Derived.WalkKit
import Derived.Lib.Hide
import Derived.Deep.QuietTactic
import Derived.BigQuiet
import Derived.Deep.RegionHeld3
import Derived.Deep.DeepCutAuto
namespace Go.Proofs.Ytdgbdbploghhgaa
open Go.RowKit
abbrev G (m c s : Int) : Value := .agg #[.int .i64 m, .int .i64 c, .int .i64 s]
abbrev Sh (m c s d : Int) : Value := .agg #[.int .i64 m, .int .i64 c, .int .i64 s, .int .i64 d]
theorem bcell {W w1 : World} (hb : Below W.heap.size W w1) : (∀ b o, b < W.heap.size → w1.cell? ⟨b, o, none⟩ = W.cell? ⟨b, o, none⟩) ∧ (∀ b o, b < W.heap.size → w1.frozen? ⟨b, o, none⟩ = W.frozen? ⟨b, o, none⟩) :=
  ⟨fun b o h => hb.cell (p := ⟨b, o, none⟩) h, fun b o h => hb.frozen (p := ⟨b, o, none⟩) h⟩
theorem ws (m : Int) (h : 3 ≤ m ∧ m ≤ 16) : wrap64 (m - 1) = m - 1 := IntWalk.wrap64_in _ ⟨by omega, by omega⟩

theorem check_ok (m c s : Int) (w : World) (h : 3 ≤ m ∧ m ≤ 16 ∧ 1 ≤ c ∧ c ≤ 16 ∧ 1 ≤ s ∧ s ≤ 256) :
    Calls Try.prog 11 #[G m c s] w fun e w' => e = .returned (.int .u16 0) ∧ Below w.heap.size w w' := by
  obtain ⟨h1, h2, h3, h4, h5, h6⟩ := h
  go_enter Try.func11, Try.ntmps11
  go_wp2
  go_ret
  exact ⟨rfl, (Below.refl _ _).alloc (Nat.le_refl _) _⟩
theorem check_bad1 (m c s : Int) (w : World) (h : ¬ (3 ≤ m ∧ m ≤ 16)) :
    Calls Try.prog 11 #[G m c s] w fun e w' => e = .returned (.int .u16 60) ∧ Below w.heap.size w w' := by
  by_cases h1 : 3 ≤ m
  · have h2 : ¬ m ≤ 16 := by omega
    clear h
    go_enter Try.func11, Try.ntmps11
    go_wp2
    go_ret
    exact ⟨rfl, (Below.refl _ _).alloc (Nat.le_refl _) _⟩
  · clear h
    go_enter Try.func11, Try.ntmps11
    go_wp2
    go_ret
    exact ⟨rfl, (Below.refl _ _).alloc (Nat.le_refl _) _⟩
theorem check_bad2 (m c s : Int) (w : World) (h0 : 3 ≤ m ∧ m ≤ 16) (h : ¬ (1 ≤ c ∧ c ≤ 16)) :
    Calls Try.prog 11 #[G m c s] w fun e w' => e = .returned (.int .u16 60) ∧ Below w.heap.size w w' := by
  obtain ⟨h3, h4⟩ := h0
  by_cases h1 : 1 ≤ c
  · have h2 : ¬ c ≤ 16 := by omega
    clear h
    go_enter Try.func11, Try.ntmps11
    go_wp2
    go_ret
    exact ⟨rfl, (Below.refl _ _).alloc (Nat.le_refl _) _⟩
  · clear h
    go_enter Try.func11, Try.ntmps11
    go_wp2
    go_ret
    exact ⟨rfl, (Below.refl _ _).alloc (Nat.le_refl _) _⟩
theorem check_bad3 (m c s : Int) (w : World) (h0 : 3 ≤ m ∧ m ≤ 16) (h0' : 1 ≤ c ∧ c ≤ 16) (h : ¬ (1 ≤ s ∧ s ≤ 256)) :
    Calls Try.prog 11 #[G m c s] w fun e w' => e = .returned (.int .u16 60) ∧ Below w.heap.size w w' := by
  obtain ⟨h3, h4⟩ := h0
  obtain ⟨h5, h6⟩ := h0'
  by_cases h1 : 1 ≤ s
  · have h2 : ¬ s ≤ 256 := by omega
    clear h
    go_enter Try.func11, Try.ntmps11
    go_wp2
    go_ret
    exact ⟨rfl, (Below.refl _ _).alloc (Nat.le_refl _) _⟩
  · clear h
    go_enter Try.func11, Try.ntmps11
    go_wp2
    go_ret
    exact ⟨rfl, (Below.refl _ _).alloc (Nat.le_refl _) _⟩
theorem check_bad (m c s : Int) (w : World) (h : ¬ (3 ≤ m ∧ m ≤ 16 ∧ 1 ≤ c ∧ c ≤ 16 ∧ 1 ≤ s ∧ s ≤ 256)) :
    Calls Try.prog 11 #[G m c s] w fun e w' => e = .returned (.int .u16 60) ∧ Below w.heap.size w w' := by
  by_cases h1 : 3 ≤ m ∧ m ≤ 16
  · by_cases h2 : 1 ≤ c ∧ c ≤ 16
    · exact check_bad3 m c s w h1 h2 (by omega)
    · exact check_bad2 m c s w h1 h2
  · exact check_bad1 m c s w h1
theorem of_any (m c s : Int) (k : Int) (w : World) (hc : ∀ w, Calls Try.prog 11 #[G m c s] w fun e w' => e = .returned (.int .u16 k) ∧ Below w.heap.size w w') :
    Calls Try.prog 30 #[G m c s] w fun e w' => e = .returned (.tuple #[Sh m c s (wrap64 (m - 1)), .int .u16 k]) ∧ Below w.heap.size w w' := by
  have H := Lib.hid hc
  clear hc
  go_enter Try.func30, Try.ntmps30
  go_wp2
  go_region_held3 (fun w' => w'.cell? ⟨w.heap.size, 0, none⟩ = some (.int .i64 m) ∧ w'.cell? ⟨w.heap.size, 1, none⟩ = some (.int .i64 c) ∧ w'.cell? ⟨w.heap.size, 2, none⟩ = some (.int .i64 s)) (first | go_keep | (simp [hc, go_sem]; done))
    (first | (go_at_call 11; refine (H.out _).mono ?_; rintro e w1 ⟨rfl, hb⟩; obtain ⟨hc, hf⟩ := bcell hb))
  rename_i w1 hb _
  go_wp2
  obtain ⟨hc, hf⟩ := bcell hb
  refine bodyPost_ret (v := .tuple #[Sh m c s (wrap64 (m - 1)), .int .u16 k]) (by simp [results, Try.results30, go_sem, hc, IntWalk.i64_left]) rfl ⟨rfl, ?_⟩
  have hbb := ((((Below.refl w.heap.size w).alloc (Nat.le_refl _) (.cells #[.int .i64 m, .int .i64 c, .int .i64 s] 23)).alloc (by simp) (.cells #[.int .i64 0, .int .i64 0, .int .i64 0, .int .i64 0] 76)).drew).trans (hb.mono (by simp [go_sem]; omega))
  exact (((hbb.setCell (p := ⟨w.heap.size + 1, 0, none⟩) (by simp) _).setCell (by simp) _).setCell (by simp) _).setCell (by simp) _
theorem of_ok (m c s : Int) (w : World) (h : 3 ≤ m ∧ m ≤ 16 ∧ 1 ≤ c ∧ c ≤ 16 ∧ 1 ≤ s ∧ s ≤ 256) :
    Calls Try.prog 30 #[G m c s] w fun e w' => e = .returned (.tuple #[Sh m c s (m - 1), .int .u16 0]) ∧ Below w.heap.size w w' := by
  have := of_any m c s 0 w (fun w => check_ok m c s w h)
  rw [ws m (by omega)] at this
  exact this
theorem of_bad (m c s : Int) (w : World) (h : ¬ (3 ≤ m ∧ m ≤ 16 ∧ 1 ≤ c ∧ c ≤ 16 ∧ 1 ≤ s ∧ s ≤ 256)) :
    Calls Try.prog 30 #[G m c s] w fun e w' => e = .returned (.tuple #[Sh m c s (wrap64 (m - 1)), .int .u16 60]) ∧ Below w.heap.size w w' :=
  of_any m c s 60 w (fun w => check_bad m c s w h)
end Go.Proofs.Ytdgbdbploghhgaa
