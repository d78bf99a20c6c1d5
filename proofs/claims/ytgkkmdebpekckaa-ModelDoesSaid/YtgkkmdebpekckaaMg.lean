/- bytes.Equal. Conditions: the bytes are bytes. -/
import Derived.Test.YtgkkmdebpekckaaMf
import Derived.Laws.BytesArg
import Derived.Lib.Bytes
namespace Go.Proofs.Ytgkkmdebpekckaa
open Go.RowKit
/-- The first n of f are bytes. -/
def Lt (n : Nat) (f : Nat → Nat) : Prop := ∀ k, k < n → f k < 256
/-- Two byte lists read alike. -/
def eqB (n m : Nat) (f g : Nat → Nat) : Bool := decide (n = m ∧ ∀ k, k < n → f k = g k)
def strB (n : Nat) (f : Nat → Nat) : ByteArray := strOfNums ((List.range n).map fun k => (f k : Int))
theorem strB_list (n : Nat) (f : Nat → Nat) : (strB n f).toList = (List.range n).map fun k => UInt8.ofNat (f k) := by
  unfold strB
  rw [Lib.strOfNums_toList]
  simp [Lib.bytesOf]
theorem strB_eq (n m : Nat) (f g : Nat → Nat) (hf : Lt n f) (hg : Lt m g) : ((strB n f).toList == (strB m g).toList) = eqB n m f g := by
  have key : (strB n f).toList = (strB m g).toList ↔ (n = m ∧ ∀ k, k < n → f k = g k) := by
    constructor
    · intro h
      have h1 := h
      simp only [strB_list] at h1
      have hl := congrArg List.length h1
      simp only [List.length_map, List.length_range] at hl
      refine ⟨hl, fun k hk => ?_⟩
      have h2 := congrArg (fun l : List UInt8 => l[k]?) h1
      simp only [List.getElem?_map, List.getElem?_range hk, List.getElem?_range (show k < m by omega), Option.map_some, Option.some.injEq] at h2
      have h3 := congrArg UInt8.toNat h2
      simp only [UInt8.toNat_ofNat'] at h3
      have := hf k hk
      have := hg k (by omega)
      omega
    · rintro ⟨rfl, h⟩
      rw [strB_list, strB_list]
      apply List.map_congr_left
      intro k hk
      rw [h k (List.mem_range.1 hk)]
  rw [Bool.eq_iff_iff]
  simp only [beq_iff_eq, eqB, decide_eq_true_eq]
  exact key
theorem conv_bts {w : World} {v : Value} {n : Nat} {f : Nat → Nat} (h : Bts w v n f) : ∀ w', Below w.heap.size w w' → (convert 25 9 v).run Try.prog w' = .ok (.string (strB n f)) w' := by
  intro w' hb
  obtain ⟨a, cap, rfl, h⟩ := h
  by_cases hn : n = 0
  · subst hn
    cases a with
    | none => exact run_convert_bytes_nil w' 25 5 Try.underlying25 Try.underlying5 _ _ 9 Try.underlying9
    | some p =>
      have e := run_convert_bytes_string (P := Try.prog) w' 25 9 5 (some p) 0 cap Try.underlying25 Try.underlying5 Try.underlying9
      rw [e, run_bytesToString w' p 0 cap [] (run_loadCells_list (P := Try.prog) w' p [] (fun j v hj => by simp at hj))]
      rfl
  · rcases h with h | ⟨b, o, rfl, hc⟩
    · omega
    · refine run_convert_bytes_arg (P := Try.prog) w' 25 5 Try.underlying25 Try.underlying5 b o n cap ((List.range n).map fun k => (f k : Int)) (by simp) (fun i hi => ?_) 9 Try.underlying9
      rw [hb.cell (p := ⟨b, o + i, none⟩) (World.block_lt_of_cell? w _ (hc i hi)), hc i hi]
      simp [List.getD, hi]
set_option maxRecDepth 100000 in
theorem equal_any (v1 v2 : Value) (n m : Nat) (f g : Nat → Nat) (w : World) (h1 : Bts w v1 n f) (h2 : Bts w v2 m g) (hf : Lt n f) (hg : Lt m g) :
    Calls Try.prog 26 #[v1, v2] w fun e w' => e = .returned (.bool (eqB n m f g)) ∧ w' = w := by
  have c1 := conv_bts h1 w (Below.refl _ _)
  have c2 := conv_bts h2 w (Below.refl _ _)
  rw [← strB_eq n m f g hf hg]
  obtain ⟨s1, hs1⟩ : ∃ s1, strB n f = s1 := ⟨_, rfl⟩
  obtain ⟨s2, hs2⟩ : ∃ s2, strB m g = s2 := ⟨_, rfl⟩
  rw [hs1] at c1 ⊢
  rw [hs2] at c2 ⊢
  clear h1 h2 hs1 hs2 hf hg
  go_enter Try.func26, Try.ntmps26
  go_wp2
  go_ret
  exact ⟨rfl, rfl⟩
end Go.Proofs.Ytgkkmdebpekckaa
