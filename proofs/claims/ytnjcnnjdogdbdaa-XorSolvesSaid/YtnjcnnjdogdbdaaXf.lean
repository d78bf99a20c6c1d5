/- The contracts of xor.Of and xor.Even. Conditions: as stated at each. -/
import Derived.Test.YtnjcnnjdogdbdaaXe
namespace Go.Proofs.Ytnjcnnjdogdbdaa
open Go.RowKit
def OwnP (L : Nat) (f : Nat → Nat) (w : World) (e : Ending) (w' : World) : Prop :=
  ∃ v, e = .returned (.tuple #[v, .int .u16 0]) ∧ w'.ownsRow w.heap.size 5 1 v L (bytesL L f) ∧ Below w.heap.size w w'
theorem own_base {w : World} {b b' : Nat} {e : TypeId} {sz : Nat} {v : Value} {n : Nat} {xs : List Value} (h : w.ownsRow b e sz v n xs) (hb : b' ≤ b) : w.ownsRow b' e sz v n xs := by
  obtain ⟨h1, h2⟩ := h
  refine ⟨h1, ?_⟩
  rcases h2 with h2 | ⟨g, cap, cur, hv, hg, r⟩
  · exact .inl h2
  · exact .inr ⟨g, cap, cur, hv, by omega, r⟩
theorem ownBts {w : World} {b : Nat} {v : Value} {N : Nat} {f : Nat → Nat} (h : w.ownsRow b 5 1 v N (bytesL N f)) : Bts w v N f := by
  obtain ⟨h1, h2⟩ := h
  rcases h2 with ⟨rfl, h0⟩ | ⟨g, cap, cur, rfl, hb, hg, hn, hm, hs, ht⟩
  · subst h0; exact ⟨none, 0, rfl, .inl rfl⟩
  · refine ⟨_, _, rfl, .inr ⟨g, 0, rfl, fun k hk => ?_⟩⟩
    rw [Nat.zero_add, cell_of_row w g k _ 5 (0, 0) hg]
    have := bytesL_get N f k hk
    rw [← ht, List.getElem?_take, if_pos (by omega)] at this
    simpa using this
def BadP (w : World) (n : Int) (e : Ending) (w' : World) : Prop := e = .returned (.tuple #[.slice none 0 0, .int .u16 n]) ∧ Below w.heap.size w w'
theorem ask_nil (a : Option Addr) (cap : Nat) (fn : Value) (w : World) : Calls Try.prog 41 #[.slice a 0 cap, fn] w (BadP w 1) := by
  go_enter Try.func41, Try.ntmps41
  go_wp2_with fail
  refine (sum_nil a cap _).mono ?_
  rintro e w' ⟨rfl, rfl⟩
  go_wp2
  go_ret2
  exact ⟨rfl, Below.refl _ _⟩
theorem of_nil (a : Option Addr) (cap : Nat) (w : World) : Calls Try.prog 14 #[.slice a 0 cap] w (BadP w 1) := by
  go_enter Try.func14, Try.ntmps14
  go_wp2_with fail
  refine (ask_nil a cap _ _).mono ?_
  rintro e w' ⟨rfl, hb⟩
  have HB := Lib.hid hb
  clear hb
  go_wp2
  go_ret2
  exact ⟨rfl, HB.out⟩
theorem of_bad (v : Value) (N : Nat) (rv : Nat → Value) (n : Nat → Nat) (h : Nat → Nat → Nat) (w : World) (hr : Rows2 w v N rv n h) (hL : n 0 ≤ 200000) (hN : N ≤ 200000) (j : Nat) (hj : j < N) (hjL : ∀ i, i < j → n i = n 0) (hne : n j ≠ n 0) :
    Calls Try.prog 14 #[v] w (BadP w 4) := by
  have hA : Calls Try.prog 41 #[v, .func (.func 37) #[] #[]] w (BadP w 4) := by
    obtain ⟨a, cap, rfl, hl⟩ := hr.l
    have HR := Lib.hid hr
    have HJ := Lib.hid hjL
    have HN := Lib.hid hne
    clear hr hl hjL hne
    go_enter Try.func41, Try.ntmps41
    go_wp2_with fail
    refine (sum_any _ N rv n h _ HR.out hL hN (by omega) j (by omega) HJ.out (.inr HN.out)).mono ?_
    rintro e w' ⟨he, hb⟩
    have HB := Lib.hid hb
    rcases he with ⟨he, _⟩ | ⟨_, rfl⟩
    · omega
    clear hb
    go_wp2
    go_ret2
    exact ⟨rfl, HB.out⟩
  have HA := Lib.hid hA
  obtain ⟨a, cap, rfl, hl⟩ := hr.l
  clear hA hr hl hjL hne
  go_enter Try.func14, Try.ntmps14
  go_wp2_with fail
  refine HA.out.mono ?_
  rintro e w' ⟨rfl, hb⟩
  have HB := Lib.hid hb
  clear hb
  go_wp2
  go_ret2
  exact ⟨rfl, HB.out⟩
theorem of_ok (v : Value) (N : Nat) (rv : Nat → Value) (n : Nat → Nat) (h : Nat → Nat → Nat) (L : Nat) (w : World) (hr : Rows2 w v N rv n h) (hL : L ≤ 200000) (hN : N ≤ 200000) (h0 : 0 < N) (hall : ∀ i, i < N → n i = L) :
    Calls Try.prog 14 #[v] w (OwnP L (acc (fun _ => 0) h N) w) := by
  have hn0 : n 0 = L := hall 0 h0
  have hA : Calls Try.prog 41 #[v, .func (.func 37) #[] #[]] w (OwnP L (acc (fun _ => 0) h N) w) := by
    obtain ⟨a, cap, rfl, hl⟩ := hr.l
    have HR := Lib.hid hr
    have HJ := Lib.hid hall
    have Hn := Lib.hid hn0
    clear hr hl hall hn0
    go_enter Try.func41, Try.ntmps41
    go_wp2_with fail
    refine (sum_any _ N rv n h _ HR.out (by rw [Hn.out]; exact hL) hN h0 N (Nat.le_refl _) (fun i hi => by rw [HJ.out i hi, Hn.out]) (.inl rfl)).mono ?_
    rintro e w1 ⟨he, hb⟩
    have HB := Lib.hid hb
    rcases he with ⟨_, sb, g, rfl, hS, hs, hg⟩ | ⟨he, _⟩
    · rw [Hn.out] at hS
      have HS := Lib.hid hS
      clear hb hS
      go_wp2_with fail
      refine (value_any sb g L _ N _ HS.out hL).mono ?_
      rintro e w' ⟨v', rfl, hown, hb'⟩
      have HO := Lib.hid hown
      have HB' := Lib.hid hb'
      clear hown hb'
      go_wp2
      go_ret2
      exact ⟨v', rfl, own_base HO.out HB.out.size, via HB.out HB'.out⟩
    · omega
  have HA := Lib.hid hA
  obtain ⟨a, cap, rfl, hl⟩ := hr.l
  clear hA hr hl hall hn0
  go_enter Try.func14, Try.ntmps14
  go_wp2_with fail
  refine HA.out.mono ?_
  rintro e w' ⟨v', rfl, hown, hb⟩
  have HO := Lib.hid hown
  have HB := Lib.hid hb
  clear hown hb
  go_wp2
  go_ret2
  exact ⟨v', rfl, HO.out, HB.out⟩
def EvP (w : World) (b : Bool) (n : Int) (e : Ending) (w' : World) : Prop := e = .returned (.tuple #[.bool b, .int .u16 n]) ∧ Below w.heap.size w w'
theorem even_of {v : Value} {w : World} {b : Bool} {n : Int} (hA : Calls Try.prog 42 #[v, .func (.func 39) #[] #[]] w (EvP w b n)) : Calls Try.prog 15 #[v] w (EvP w b n) := by
  have HA := Lib.hid hA
  clear hA
  go_enter Try.func15, Try.ntmps15
  go_wp2_with fail
  refine HA.out.mono ?_
  rintro e w' ⟨rfl, hb⟩
  have HB := Lib.hid hb
  clear hb
  go_wp2
  go_ret2
  exact ⟨rfl, HB.out⟩
theorem even_nil (a : Option Addr) (cap : Nat) (w : World) : Calls Try.prog 15 #[.slice a 0 cap] w (EvP w false 1) := by
  refine even_of ?_
  go_enter Try.func42, Try.ntmps42
  go_wp2_with fail
  refine (sum_nil a cap _).mono ?_
  rintro e w' ⟨rfl, rfl⟩
  go_wp2
  go_ret2
  exact ⟨rfl, Below.refl _ _⟩
theorem even_bad (v : Value) (N : Nat) (rv : Nat → Value) (n : Nat → Nat) (h : Nat → Nat → Nat) (w : World) (hr : Rows2 w v N rv n h) (hL : n 0 ≤ 200000) (hN : N ≤ 200000) (j : Nat) (hj : j < N) (hjL : ∀ i, i < j → n i = n 0) (hne : n j ≠ n 0) :
    Calls Try.prog 15 #[v] w (EvP w false 4) := by
  refine even_of ?_
  obtain ⟨a, cap, rfl, hl⟩ := hr.l
  have HR := Lib.hid hr
  have HJ := Lib.hid hjL
  have HN := Lib.hid hne
  clear hr hl hjL hne
  go_enter Try.func42, Try.ntmps42
  go_wp2_with fail
  refine (sum_any _ N rv n h _ HR.out hL hN (by omega) j (by omega) HJ.out (.inr HN.out)).mono ?_
  rintro e w' ⟨he, hb⟩
  have HB := Lib.hid hb
  rcases he with ⟨he, _⟩ | ⟨_, rfl⟩
  · omega
  clear hb
  go_wp2
  go_ret2
  exact ⟨rfl, HB.out⟩
theorem even_ok (v : Value) (N : Nat) (rv : Nat → Value) (n : Nat → Nat) (h : Nat → Nat → Nat) (L : Nat) (w : World) (hr : Rows2 w v N rv n h) (hL : L ≤ 200000) (hN : N ≤ 200000) (h0 : 0 < N) (hall : ∀ i, i < N → n i = L) :
    Calls Try.prog 15 #[v] w (EvP w (allZ L (acc (fun _ => 0) h N)) 0) := by
  have hn0 : n 0 = L := hall 0 h0
  refine even_of ?_
  obtain ⟨a, cap, rfl, hl⟩ := hr.l
  have HR := Lib.hid hr
  have HJ := Lib.hid hall
  have Hn := Lib.hid hn0
  clear hr hl hall hn0
  go_enter Try.func42, Try.ntmps42
  go_wp2_with fail
  refine (sum_any _ N rv n h _ HR.out (by rw [Hn.out]; exact hL) hN h0 N (Nat.le_refl _) (fun i hi => by rw [HJ.out i hi, Hn.out]) (.inl rfl)).mono ?_
  rintro e w1 ⟨he, hb⟩
  have HB := Lib.hid hb
  rcases he with ⟨_, sb, g, rfl, hS, hs, hg⟩ | ⟨he, _⟩
  · rw [Hn.out] at hS
    have HS := Lib.hid hS
    clear hb hS
    go_wp2_with fail
    refine (nought_any sb g L _ N _ HS.out hL).mono ?_
    rintro e w' ⟨rfl, rfl⟩
    go_wp2
    go_ret2
    exact ⟨rfl, HB.out⟩
  · omega
end Go.Proofs.Ytnjcnnjdogdbdaa
