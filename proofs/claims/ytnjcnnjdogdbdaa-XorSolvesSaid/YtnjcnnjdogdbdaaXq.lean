/- The reference's 'or' comes to the exclusive or. Conditions: as stated at each. -/
import Derived.Test.YtnjcnnjdogdbdaaXp
import Derived.Test.YtnjcnnjdogdbdaaBo
namespace Go.Proofs.Ytnjcnnjdogdbdaa
open Go.RowKit
/-- How many of the first i rows have the bit p at place k. -/
def par (h : Nat → Nat → Nat) (k p : Nat) : Nat → Nat
  | 0 => 0
  | i + 1 => par h k p i + h i k / p % 2
theorem par_le (h : Nat → Nat → Nat) (k p i : Nat) : par h k p i ≤ i := by
  induction i with
  | zero => simp [par]
  | succ i ih => have := Nat.mod_lt (h i k / p) (show 0 < 2 by omega); simp only [par]; omega
theorem xor_bit (a b j : Nat) : (a ^^^ b) / 2 ^ j % 2 = (a / 2 ^ j % 2 + b / 2 ^ j % 2) % 2 := by
  have e : ∀ x : Nat, x / 2 ^ j % 2 = (x.testBit j).toNat := fun x => by
    rw [Nat.testBit_eq_decide_div_mod_eq]
    have := Nat.mod_two_eq_zero_or_one (x / 2 ^ j)
    rcases this with h | h <;> simp [h]
  rw [e, e, e, Nat.testBit_xor]
  cases a.testBit j <;> cases b.testBit j <;> rfl
theorem par_acc (h : Nat → Nat → Nat) (k j i : Nat) : par h k (2 ^ j) i % 2 = acc (fun _ => 0) h i k / 2 ^ j % 2 := by
  induction i with
  | zero => simp [par, acc]
  | succ i ih =>
    simp only [par, acc, xo]
    rw [xor_bit]
    omega
theorem half (A p : Nat) : 2 * (A / (2 * p)) + A / p % 2 = A / p := by
  have : A / (2 * p) = A / p / 2 := by rw [Nat.mul_comm, Nat.div_div_eq_div_mul]
  omega
theorem pow_of (p : Nat) (h : p = 1 ∨ p = 2 ∨ p = 4 ∨ p = 8 ∨ p = 16 ∨ p = 32 ∨ p = 64 ∨ p = 128) : ∃ j, p = 2 ^ j := by
  rcases h with h | h | h | h | h | h | h | h
  · exact ⟨0, h⟩
  · exact ⟨1, h⟩
  · exact ⟨2, h⟩
  · exact ⟨3, h⟩
  · exact ⟨4, h⟩
  · exact ⟨5, h⟩
  · exact ⟨6, h⟩
  · exact ⟨7, h⟩
theorem acc_lt (h : Nat → Nat → Nat) (k : Nat) (i : Nat) (hl : ∀ r, r < i → h r k < 256) : acc (fun _ => 0) h i k < 256 := by
  induction i with
  | zero => simp [acc]
  | succ i ih => exact xo_lt (ih fun r hr => hl r (by omega)) (hl i (by omega))
def bits8 (p : Nat) : Prop := p = 1 ∨ p = 2 ∨ p = 4 ∨ p = 8 ∨ p = 16 ∨ p = 32 ∨ p = 64 ∨ p = 128
theorem bits8_half {p : Nat} (h : bits8 p) : p / 2 = 0 ∨ bits8 (p / 2) ∧ 2 * (p / 2) = p := by
  unfold bits8 at *; omega
theorem bits8_zero {p : Nat} (h : bits8 p) (h0 : p / 2 = 0) : p = 1 := by unfold bits8 at h; omega
theorem bits8_le {p : Nat} (h : bits8 p) : 0 < p ∧ p ≤ 128 := by unfold bits8 at h; omega
/-- Before the bit p (none is left: p is nought): what b holds of the byte A. -/
def BitAt (A : Nat) (p b : Nat) : Prop := (p = 0 ∧ b = A) ∨ (bits8 p ∧ b = A / (2 * p))
theorem BitAt.start (A : Nat) (h : A < 256) : BitAt A 128 0 := .inr ⟨by unfold bits8; omega, by rw [Nat.div_eq_of_lt h]⟩
theorem BitAt.next {h : Nat → Nat → Nat} {k N p b m : Nat} (hp : bits8 p) (hb : BitAt (acc (fun _ => 0) h N k) p b) (hm : m = par h k p N) : BitAt (acc (fun _ => 0) h N k) (p / 2) (2 * b + m % 2) := by
  have hp0 := (bits8_le hp).1
  have e : 2 * b + m % 2 = acc (fun _ => 0) h N k / p := by
    rcases hb with ⟨h0, _⟩ | ⟨_, hb⟩
    · omega
    · obtain ⟨j, hj⟩ := pow_of p hp
      rw [hm, hj, par_acc, hb, hj]
      exact half _ _
  rw [e]
  rcases bits8_half hp with h0 | ⟨h1, h2⟩
  · have := bits8_zero hp h0
    exact .inl ⟨h0, by rw [this, Nat.div_one]⟩
  · exact .inr ⟨h1, by rw [h2]⟩
theorem BitAt.lt {A p b : Nat} (h : BitAt A p b) (hA : A < 256) : b < 256 := by
  rcases h with ⟨_, rfl⟩ | ⟨_, rfl⟩
  · exact hA
  · exact Nat.lt_of_le_of_lt (Nat.div_le_self _ _) hA
theorem bytesL_snoc (n : Nat) (F : Nat → Nat) : bytesL n F ++ [.int .u8 (F n)] = bytesL (n + 1) F := by simp [bytesL, List.range_succ]
set_option maxRecDepth 100000 in
set_option maxHeartbeats 1000000 in
theorem or_any (v : Value) (N : Nat) (rv : Nat → Value) (n : Nat → Nat) (h : Nat → Nat → Nat) (L : Nat) (w : World) (hr : Rows2 w v N rv n h) (hL : L ≤ 200000) (hN : N ≤ 200000) (h0 : 0 < N) (hall : ∀ i, i < N → n i = L) :
    Calls Try.prog 44 #[v] w (CloneP L (acc (fun _ => 0) h N) w) := by
  obtain ⟨i0, hi, hz0, hz1, hz2⟩ := info_parts Try.info5
  have HR := Lib.hid hr
  obtain ⟨a, cap, rfl, hl⟩ := hr.l
  rcases hl with hl | ⟨b, o, rfl, hc⟩
  · omega
  have hcell : w.cell? ⟨b, o, none⟩ = some (rv 0) := hc 0 h0
  obtain ⟨av, capv, hv, -⟩ := hr.b 0 h0
  rw [hv, hall 0 h0] at hcell
  have HC := Lib.hid hc
  have HA := Lib.hid hall
  clear hr hc hv hall
  go_enter Try.func44, Try.ntmps44
  go_wp2
  go_loopw [3, 4] (fun s3 s4 wr => ∃ k : Nat, k ≤ L ∧ s4 = .int .i64 k ∧ wr.ownsRow w.heap.size 5 1 s3 k (bytesL k (acc (fun _ => 0) h N)) ∧ Below w.heap.size w wr) (fun _ s4 _ => L - (intOf s4).toNat)
  case atStart => exact ⟨0, by omega, rfl, World.ownsRow_nil _ _ _ _, Below.refl _ _⟩
  case round =>
    obtain ⟨k, hk, rfl, hown, hb⟩ := hrel
    have HO := Lib.hid hown
    have HB := Lib.hid hb
    clear hown hb
    obtain ⟨wo, rfl⟩ : ∃ wo : World, wo = wr := ⟨_, rfl⟩
    have hcell2 : wo.cell? ⟨b, o, none⟩ = some (.slice av L capv) := by
      rw [HB.out.cell (p := ⟨b, o, none⟩) (World.block_lt_of_cell? w _ hcell)]; exact hcell
    have HC0 := Lib.hid hcell
    clear hcell
    by_cases hlt : k < L
    · have HAl := Lib.hid (acc_lt h k N fun r hr => HR.out.lt r hr k (by rw [HA.out r hr]; exact hlt))
      generalize hAd : acc (fun _ => 0) h N k = A at *
      have HAd := Lib.hid hAd
      clear hAd
      go_wp2
      go_loop [5, 6] (fun s5 s6 => ∃ p q : Nat, p ≤ 128 ∧ q ≤ 255 ∧ s5 = .int .i64 q ∧ s6 = .int .i64 p ∧ Hid (BitAt A p q)) (fun _ s6 => (intOf s6).toNat)
      case atStart => exact ⟨128, 0, by omega, by omega, rfl, rfl, Lib.hid (BitAt.start A HAl.out)⟩
      case round =>
        obtain ⟨p, q, hp, hq, rfl, rfl, HBit⟩ := hrel
        by_cases hp0 : 0 < p
        · go_wp2
          go_loop [7, 8] (fun s7 s8 => ∃ i : Nat, i ≤ N ∧ s8 = .int .i64 i ∧ s7 = .int .i64 (par h k p i)) (fun _ s8 => N - (intOf s8).toNat)
          case atStart => exact ⟨0, by omega, rfl, rfl⟩
          case round =>
            obtain ⟨i, hi, rfl, rfl⟩ := hrel
            have hpl := par_le h k p i
            by_cases hli : i < N
            · obtain ⟨ar, cr', hrv, hcr⟩ := (HR.out.keep HB.out).b i hli
              have hce : wo.cell? ⟨b, o + i, none⟩ = some (rv i) := by
                rw [HB.out.cell (p := ⟨b, o + i, none⟩) (World.block_lt_of_cell? w _ (HC.out i hli))]; exact HC.out i hli
              rcases hcr with h1 | ⟨br, or', rfl, hcr⟩
              · have := HA.out i hli; omega
              rw [hrv, HA.out i hli] at hce
              have hck := hcr k (by rw [HA.out i hli]; exact hlt)
              obtain ⟨y, hy⟩ : ∃ y, h i k / p = y := ⟨_, rfl⟩
              have hx : h i k < 256 := HR.out.lt i hli k (by rw [HA.out i hli]; exact hlt)
              have hy2 : y ≤ 255 := by rw [← hy]; exact Nat.le_trans (Nat.div_le_self _ _) (by omega)
              have hd : ((h i k : Nat) : Int).tdiv (p : Int) = (y : Int) := by rw [← hy]; rfl
              have hp2 : ¬ (p : Int) = 0 := by omega
              have HY := Lib.hid hy
              clear hcr hy hrv
              go_wp2
              go_round
              case rel => exact ⟨i + 1, by omega, by go_num, by simp only [par]; rw [HY.out]; go_num⟩
              case measure => simp [intOf]; omega
            · obtain rfl : i = N := by omega
              obtain ⟨m, hm⟩ : ∃ m, par h k p i = m := ⟨_, rfl⟩
              rw [hm] at hpl ⊢
              have HM := Lib.hid hm
              clear hm
              have HN2 : Hid (p / 2 ≤ 128 ∧ 2 * q + m % 2 ≤ 255 ∧ BitAt A (p / 2) (2 * q + m % 2)) := by
                rcases HBit.out with ⟨h1, _⟩ | ⟨h1, h2⟩
                · omega
                · have e := HAd.out
                  have hn := BitAt.next (h := h) (k := k) (N := i) (p := p) (b := q) (m := m) h1 (by rw [e]; exact HBit.out) HM.out.symm
                  rw [e] at hn
                  have := hn.lt HAl.out
                  exact ⟨by omega, by omega, hn⟩
              have hb1 := HN2.out.2.1
              go_wp2
              go_round
              case rel => exact ⟨p / 2, 2 * q + m % 2, HN2.out.1, HN2.out.2.1, by go_num, by go_num, Lib.hid HN2.out.2.2⟩
              case measure => simp [intOf]; omega
        · obtain rfl : p = 0 := by omega
          have hqA : q = A := by
            rcases HBit.out with ⟨_, h2⟩ | ⟨h1, h2⟩
            · exact h2
            · have := bits8_le h1; omega
          subst hqA
          go_wp2_with (first | (at_builtin; refine wpList_append_own _ rfl _ _ 25 rfl w.heap.size 5 i0 (.int .u8 0) 1 1 Try.underlying25 hi hz0 hz1 hz2 rfl (by decide) _ k _ rfl (HO.out.alloc _) ⟨wo.heap.size, 0, none⟩ 1 1 [.int .u8 q] rfl rfl ?c1 ?c2 ?c3 ?c4 ?c5 ?_))
          case c2 => rfl
          case c3 => unfold maxLen; omega
          case c4 => omega
          case c5 => have := HB.out.size; simp; omega
          intro v' w' hown hgr _
          have hbel : Below w.heap.size w w' := (HB.out.alloc HB.out.size _).grown hgr (by have := HB.out.size; simp; omega) (fun k hk => (HO.out.lt k hk).1)
          have HO2 := Lib.hid hown
          have HB2 := Lib.hid hbel
          clear hown hgr hbel
          go_wp2
          go_roundw
          case rel => exact ⟨k + 1, by omega, by go_num, by rw [← bytesL_snoc, HAd.out]; exact HO2.out, HB2.out⟩
          case measure => simp [intOf]; omega
    · obtain rfl : k = L := by omega
      go_wp2
      go_ret
      exact ⟨_, rfl, HO.out, HB.out⟩
end Go.Proofs.Ytnjcnnjdogdbdaa
