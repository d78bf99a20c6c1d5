/- Of, Even, Patch, Missing of rows of one length, each by its shape; 'known' returns true. Conditions: as stated at each. -/
import Derived.Test.YtnjcnnjdogdbdaaXi
namespace Go.Proofs.Ytnjcnnjdogdbdaa
open Go.RowKit
theorem Bts.form {w : World} {v : Value} {n : Nat} {f : Nat → Nat} (h : Bts w v n f) : ∃ a cap, v = .slice a n cap := by
  obtain ⟨a, cap, hv, -⟩ := h
  exact ⟨a, cap, hv⟩
theorem Bts.congr {w : World} {v : Value} {n : Nat} {f g : Nat → Nat} (h : Bts w v n f) (hfg : ∀ k, k < n → f k = g k) : Bts w v n g := by
  obtain ⟨a, cap, hv, h⟩ := h
  refine ⟨a, cap, hv, ?_⟩
  rcases h with h | ⟨b, o, ha, hc⟩
  · exact .inl h
  · exact .inr ⟨b, o, ha, fun k hk => by rw [← hfg k hk]; exact hc k hk⟩
theorem Bts.nil (w : World) (f : Nat → Nat) (a : Option Addr) (cap : Nat) : Bts w (.slice a 0 cap) 0 f := ⟨_, _, rfl, .inl rfl⟩
def sel2 {α : Type} (x y : α) (i : Nat) : α := if i = 0 then x else y
def sel3 {α : Type} (x y z : α) (i : Nat) : α := if i = 0 then x else if i = 1 then y else z
theorem two {p : Nat → Prop} (h0 : p 0) (h1 : p 1) : ∀ i, i < 2 → p i := fun i hi => by
  obtain rfl | rfl : i = 0 ∨ i = 1 := by omega
  · exact h0
  · exact h1
theorem three {p : Nat → Prop} (h0 : p 0) (h1 : p 1) (h2 : p 2) : ∀ i, i < 3 → p i := fun i hi => by
  obtain rfl | rfl | rfl : i = 0 ∨ i = 1 ∨ i = 2 := by omega
  · exact h0
  · exact h1
  · exact h2
/-- What comes out: its bytes, all below 256. -/
def Lt (n : Nat) (f : Nat → Nat) : Prop := ∀ k, k < n → f k < 256
theorem rows1 (w : World) (va : Value) (na : Nat) (fa : Nat → Nat) (ha : Bts w va na fa) (la : Lt na fa) : Rows2 (w.alloc (.cells #[va] 25)) (.slice (some ⟨w.heap.size, 0, none⟩) 1 1) 1 (fun _ => va) (fun _ => na) (fun _ => fa) :=
  ⟨⟨_, _, rfl, .inr ⟨_, 0, rfl, fun k hk => by
    obtain rfl : k = 0 := by omega
    rw [Nat.zero_add, cell_of_row _ _ _ _ 25 (0, 0) (heap_alloc_new w _)]; rfl⟩⟩, fun _ _ => ha.keep (by go_grown), fun _ _ => la⟩
theorem rows2 (w : World) (va vb : Value) (na nb : Nat) (fa fb : Nat → Nat) (ha : Bts w va na fa) (hb : Bts w vb nb fb) (la : Lt na fa) (lb : Lt nb fb) :
    Rows2 (w.alloc (.cells #[va, vb] 25)) (.slice (some ⟨w.heap.size, 0, none⟩) 2 2) 2 (sel2 va vb) (sel2 na nb) (sel2 fa fb) :=
  ⟨⟨_, _, rfl, .inr ⟨_, 0, rfl, fun k hk => by
    rw [Nat.zero_add, cell_of_row _ _ _ _ 25 (0, 0) (heap_alloc_new w _)]
    revert k hk
    exact two rfl rfl⟩⟩, two (ha.keep (by go_grown)) (hb.keep (by go_grown)), two la lb⟩
theorem rows3 (w : World) (va vb vc : Value) (na nb nc : Nat) (fa fb fc : Nat → Nat) (ha : Bts w va na fa) (hb : Bts w vb nb fb) (hc : Bts w vc nc fc) (la : Lt na fa) (lb : Lt nb fb) (lc : Lt nc fc) :
    Rows2 (w.alloc (.cells #[va, vb, vc] 25)) (.slice (some ⟨w.heap.size, 0, none⟩) 3 3) 3 (sel3 va vb vc) (sel3 na nb nc) (sel3 fa fb fc) :=
  ⟨⟨_, _, rfl, .inr ⟨_, 0, rfl, fun k hk => by
    rw [Nat.zero_add, cell_of_row _ _ _ _ 25 (0, 0) (heap_alloc_new w _)]
    revert k hk
    exact three rfl rfl rfl⟩⟩, three (ha.keep (by go_grown)) (hb.keep (by go_grown)) (hc.keep (by go_grown)), three la lb lc⟩
theorem acc1 (fa : Nat → Nat) : acc (fun _ => 0) (fun _ => fa) 1 = fa := by funext k; simp [acc, xo]
theorem acc2 (fa fb : Nat → Nat) : acc (fun _ => 0) (sel2 fa fb) 2 = xo fa fb := by funext k; simp [acc, xo, sel2]
theorem acc3 (fa fb fc : Nat → Nat) : acc (fun _ => 0) (sel3 fa fb fc) 3 = xo (xo fa fb) fc := by funext k; simp [acc, xo, sel3]
theorem xoLt {n : Nat} {f g : Nat → Nat} (hf : Lt n f) (hg : Lt n g) : Lt n (xo f g) := fun k hk => xo_lt (hf k hk) (hg k hk)
/-- A list of bytes that came out, and no error. -/
def NewB (L : Nat) (f : Nat → Nat) (w : World) (e : Ending) (w' : World) : Prop :=
  ∃ a cap, e = .returned (.tuple #[.slice a L cap, .int .u16 0]) ∧ Bts w' (.slice a L cap) L f ∧ Below w.heap.size w w'
theorem OwnP.new {L : Nat} {f : Nat → Nat} {w : World} {e : Ending} {w' : World} (h : OwnP L f w e w') : NewB L f w e w' := by
  obtain ⟨v, he, ho, hb⟩ := h
  have hB := ownBts ho
  obtain ⟨a, cap, rfl⟩ := hB.form
  exact ⟨a, cap, he, hB, hb⟩
theorem NewB.back {L : Nat} {f : Nat → Nat} {w w1 : World} {e : Ending} {w' : World} (h : NewB L f w1 e w') (hb : Below w.heap.size w w1) : NewB L f w e w' := by
  obtain ⟨a, cap, he, h, hb'⟩ := h
  exact ⟨a, cap, he, h, via hb hb'⟩
theorem OfP.ok {N L : Nat} {n : Nat → Nat} {h : Nat → Nat → Nat} {f : Nat → Nat} {w : World} {e : Ending} {w' : World} (H : OfP N n h w e w') (h0 : 0 < N) (hL : ∀ i, i < N → n i = L) (hf : acc (fun _ => 0) h N = f) : NewB L f w e w' := by
  rcases H with ⟨a, _⟩ | ⟨_, _, c⟩ | ⟨_, ⟨j, hj, hne⟩, _⟩
  · omega
  · rw [hf, hL 0 h0] at c
    exact c.new
  · rw [hL j hj, hL 0 h0] at hne
    exact absurd rfl hne
theorem of2 {w : World} {va vb : Value} {L : Nat} {fa fb : Nat → Nat} (hL : L ≤ 200000) (ha : Bts w va L fa) (hb : Bts w vb L fb) (la : Lt L fa) (lb : Lt L fb) :
    Calls Try.prog 14 #[.slice (some ⟨w.heap.size, 0, none⟩) 2 2] (w.alloc (.cells #[va, vb] 25)) (NewB L (xo fa fb) w) :=
  (of_any _ 2 _ _ _ _ (rows2 w va vb L L fa fb ha hb la lb) (two hL hL) (by omega)).mono fun e w' H => (H.ok (by omega) (two rfl rfl) (acc2 fa fb)).back (by go_grown)
theorem of3 {w : World} {va vb vc : Value} {L : Nat} {fa fb fc : Nat → Nat} (hL : L ≤ 200000) (ha : Bts w va L fa) (hb : Bts w vb L fb) (hc : Bts w vc L fc) (la : Lt L fa) (lb : Lt L fb) (lc : Lt L fc) :
    Calls Try.prog 14 #[.slice (some ⟨w.heap.size, 0, none⟩) 3 3] (w.alloc (.cells #[va, vb, vc] 25)) (NewB L (xo (xo fa fb) fc) w) :=
  (of_any _ 3 _ _ _ _ (rows3 w va vb vc L L L fa fb fc ha hb hc la lb lc) (three hL hL hL) (by omega)).mono fun e w' H => (H.ok (by omega) (three rfl rfl rfl) (acc3 fa fb fc)).back (by go_grown)
theorem EvenP.ok {N L : Nat} {n : Nat → Nat} {h : Nat → Nat → Nat} {f : Nat → Nat} {w w0 : World} {e : Ending} {w' : World} (H : EvenP N n h w e w') (h0 : 0 < N) (hL : ∀ i, i < N → n i = L) (hf : acc (fun _ => 0) h N = f) (hb : Below w0.heap.size w0 w) :
    e = .returned (.tuple #[.bool (allZ L f), .int .u16 0]) ∧ Below w0.heap.size w0 w' := by
  rcases H with ⟨a, _⟩ | ⟨_, _, c⟩ | ⟨_, ⟨j, hj, hne⟩, _⟩
  · omega
  · rw [hf, hL 0 h0] at c
    exact ⟨c.1, via hb c.2⟩
  · rw [hL j hj, hL 0 h0] at hne
    exact absurd rfl hne
theorem even1 {w : World} {va : Value} {L : Nat} {fa : Nat → Nat} (hL : L ≤ 200000) (ha : Bts w va L fa) (la : Lt L fa) :
    Calls Try.prog 15 #[.slice (some ⟨w.heap.size, 0, none⟩) 1 1] (w.alloc (.cells #[va] 25)) fun e w' => e = .returned (.tuple #[.bool (allZ L fa), .int .u16 0]) ∧ Below w.heap.size w w' :=
  (even_any _ 1 _ _ _ _ (rows1 w va L fa ha la) (fun _ _ => hL) (by omega)).mono fun e w' H => H.ok (by omega) (fun _ _ => rfl) (acc1 fa) (by go_grown)
theorem even2 {w : World} {va vb : Value} {L : Nat} {fa fb : Nat → Nat} (hL : L ≤ 200000) (ha : Bts w va L fa) (hb : Bts w vb L fb) (la : Lt L fa) (lb : Lt L fb) :
    Calls Try.prog 15 #[.slice (some ⟨w.heap.size, 0, none⟩) 2 2] (w.alloc (.cells #[va, vb] 25)) fun e w' => e = .returned (.tuple #[.bool (allZ L (xo fa fb)), .int .u16 0]) ∧ Below w.heap.size w w' :=
  (even_any _ 2 _ _ _ _ (rows2 w va vb L L fa fb ha hb la lb) (two hL hL) (by omega)).mono fun e w' H => H.ok (by omega) (two rfl rfl) (acc2 fa fb) (by go_grown)
theorem even3 {w : World} {va vb vc : Value} {L : Nat} {fa fb fc : Nat → Nat} (hL : L ≤ 200000) (ha : Bts w va L fa) (hb : Bts w vb L fb) (hc : Bts w vc L fc) (la : Lt L fa) (lb : Lt L fb) (lc : Lt L fc) :
    Calls Try.prog 15 #[.slice (some ⟨w.heap.size, 0, none⟩) 3 3] (w.alloc (.cells #[va, vb, vc] 25)) fun e w' => e = .returned (.tuple #[.bool (allZ L (xo (xo fa fb) fc)), .int .u16 0]) ∧ Below w.heap.size w w' :=
  (even_any _ 3 _ _ _ _ (rows3 w va vb vc L L L fa fb fc ha hb hc la lb lc) (three hL hL hL) (by omega)).mono fun e w' H => H.ok (by omega) (three rfl rfl rfl) (acc3 fa fb fc) (by go_grown)
theorem patch_ok {w : World} {va vb vc : Value} {L : Nat} {fa fb fc : Nat → Nat} (hL : L ≤ 200000) (ha : Bts w va L fa) (hb : Bts w vb L fb) (hc : Bts w vc L fc) (la : Lt L fa) (lb : Lt L fb) (lc : Lt L fc) :
    Calls Try.prog 24 #[va, vb, vc] w (NewB L (xo (xo fa fb) fc) w) :=
  (patch_any va vb vc (sel3 va vb vc) (fun _ => L) (sel3 fa fb fc) w rfl rfl rfl (three ha hb hc) (three la lb lc) (fun _ _ => hL)).mono fun e w' H => H.ok (by omega) (fun _ _ => rfl) (acc3 fa fb fc)
/-- Missing of three rows, the second of which is not there. -/
theorem missing3 {w : World} {va vb vc : Value} {L nb : Nat} {fa fb fc : Nat → Nat} (hL : L ≤ 200000) (hnb : nb ≤ 200000) (ha : Bts w va L fa) (hb : Bts w vb nb fb) (hc : Bts w vc L fc) (la : Lt L fa) (lb : Lt nb fb) (lc : Lt L fc) :
    Calls Try.prog 25 #[.slice (some ⟨w.heap.size, 0, none⟩) 3 3, .int .i64 1] (w.alloc (.cells #[va, vb, vc] 25)) (NewB L (xo fa fc) w) := by
  refine (missing_any w.heap.size 0 3 3 _ _ _ _ (rows3 w va vb vc L nb L fa fb fc ha hb hc la lb lc) 1 (by omega) (by omega) (three hL hnb hL) (by omega)).mono fun e w' H => (H.ok (by omega) (two rfl rfl) ?_).back (by go_grown)
  funext k
  simp [acc, xo, but, sel3]
theorem bts2 (w : World) (x y : Nat) : Bts (w.alloc (.cells #[.int .u8 x, .int .u8 y] 5)) (.slice (some ⟨w.heap.size, 0, none⟩) 2 2) 2 (sel2 x y) :=
  ⟨_, _, rfl, .inr ⟨_, 0, rfl, fun k hk => by
    rw [Nat.zero_add, cell_of_row _ _ _ _ 5 (0, 0) (heap_alloc_new w _)]
    revert k hk
    exact two rfl rfl⟩⟩
theorem lt2 {x y : Nat} (hx : x < 256) (hy : y < 256) : Lt 2 (sel2 x y) := two hx hy
set_option maxRecDepth 100000 in
set_option maxHeartbeats 800000 in
theorem known_true (w : World) : Calls Try.prog 20 #[] w fun e w' => e = .returned (.bool true) ∧ Below w.heap.size w w' := by
  have hlA : Lt 2 (sel2 1 2) := lt2 (by omega) (by omega)
  have hlB : Lt 2 (sel2 3 0) := lt2 (by omega) (by omega)
  have hlP : Lt 2 (xo (sel2 1 2) (sel2 3 0)) := xoLt hlA hlB
  have hlC : Lt 2 (sel2 255 0) := lt2 (by omega) (by omega)
  have HLA := Lib.hid hlA
  have HLB := Lib.hid hlB
  have HLP := Lib.hid hlP
  have HLC := Lib.hid hlC
  clear hlA hlB hlP hlC
  go_enter Try.func20, Try.ntmps20
  go_wp2_with fail
  have hA0 := (bts2 w 1 2).keep (w1 := (w.alloc (.cells #[.int .u8 1, .int .u8 2] 5)).alloc (.cells #[.int .u8 3, .int .u8 0] 5)) (bal (Below.refl _ _) _)
  have hB0 := bts2 (w.alloc (.cells #[.int .u8 1, .int .u8 2] 5)) 3 0
  have hb0 : Below w.heap.size w ((w.alloc (.cells #[.int .u8 1, .int .u8 2] 5)).alloc (.cells #[.int .u8 3, .int .u8 0] 5)) := by go_grown
  have hc := of2 (by omega) hA0 hB0 HLA.out HLB.out
  simp only [World.size_alloc] at hc
  refine hc.mono ?_
  clear hc
  rintro e w1 ⟨pa, pc, rfl, hP, hb⟩
  have hA := hA0.keep hb
  have hB := hB0.keep hb
  have hbw := via hb0 hb
  simp only [World.size_alloc] at hA hB
  clear hA0 hB0 hb hb0
  have HA := Lib.hid hA
  have HB := Lib.hid hB
  have HP := Lib.hid hP
  have HW := Lib.hid hbw
  clear hA hB hP hbw
  go_wp2_with fail
  have hk : Below w1.heap.size w1 (w1.alloc (.cells #[.int .u8 255, .int .u8 0] 5)) := by go_grown
  refine (patch_ok (by omega) (HP.out.keep hk) (HB.out.keep hk) (bts2 w1 255 0) HLP.out HLB.out HLC.out).mono ?_
  rintro e w2 ⟨qa, qc, rfl, hQ, hb⟩
  have hb2 := via hk hb
  have HA2 := Lib.hid (HA.out.keep hb2)
  have HB2 := Lib.hid (HB.out.keep hb2)
  have HP2 := Lib.hid (HP.out.keep hb2)
  have HQ2 := Lib.hid hQ
  have HW2 := Lib.hid (via HW.out hb2)
  clear hk hb hb2 HA HB HP hQ HW
  go_wp2_with fail
  refine (missing3 (by omega) (Nat.zero_le _) HA2.out (Bts.nil _ (fun _ => 0) _ _) HP2.out HLA.out (fun _ h => absurd h (Nat.not_lt_zero _)) HLP.out).mono ?_
  rintro e w3 ⟨ma, mc, rfl, hM, hb⟩
  have HA3 := Lib.hid (HA2.out.keep hb)
  have HB3 := Lib.hid (HB2.out.keep hb)
  have HP3 := Lib.hid (HP2.out.keep hb)
  have HQ3 := Lib.hid (HQ2.out.keep hb)
  have HM3 := Lib.hid hM
  have HW3 := Lib.hid (via HW2.out hb)
  clear hb HA2 HB2 HP2 HQ2 hM HW2
  go_wp2_with fail
  refine (even3 (by omega) HA3.out HB3.out HP3.out HLA.out HLB.out HLP.out).mono ?_
  have hz : allZ 2 (xo (xo (sel2 1 2) (sel2 3 0)) (xo (sel2 1 2) (sel2 3 0))) = true := by decide
  rw [hz]
  rintro e w4 ⟨rfl, hb⟩
  have HA4 := Lib.hid (HA3.out.keep hb)
  have HB4 := Lib.hid (HB3.out.keep hb)
  have HP4 := Lib.hid (HP3.out.keep hb)
  have HQ4 := Lib.hid (HQ3.out.keep hb)
  have HM4 := Lib.hid (HM3.out.keep hb)
  have HW4 := Lib.hid (via HW3.out hb)
  clear hb HA3 HB3 HP3 HQ3 HM3 HW3
  go_wp2_with fail
  have hk : Below w4.heap.size w4 (w4.alloc (.cells #[.int .u8 2, .int .u8 2] 5)) := by go_grown
  refine (same_V (by omega) (HP4.out.keep hk) ((bts2 w4 2 2).congr (two (by decide) (by decide)))).mono ?_
  rintro e w5 ⟨rfl, hb⟩
  have hb2 := via hk hb
  have HA5 := Lib.hid (HA4.out.keep hb2)
  have HB5 := Lib.hid (HB4.out.keep hb2)
  have HQ5 := Lib.hid (HQ4.out.keep hb2)
  have HM5 := Lib.hid (HM4.out.keep hb2)
  have HW5 := Lib.hid (via HW4.out hb2)
  clear hk hb hb2 HA4 HB4 HP4 HQ4 HM4 HW4
  go_wp2_with fail
  have hk : Below w5.heap.size w5 (w5.alloc (.cells #[.int .u8 254, .int .u8 2] 5)) := by go_grown
  refine (same_V (by omega) (HQ5.out.keep hk) ((bts2 w5 254 2).congr (two (by decide) (by decide)))).mono ?_
  rintro e w6 ⟨rfl, hb⟩
  have hb2 := via hk hb
  have HA6 := Lib.hid (HA5.out.keep hb2)
  have HB6 := Lib.hid (HB5.out.keep hb2)
  have HM6 := Lib.hid (HM5.out.keep hb2)
  have HW6 := Lib.hid (via HW5.out hb2)
  clear hk hb hb2 HA5 HB5 HQ5 HM5 HW5
  go_wp2_with fail
  refine (same_V (by omega) HM6.out (HB6.out.congr (two (by decide) (by decide)))).mono ?_
  rintro e w7 ⟨rfl, hb⟩
  have HA7 := Lib.hid (HA6.out.keep hb)
  have HW7 := Lib.hid (via HW6.out hb)
  clear hb HA6 HB6 HM6 HW6
  go_wp2_with fail
  have hk : Below w7.heap.size w7 (w7.alloc (.cells #[.int .u8 1, .int .u8 3] 5)) := by go_grown
  refine (first_any (by omega) (by omega) (HA7.out.keep hk) (bts2 w7 1 3)).mono ?_
  rintro e w8 ⟨he, hb⟩
  rw [show firstV 2 2 (sel2 1 2) (sel2 1 3) = 1 by decide] at he
  obtain rfl := he
  have HW8 := Lib.hid (via HW7.out (via hk hb))
  clear hb hk HA7 HW7
  go_wp2
  go_ret
  exact ⟨rfl, HW8.out⟩
end Go.Proofs.Ytnjcnnjdogdbdaa
