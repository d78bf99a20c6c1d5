/- WholePuts, SpoilPuts. Conditions: as stated at each. -/
import Derived.Test.YtgkkmdebpekckaaNb
namespace Go.Proofs.Ytgkkmdebpekckaa
open Go.RowKit
theorem LPs.cellAt {w : World} {B E g cap : Nat} {a : Ar} {dv : Nat → Value} (h : LPs w B E g cap a dv) {i : Nat} (hi : i < a.N) : w.cell? ⟨g, i * 2, none⟩ = some (.int .i64 (a.bl i)) ∧ w.cell? ⟨g, i * 2 + 1, none⟩ = some (dv i) := by
  have h1 := (own_cellN h.own (k := i * 2) (u := .int .i64 (a.bl i)) (by rw [List.getElem?_append_left (by rw [putL_len]; omega), putL_get _ _ _ _ (by omega), putC_bl])).1
  have h2 := (own_cellN h.own (k := i * 2 + 1) (u := dv i) (by rw [List.getElem?_append_left (by rw [putL_len]; omega), putL_get _ _ _ _ (by omega), putC_dv])).1
  exact ⟨h1, h2⟩
theorem LPs.marks {w : World} {B E g cap : Nat} {a : Ar} {dv : Nat → Value} (h : LPs w B E g cap a dv) {i : Nat} (h1 : a.N ≤ i) (h2 : i < a.N + 2) : w.cell? ⟨g, i * 2, none⟩ = some (.int .i64 (-77)) ∧ w.cell? ⟨g, i * 2 + 1, none⟩ = some (.slice none 0 0) := by
  obtain rfl | rfl : i = a.N ∨ i = a.N + 1 := by omega
  · exact ⟨(own_cellN h.own (by rw [List.getElem?_append_right (by rw [putL_len]; omega), putL_len, show a.N * 2 - a.N * 2 = 0 by omega]; rfl)).1, (own_cellN h.own (by rw [List.getElem?_append_right (by rw [putL_len]; omega), putL_len, show a.N * 2 + 1 - a.N * 2 = 1 by omega]; rfl)).1⟩
  · exact ⟨(own_cellN h.own (by rw [List.getElem?_append_right (by rw [putL_len]; omega), putL_len, show (a.N + 1) * 2 - a.N * 2 = 2 by omega]; rfl)).1, (own_cellN h.own (by rw [List.getElem?_append_right (by rw [putL_len]; omega), putL_len, show (a.N + 1) * 2 + 1 - a.N * 2 = 3 by omega]; rfl)).1⟩
theorem LPs.cap {w : World} {B E g cap : Nat} {a : Ar} {dv : Nat → Value} (h : LPs w B E g cap a dv) : a.N + 2 ≤ cap ∧ cap ≤ maxLen := by
  rcases h.own.2 with ⟨h, _⟩ | ⟨_, _, _, h, _, _, h2, h3, _⟩
  · cases h
  · cases h; exact ⟨h2, h3⟩
theorem quiet_add2 {P : Program} {f : FuncId} {args : Array Value} {w : World} {a n : Nat} {v : Value}
    (h : Calls P f args (w.drewN (a + n)) fun e w' => e = .returned v ∧ ∃ m, w' = (w.drewN (a + n)).drewN m) :
    Calls P f args (w.drewN (a + n)) fun e w'' => e = .returned v ∧ ∃ m, w'' = w.drewN (a + m) :=
  h.mono fun _ _ ⟨he, m, hm⟩ => ⟨he, n + m, by rw [hm, World.drewN_drewN, Nat.add_assoc]⟩
/-- What is lent, read as a batch outside the blocks X. -/
theorem LPs.at {X : Nat → Prop} {w : World} {B E g cap : Nat} {a : Ar} {dv : Nat → Value} (h : LPs w B E g cap a dv) (hX : ∀ k, B ≤ k → k < E → ¬ X k) : ArX X w (.slice (some ⟨g, 0, none⟩) a.N cap) a := by
  refine ⟨dv, ⟨_, _, rfl, .inr ⟨g, 0, rfl, hX g (h.own.lt g rfl).1 h.gE, fun i hi => ?_⟩⟩, fun i hi => ?_⟩
  · rw [Nat.zero_add]; exact h.cellAt hi
  · obtain ⟨gi, ci, e, ho⟩ := h.row i hi
    have h1 := h.lt i hi gi (by rw [e]; rfl)
    rw [e]
    exact ⟨_, _, rfl, .inr ⟨gi, 0, rfl, hX gi (ho.lt gi rfl).1 h1.1, fun k hk => by rw [Nat.zero_add]; exact (Lent.of ho).c k hk⟩⟩
set_option maxRecDepth 100000 in
set_option maxHeartbeats 400000 in
theorem whole_q (g n cap : Nat) (f : Nat → Nat) (va : Value) (w : World) (hn : n ≤ 140737488351232) (hl : Lent w g n cap f) (ha : Bts w va n f) :
    Calls Try.prog 36 #[.slice (some ⟨g, 0, none⟩) n cap, va] w fun e w' => e = .returned (.bool true) ∧ ∃ q, w' = w.drewN q := by
  obtain ⟨aa, ca, rfl, -⟩ := id ha
  have HA := Lib.hid ha
  have HB := Lib.hid hl.bts
  have c0 := hl.m0
  have c1 := hl.m1
  have c2 := hl.cap
  clear hl ha
  have hw2 : IntKind.i64.wrap ((n : Int) + 2) = ((n + 2 : Nat) : Int) := by go_arith
  have hw1 : IntKind.i64.wrap ((n : Int) + 1) = ((n + 1 : Nat) : Int) := by go_arith
  have h3 : ¬ cap < n + 2 := by omega
  go_enter Try.func36, Try.ntmps36
  go_wp2_with (first | (go_at_call 14; refine (same_Q _ _ n n f f _ HB.out HA.out (by omega)).mono ?_; rintro e w1 ⟨rfl, dq, rfl⟩; rw [eqB_true (fun _ _ => rfl)]))
  go_ret
  exact ⟨rfl, dq, rfl⟩
set_option maxRecDepth 100000 in
set_option maxHeartbeats 1000000 in
theorem whole_puts (X : Nat → Prop) (B E g cap : Nat) (v : Value) (a : Ar) (dv : Nat → Value) (w : World) (h : LPs w B E g cap a dv) (hv : ArX X w v a) (hN : a.N ≤ 1000000) (hl : ∀ i, i < a.N → a.len i ≤ 140737488351232) :
    Calls Try.prog 32 #[.slice (some ⟨g, 0, none⟩) a.N cap, v] w fun e w' => e = .returned (.bool true) ∧ Below w.heap.size w w' := by
  obtain ⟨dv0, ⟨aa, ac, rfl, hc⟩, hd⟩ := hv
  have HC := Lib.hid hc
  have HD := Lib.hid hd
  have HLn := Lib.hid hl
  have HL := Lib.hid h
  have hcap := h.cap.1
  have hmax := h.cap.2
  unfold maxLen at hmax
  clear hc hd hl h
  obtain ⟨N, hNN⟩ : ∃ N, a.N = N := ⟨_, rfl⟩
  rw [hNN] at HC HD HLn hN hcap ⊢
  have HNN := Lib.hid hNN
  have hwn : IntKind.i64.wrap ((N : Int) + 2) = ((N + 2 : Nat) : Int) := by go_arith
  have hcap' : ¬ cap < N + 2 := by omega
  clear hNN
  go_enter Try.func32, Try.ntmps32
  go_wp2_with fail
  go_loop [6] (fun s6 => ∃ k : Nat, N ≤ k ∧ k ≤ N + 2 ∧ s6 = .int .i64 k) (fun s6 => N + 2 - (intOf s6).toNat)
  case atStart => exact ⟨N, Nat.le_refl _, by omega, rfl⟩
  case round =>
    obtain ⟨k, hk1, hk2, rfl⟩ := hrel
    by_cases hlt : k < N + 2
    · obtain ⟨c1, c2⟩ := HL.out.marks (i := k) (by rw [HNN.out]; exact hk1) (by rw [HNN.out]; exact hlt)
      have i1 : (0 : Int) ≤ (k : Int) := by omega
      have i2 : (k : Int) < ((N : Int) + 2) := by omega
      go_wp2_with fail
      go_round
      case rel => exact ⟨k + 1, by omega, by omega, by go_num⟩
      case measure => simp [intOf]; omega
    · obtain rfl : k = N + 2 := by omega
      go_wp2_with fail
      go_loopw [7] (fun s7 wr => ∃ i q : Nat, i ≤ N ∧ s7 = .int .i64 i ∧ wr = w.drewN q) (fun s7 _ => N - (intOf s7).toNat)
      case atStart => exact ⟨0, 0, Nat.zero_le _, rfl, rfl⟩
      case round =>
        obtain ⟨i, q, hi, rfl, rfl⟩ := hrel
        by_cases hlt : i < N
        · obtain ⟨c1, c2⟩ := HL.out.cellAt (i := i) (by rw [HNN.out]; exact hlt)
          rcases HC.out with h0 | ⟨ob, oo, rfl, -, hc⟩
          · omega
          obtain ⟨p1, p2⟩ := hc i hlt
          obtain ⟨da, dc, hdv, hdd⟩ := HD.out i hlt
          have hbt : Bts w (.slice da (a.len i) dc) (a.len i) (a.f i) := by
            have h1 : Bts w (dv0 i) (a.len i) (a.f i) := (HD.out i hlt).bts
            rwa [hdv] at h1
          obtain ⟨gi, ci, hgi, hoi⟩ := HL.out.row i (by rw [HNN.out]; exact hlt)
          rw [hgi] at c2
          rw [hdv] at p2
          have HWh : Hid (∀ d, Calls Try.prog 36 #[.slice (some ⟨gi, 0, none⟩) (a.len i) ci, .slice da (a.len i) dc] (w.drewN d) fun e w' => e = .returned (.bool true) ∧ ∃ m, w' = (w.drewN d).drewN m) := fun d =>
            whole_q gi (a.len i) ci (a.f i) _ (w.drewN d) (HLn.out i hlt) ((Lent.of hoi).keep (bdn (Below.refl _ _) _)) (hbt.keep (bdn (Below.refl _ _) _))
          have i1 : (0 : Int) ≤ (i : Int) := by omega
          have i2 : (i : Int) < (N : Int) := by omega
          have hbe : (a.bl i != a.bl i) = false := by simp
          clear hc hdv hdd hbt hgi hoi hlt
          go_wp2_with fail
          go_quiet ((go_at_call 36; exact quiet_add2 (HWh.out _)))
          go_wp2_with fail
          go_roundw
          case rel => exact ⟨i + 1, _, by omega, by go_num, rfl⟩
          case measure => simp [intOf]; omega
        · obtain rfl : i = N := by omega
          go_wp2
          go_ret
          exact ⟨rfl, bdn (Below.refl _ _) _⟩
def SpoilPP (B E : Nat) (w : World) (e : Ending) (w' : World) : Prop := e = .returned (.tuple #[]) ∧ Out (fun k => B ≤ k ∧ k < E) w w'
set_option maxRecDepth 100000 in
set_option maxHeartbeats 1000000 in
theorem spoil_puts (B E g cap : Nat) (a : Ar) (dv : Nat → Value) (w : World) (h : LPs w B E g cap a dv) (hN : a.N ≤ 1000000) :
    Calls Try.prog 33 #[.slice (some ⟨g, 0, none⟩) a.N cap] w (SpoilPP B E w) := by
  have hcap := h.cap.1
  have hmax := h.cap.2
  unfold maxLen at hmax
  have hgB := (h.own.lt g rfl).1
  have hgE := h.gE
  have hblk : Blk w g (cap * 2) 47 := by
    rcases h.own.2 with ⟨hv, _⟩ | ⟨_, _, cur, hv, _, hg, h1, h2, h3, _⟩
    · cases hv
    · cases hv; exact ⟨cur, hg, by omega⟩
  have hrow : ∀ i, i < a.N → ∃ gi c, dv i = .slice (some ⟨gi, 0, none⟩) (a.len i) c ∧ a.len i ≤ c ∧ c ≤ maxLen ∧ B ≤ gi ∧ gi < E ∧ gi ≠ g ∧ Blk w gi c 5 := fun i hi => by
    obtain ⟨gi, c, e, ho2⟩ := h.row i hi
    obtain ⟨h1, h2, h3⟩ := own_blk ho2
    have h4 := h.lt i hi gi (by rw [e]; rfl)
    exact ⟨gi, c, e, by omega, h3, (ho2.lt gi rfl).1, h4.1, h4.2, h1⟩
  have hcell : ∀ i, i < a.N → w.cell? ⟨g, i * 2 + 1, none⟩ = some (dv i) := fun i hi => (h.cellAt hi).2
  have HR := Lib.hid hrow
  have HC := Lib.hid hcell
  have HX := Lib.hid hblk
  have HgB := Lib.hid (And.intro hgB hgE)
  clear h hrow hcell hblk hgB hgE
  obtain ⟨N, hNN⟩ : ∃ N, a.N = N := ⟨_, rfl⟩
  rw [hNN] at HR HC hN hcap ⊢
  clear hNN
  go_enter Try.func33, Try.ntmps33
  go_wp2_with fail
  go_loopw [2] (fun s2 wr => ∃ i : Nat, i ≤ N ∧ s2 = .int .i64 i ∧ Hid ((∀ r gg c, r < N → dv r = .slice (some ⟨gg, 0, none⟩) (a.len r) c → Blk wr gg c 5) ∧ Out (fun k => B ≤ k ∧ k < E ∧ k ≠ g) w wr)) (fun s2 _ => N - (intOf s2).toNat)
  case atStart =>
    refine ⟨0, by omega, rfl, fun r gg c hr e => ?_, Out.refl _ _⟩
    obtain ⟨g2, c2, e2, _, _, _, _, _, hb⟩ := HR.out r hr
    rw [e] at e2
    cases e2
    exact hb
  case round =>
    obtain ⟨i, hi, rfl, HI⟩ := hrel
    by_cases hlt : i < N
    · have hcell : wr.cell? ⟨g, i * 2 + 1, none⟩ = some (dv i) := by
        rw [World.cell?_of_block (HI.out.2.block g (World.block_lt_of_cell? w _ (HC.out i hlt)) fun ⟨_, _, e⟩ => e rfl)]; exact HC.out i hlt
      obtain ⟨gi, c, e, h1, h2, h3, h4, h5, _⟩ := HR.out i hlt
      have hb := HI.out.1 i gi c hlt e
      rw [e] at hcell
      have HBb := Lib.hid hb
      have HG := Lib.hid (show B ≤ gi ∧ gi < E ∧ gi ≠ g from ⟨h3, h4, h5⟩)
      have i1 : (0 : Int) ≤ (i : Int) := by omega
      have i2 : (i : Int) < (N : Int) := by omega
      clear e hb h3 h4 h5
      go_wp2_with fail
      refine (spoil_bytes gi (a.len i) c _ HBb.out h2).mono ?_
      rintro e w1 ⟨rfl, hb, ho⟩
      have HB1 := Lib.hid hb
      have HO1 := Lib.hid ho
      clear hb ho
      go_wp2_with fail
      go_roundw
      case rel =>
        refine ⟨i + 1, by omega, by go_num, fun r g' c' hr e => ?_, HI.out.2.tr (HO1.out.mono fun k _ e => e ▸ HG.out)⟩
        by_cases e2 : g' = gi
        · subst e2
          obtain ⟨cur, q1, q2⟩ := HI.out.1 r g' c' hr e
          obtain ⟨cur2, q3, q4⟩ := HBb.out
          rw [q1] at q3
          cases q3
          rw [← q2, q4]
          exact HB1.out
        · obtain ⟨cur, q1, q2⟩ := HI.out.1 r g' c' hr e
          exact ⟨cur, HO1.out.heap q1 e2, q2⟩
      case measure => simp [intOf]; omega
    · obtain rfl : i = N := by omega
      obtain ⟨curx, q1, q2⟩ := HX.out
      have hbx2 : Blk wr g (cap * 2) 47 := ⟨curx, HI.out.2.heap q1 fun ⟨_, _, e⟩ => e rfl, q2⟩
      have HX2 := Lib.hid hbx2
      have HO2 := Lib.hid (show Out (fun k => B ≤ k ∧ k < E) w wr from HI.out.2.mono fun _ _ h => ⟨h.1, h.2.1⟩)
      clear q1 q2 hbx2
      go_wp2_with fail
      go_loopw [4] (fun s4 wr => ∃ k : Nat, k ≤ cap ∧ s4 = .int .i64 k ∧ Hid (Blk wr g (cap * 2) 47 ∧ Out (fun k => B ≤ k ∧ k < E) w wr)) (fun s4 _ => cap - (intOf s4).toNat)
      case atStart => exact ⟨0, Nat.zero_le _, rfl, HX2.out, HO2.out⟩
      case round =>
        obtain ⟨k, hk, rfl, HK⟩ := hrel
        by_cases hlt : k < cap
        · obtain ⟨⟨u, d1⟩, d2⟩ := HK.out.1.cell (k := k * 2) (by omega)
          obtain ⟨⟨u', d3⟩, d4⟩ := HK.out.1.cell (k := k * 2 + 1) (by omega)
          have i1 : (0 : Int) ≤ (k : Int) := by omega
          have i2 : (k : Int) < (cap : Int) := by omega
          go_wp2_with fail
          go_roundw
          case rel => exact ⟨k + 1, by omega, by go_num, (HK.out.1.set _ _ _).set _ _ _, (HK.out.2.setCell (p := ⟨g, k * 2, none⟩) (fun _ => HgB.out) _).setCell (p := ⟨g, k * 2 + 1, none⟩) (fun _ => HgB.out) _⟩
          case measure => simp [intOf]; omega
        · obtain rfl : k = cap := by omega
          go_wp2_with fail
          go_end0
          exact ⟨rfl, HK.out.2⟩
end Go.Proofs.Ytgkkmdebpekckaa
