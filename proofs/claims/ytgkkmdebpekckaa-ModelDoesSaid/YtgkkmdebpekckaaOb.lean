/- The contract of the test that lists are their owner's (function 43). Conditions: as stated at each. -/
import Derived.Test.YtgkkmdebpekckaaOw
import Derived.Test.YtgkkmdebpekckaaRows
import Derived.WalkLawsBesides
import Derived.BigQuiet
namespace Go.Proofs.Ytgkkmdebpekckaa
open Go.RowKit
theorem own43_zero (a : Option Addr) (cap : Nat) (w : World) : Calls Try.prog 43 #[.slice a 0 cap] w fun e w' => e = .returned (.bool true) ∧ Below w.heap.size w w' := by
  go_enter Try.func43, Try.ntmps43
  go_wp2
  refine wp_loop_rounds 1 ?_
  rw [rounds_succ]
  go_wp2
  refine wp_loop_rounds 1 ?_
  rw [rounds_succ]
  go_wp2
  refine wp_loop_rounds 1 ?_
  rw [rounds_succ]
  go_wp2
  go_ret
  exact ⟨rfl, Below.refl _ _⟩
def OwnRel (b N : Nat) (v : Nat → Value) (S : Nat → Prop) (w0 wr : World) : Prop := (∀ i, i < N → wr.cell? ⟨b, i, none⟩ = some (v i)) ∧ Out S w0 wr
def mk43 (i k : Nat) : Int := ((i : Int) * 97 + (k : Int) * 13) % 256
def ml43 (i k : Nat) : Int := ((-1 - (i : Int)) * 97 + (k : Int) * 13) % 256
theorem own43_i0 : (Try.prog.info? 5).map (fun i => (i.zero, i.size, i.bytes)) = some (some (.int .u8 0), 1, 1) := by kernel_rfl
theorem own43_i1 : (Try.prog.info? 25).map (fun i => (i.zero, i.size, i.bytes)) = some (some (.slice none 0 0), 1, 24) := by kernel_rfl
set_option maxRecDepth 100000 in
set_option maxHeartbeats 1000000 in
theorem own43_any (b N cap : Nat) (v : Nat → Value) (n : Nat → Nat) (F : Nat → Nat → Int) (w : World) (h0 : 0 < N) (hN : N ≤ 1000000) (hc : ∀ i, i < N → w.cell? ⟨b, i, none⟩ = some (v i)) (hb : ∀ i, i < N → (v i).ownBlock ≠ some b)
    (hR : Rs .u8 5 w N v n F) (hA : Apart N v) (hn : ∀ i, i < N → n i ≤ 1099511627776) :
    Calls Try.prog 43 #[.slice (some ⟨b, 0, none⟩) N cap] w fun e w' => e = .returned (.bool true) ∧ Out (fun k => ∃ r, r < N ∧ (v r).ownBlock = some k) w w' := by
  have HC := Lib.hid hc
  have HB := Lib.hid hb
  have HR := Lib.hid hR
  have HA := Lib.hid hA
  have HN := Lib.hid hn
  clear hc hb hR hA hn
  go_enter Try.func43, Try.ntmps43
  go_wp2
  go_loopw [3] (fun s3 wr => ∃ (i : Nat) (G : Nat → Nat → Int), i ≤ N ∧ s3 = .int .i64 i ∧ Rs .u8 5 wr N v n G ∧ (∀ r q, r < i → q < n r → G r q = mk43 r q) ∧ Out (fun k => ∃ r, r < N ∧ (v r).ownBlock = some k) w wr) (fun s3 _ => N - (intOf s3).toNat)
  case atStart => exact ⟨0, F, by omega, rfl, HR.out, fun _ _ h => by omega, Out.refl _ _⟩
  case round =>
    obtain ⟨i, G, hi, rfl, hG, hGm, hO⟩ := hrel
    have HG := Lib.hid hG
    have HGm := Lib.hid hGm
    have HO := Lib.hid hO
    clear hG hGm hO
    obtain ⟨wo, rfl⟩ : ∃ wo : World, wo = wr := ⟨_, rfl⟩
    by_cases hlt : i < N
    · have hcell : wo.cell? ⟨b, i, none⟩ = some (v i) := by
        rw [World.cell?_of_block (HO.out.block b (World.block_lt_of_cell? w _ (HC.out i hlt)) fun ⟨r, hr, e⟩ => HB.out r hr e)]; exact HC.out i hlt
      obtain ⟨a, cp, hv, hcp, ha⟩ := HG.out.form hlt
      rw [hv] at hcell
      have HV := Lib.hid hv
      have HNi := HN.out i hlt
      have HAA := Lib.hid ha
      clear hv ha
      generalize hm : n i = m at *
      have HM := Lib.hid hm
      clear hm
      go_wp2
      go_loopw [4] (fun s4 wr => ∃ (k : Nat) (G2 : Nat → Nat → Int), k ≤ m ∧ s4 = .int .i64 k ∧ Rs .u8 5 wr N v n G2 ∧ (∀ r q, r < i → q < n r → G2 r q = mk43 r q) ∧ (∀ q, q < k → G2 i q = mk43 i q) ∧ Out (fun k => ∃ r, r < N ∧ (v r).ownBlock = some k) w wr) (fun s4 _ => m - (intOf s4).toNat)
      case atStart => exact ⟨0, G, by omega, rfl, HG.out, HGm.out, fun _ h => by omega, HO.out⟩
      case round =>
        obtain ⟨k, G2, hk, rfl, hG, hGm, hGk, hO⟩ := hrel
        have HG2 := Lib.hid hG
        have HGm2 := Lib.hid hGm
        have HGk := Lib.hid hGk
        have HO2 := Lib.hid hO
        clear hG hGm hGk hO hcell
        have hcell : wr.cell? ⟨b, i, none⟩ = some (.slice a m cp) := by
          rw [World.cell?_of_block (HO2.out.block b (World.block_lt_of_cell? w _ (HC.out i hlt)) fun ⟨r, hr, e⟩ => HB.out r hr e), HC.out i hlt, HV.out]
        by_cases hlk : k < m
        · rcases HAA.out with h | ⟨g, rfl⟩
          · omega
          have hvi : v i = .slice (some ⟨g, 0, none⟩) (n i) cp := by rw [HM.out]; exact HV.out
          obtain ⟨d1, d2⟩ := HG2.out.cell hlt hvi (by rw [HM.out]; exact hlk)
          have HVI := Lib.hid hvi
          clear hvi
          go_wp2
          go_roundw
          case rel =>
            refine ⟨k + 1, fun r q => if r = i ∧ q = k then mk43 i k else G2 r q, by omega, by go_num, HG2.out.set HA.out hlt HVI.out _, fun r q hr hq => ?_, fun q hq => ?_, HO2.out.setCell (fun _ => ⟨i, hlt, by rw [HV.out]; rfl⟩) _⟩
            · show (if r = i ∧ q = k then mk43 i k else G2 r q) = _
              rw [if_neg (by omega)]
              exact HGm2.out r q hr hq
            · show (if i = i ∧ q = k then mk43 i k else G2 i q) = _
              by_cases e : q = k
              · subst e; rw [if_pos ⟨rfl, rfl⟩]
              · rw [if_neg (fun h => e h.2)]; exact HGk.out q (by omega)
          case measure => simp [intOf]; omega
        · obtain rfl : k = m := by omega
          go_wp2
          go_roundw
          case rel =>
            refine ⟨i + 1, G2, by omega, by go_num, HG2.out, fun r q hr hq => ?_, HO2.out⟩
            by_cases e : r = i
            · subst e; exact HGk.out q (by rw [← HM.out]; exact hq)
            · exact HGm2.out r q (by omega) hq
          case measure => simp [intOf]; omega
    · obtain rfl : i = N := by omega
      have hR1 : Rs .u8 5 wo i v n mk43 := HG.out.congr HGm.out
      have hL : L2 .u8 5 wo wo 25 i v v n mk43 ml43 0 (.slice none 0 0) :=
        ⟨hR1, fun r hr k hk => ((hR1 r hr).lt k hk).2, fun _ h => by omega, fun _ h => by omega, World.ownsRow_nil _ _ _ _, fun k hk => (by cases hk), Out.refl _ _⟩
      have HL := Lib.hid hL
      clear hR1 hL
      obtain ⟨i0, hi0, hz0, hz1, hz2⟩ := info_parts own43_i0
      obtain ⟨i1, hi1, hy0, hy1, hy2⟩ := info_parts own43_i1
      go_wp2
      go_loopw [5, 6] (fun s5 s6 wr => ∃ (j : Nat) (U : Nat → Value), j ≤ i ∧ s6 = .int .i64 j ∧ L2 .u8 5 wo wr 25 i v U n mk43 ml43 j s5) (fun _ s6 _ => i - (intOf s6).toNat)
      case atStart => exact ⟨0, v, by omega, rfl, HL.out⟩
      case round =>
        obtain ⟨j, U, hj, rfl, hL2⟩ := hrel
        have HL2 := Lib.hid hL2
        clear hL2
        obtain ⟨wm, rfl⟩ : ∃ wm : World, wm = wr := ⟨_, rfl⟩
        by_cases hlt : j < i
        · have hcell : wm.cell? ⟨b, j, none⟩ = some (v j) := by
            have hOo := HL2.out.out
            have h1 : wo.cell? ⟨b, j, none⟩ = some (v j) := by
              rw [World.cell?_of_block (HO.out.block b (World.block_lt_of_cell? w _ (HC.out j hlt)) fun ⟨r, hr, e⟩ => HB.out r hr e)]; exact HC.out j hlt
            rw [World.cell?_of_block (hOo.block b (World.block_lt_of_cell? wo _ h1) fun ⟨r, hr, e⟩ => HB.out r hr e)]; exact h1
          obtain ⟨a, cp, hv, hcp, ha⟩ := HL2.out.own.form hlt
          rw [hv] at hcell
          have HV := Lib.hid hv
          have HNj := HN.out j hlt
          have HI := Lib.hid (In.start (L := ml43) HL2.out.own hlt)
          rw [hv] at HI
          clear hv ha
          go_wp2
          go_loopw [7, 8] (fun s7 s8 wr => ∃ q : Nat, q ≤ 16 ∧ s8 = .int .i64 q ∧ In .u8 5 wm wr v n mk43 ml43 j q s7) (fun _ s8 _ => 16 - (intOf s8).toNat)
          case atStart => exact ⟨0, by omega, rfl, HI.out⟩
          case round =>
            obtain ⟨q, hq, rfl, hI2⟩ := hrel
            have HI2 := Lib.hid hI2
            clear hI2
            by_cases hlq : q < 16
            · go_wp2_with (first | (at_builtin; refine wpList_append_two _ rfl _ _ 25 rfl 0 5 i0 (.int .u8 0) 1 1 Try.underlying25 hi0 hz0 hz1 hz2 rfl (by decide) _ (n j + q) _ rfl (HI2.out.row.alloc _) ⟨wr.heap.size, 0, none⟩ 1 1 [.int .u8 (ml43 j q)] rfl rfl ?c1 ?c2 ?c3 ?c4 ?c5 (Nat.zero_le _) ?_))
              case c1 =>
                intro q u hq
                have e : (⟨wr.heap.size, 0, none⟩ : Addr).add q = ⟨wr.heap.size, q, none⟩ := by unfold Addr.add; split <;> simp_all
                rw [e, cell_of_row _ _ _ _ 5 (0, 0) (heap_alloc_new _ _)]
                simpa [ml43] using hq
              case c2 =>
                intro u hu
                rw [List.mem_singleton.1 hu]
                rfl
              case c3 => omega
              case c4 => unfold maxLen; omega
              case c5 => omega
              intro v' w' hown htwo
              have HI3 := Lib.hid (HI2.out.step hown htwo)
              clear hown htwo
              go_wp2
              go_roundw
              case rel => exact ⟨q + 1, by omega, by go_num, HI3.out⟩
              case measure => simp [intOf]; omega
            · obtain rfl : q = 16 := by omega
              have HLo := Lib.hid (HL2.out.longAt hlt HI2.out)
              obtain ⟨xa, xc, rfl, -, -⟩ := own_form HI2.out.row
              go_wp2_with (first | (at_builtin; refine wpList_append_two _ rfl _ _ 35 rfl wo.heap.size 25 i1 (.slice none 0 0) 1 24 Try.underlying35 hi1 hy0 hy1 hy2 rfl (by decide) _ j _ rfl (HLo.out.alloc _) ⟨wr.heap.size, 0, none⟩ 1 1 [.slice xa (n j + 16) xc] rfl rfl ?c1 ?c2 ?c3 ?c4 ?c5 ?c6 ?_))
              case c1 =>
                intro q u hq
                have e : (⟨wr.heap.size, 0, none⟩ : Addr).add q = ⟨wr.heap.size, q, none⟩ := by unfold Addr.add; split <;> simp_all
                rw [e, cell_of_row _ _ _ _ 25 (0, 0) (heap_alloc_new _ _)]
                simpa using hq
              case c2 =>
                intro u hu
                rw [List.mem_singleton.1 hu]
                rfl
              case c3 => omega
              case c4 => unfold maxLen; omega
              case c5 => omega
              case c6 => have h1 := HL2.out.out.size; have h2 := HI2.out.out.size; simp; omega
              intro v' w' hown htwo
              have HL3 := Lib.hid (HL2.out.next HA.out hlt HI2.out hown htwo)
              clear hown htwo
              go_wp2
              go_roundw
              case rel => exact ⟨j + 1, _, by omega, by go_num, HL3.out⟩
              case measure => simp [intOf]; omega
        · obtain rfl : j = i := by omega
          obtain ⟨xa, xc, rfl, hxc, hxa⟩ := own_form HL2.out.long
          rcases hxa with h | ⟨lb, rfl⟩
          · omega
          have hvc : ∀ r, r < j → wm.cell? ⟨b, r, none⟩ = some (v r) := fun r hr => by
            have hOo := HL2.out.out
            have h1 : wo.cell? ⟨b, r, none⟩ = some (v r) := by
              rw [World.cell?_of_block (HO.out.block b (World.block_lt_of_cell? w _ (HC.out r hr)) fun ⟨r, hr, e⟩ => HB.out r hr e)]; exact HC.out r hr
            rw [World.cell?_of_block (hOo.block b (World.block_lt_of_cell? wo _ h1) fun ⟨r, hr, e⟩ => HB.out r hr e)]; exact h1
          have hlc : ∀ r, r < j → wm.cell? ⟨lb, r, none⟩ = some (U r) := fun r hr => (own_cell HL2.out.long (by simp [hr])).1
          have HVC := Lib.hid hvc
          have HLC := Lib.hid hlc
          have HFin := Lib.hid (HO.out.tr HL2.out.out)
          clear hvc hlc
          go_wp2
          go_loopw [9] (fun s9 wr => ∃ r c : Nat, r ≤ j ∧ s9 = .int .i64 r ∧ wr = wm.drewN c) (fun s9 _ => j - (intOf s9).toNat)
          case atStart => exact ⟨0, 0, by omega, rfl, rfl⟩
          case round =>
            obtain ⟨r, c, hr, rfl, rfl⟩ := hrel
            by_cases hlt : r < j
            · have e1 := HVC.out r hlt
              have e2 := HLC.out r hlt
              obtain ⟨a1, c1, hv, -, ha1⟩ := HL2.out.own.form hlt
              obtain ⟨a2, c2, hu, -, ha2⟩ := own_form (HL2.out.new r hlt)
              rcases ha2 with h | ⟨g2, rfl⟩
              · omega
              have hR := HL2.out.own r hlt
              have hU := HL2.out.new r hlt
              rw [hv] at e1 hR
              rw [hu] at e2 hU
              have hRc : ∀ g, a1 = some ⟨g, 0, none⟩ → ∀ k, k < n r → wm.cell? ⟨g, k, none⟩ = some (.int .u8 (mk43 r k)) := fun g e k hk => by
                subst e
                exact (own_cell hR (rowL_get .u8 _ _ k hk)).1
              have hUc : ∀ k, k < n r + 16 → wm.cell? ⟨g2, k, none⟩ = some (.int .u8 (behind (n r) (mk43 r) (ml43 r) k)) := fun k hk => (own_cell hU (rowL_get .u8 _ _ k hk)).1
              have HRc := Lib.hid hRc
              have HUc := Lib.hid hUc
              have HA1 := Lib.hid ha1
              have HNr := HN.out r hlt
              clear hRc hUc hR hU hv hu ha1
              go_wp2
              go_loopw [11] (fun s11 wr => ∃ k c : Nat, k ≤ n r ∧ s11 = .int .i64 k ∧ wr = wm.drewN c) (fun s11 _ => n r - (intOf s11).toNat)
              case atStart => exact ⟨0, c, by omega, rfl, rfl⟩
              case round =>
                obtain ⟨k, c, hk, rfl, rfl⟩ := hrel
                by_cases hlk : k < n r
                · rcases HA1.out with h | ⟨g1, rfl⟩
                  · omega
                  have d1 := HRc.out g1 rfl k hlk
                  have d2 := HUc.out k (by omega)
                  have e3 : behind (n r) (mk43 r) (ml43 r) k = mk43 r k := by unfold behind; rw [if_pos hlk]
                  rw [e3] at d2
                  unfold mk43 at d1 d2
                  have i1 : (0 : Int) ≤ (k : Int) := by omega
                  have i2 : (k : Int) < (n r : Int) := by omega
                  have i3 : (0 : Int) ≤ (r : Int) := by omega
                  have i4 : (r : Int) < (j : Int) := by omega
                  have i5 : (k : Int) < (n r : Int) + 16 := by omega
                  clear e3
                  go_wp2
                  go_roundw
                  case rel => exact ⟨k + 1, c, by omega, by go_num, rfl⟩
                  case measure => simp [intOf]; omega
                · obtain rfl : k = n r := by omega
                  go_wp2
                  go_loopw [12] (fun s12 wr => ∃ k c : Nat, k ≤ 16 ∧ s12 = .int .i64 k ∧ wr = wm.drewN c) (fun s12 _ => 16 - (intOf s12).toNat)
                  case atStart => exact ⟨0, c, by omega, rfl, rfl⟩
                  case round =>
                    obtain ⟨k, c, hk, rfl, rfl⟩ := hrel
                    by_cases hlk : k < 16
                    · have d2 := HUc.out (n r + k) (by omega)
                      have e3 : behind (n r) (mk43 r) (ml43 r) (n r + k) = ml43 r k := by unfold behind; rw [if_neg (by omega), Nat.add_sub_cancel_left]
                      rw [e3] at d2
                      unfold ml43 at d2
                      have i3 : (0 : Int) ≤ (r : Int) := by omega
                      have i4 : (r : Int) < (j : Int) := by omega
                      have i5 : ((n r : Int) + (k : Int)) < (n r : Int) + 16 := by omega
                      clear e3
                      go_wp2
                      go_roundw
                      case rel => exact ⟨k + 1, c, by omega, by go_num, rfl⟩
                      case measure => simp [intOf]; omega
                    · obtain rfl : k = 16 := by omega
                      go_wp2
                      go_roundw
                      case rel => exact ⟨r + 1, c, by omega, by go_num, rfl⟩
                      case measure => simp [intOf]; omega
            · obtain rfl : r = j := by omega
              go_wp2
              go_ret
              exact ⟨rfl, HFin.out.drewN _⟩
end Go.Proofs.Ytgkkmdebpekckaa
