/- The contracts of the reference's Check, Rows, Blocks, Of, Parity, At: what they return, and that they leave old memory as it was. Conditions: as stated at each. -/
import Derived.Test.YtdgbdbploghhgaaGe
namespace Go.Proofs.Ytdgbdbploghhgaa
open Go.RowKit
theorem rcheck_ok (m c s : Int) (w : World) (h : Good m c s) :
    Calls Try.prog 20 #[G m c s] w fun e w' => e = .returned (.int .i64 0) ∧ Below w.heap.size w w' := by
  obtain ⟨h1, h2, h3, h4, h5, h6⟩ := h
  go_enter Try.func20, Try.ntmps20
  go_wp2
  go_returns
  refine ⟨rfl, ?_⟩
  (repeat' (first | (with_reducible exact Below.refl _ _) | (with_reducible refine Below.setCell ?_ (by go_size) _) | (with_reducible refine bal ?_ _) | (with_reducible refine Below.drew ?_) | (with_reducible refine bdn ?_ _) | (with_reducible refine via ?_ (by with_reducible assumption))))
theorem rcheck_bad0 (m c s : Int) (w : World)  (h0 : m < 3) :
    Calls Try.prog 20 #[G m c s] w fun e w' => e = .returned (.int .i64 60) ∧ Below w.heap.size w w' := by
  go_enter Try.func20, Try.ntmps20
  go_wp2
  go_returns
  refine ⟨rfl, ?_⟩
  (repeat' (first | (with_reducible exact Below.refl _ _) | (with_reducible refine Below.setCell ?_ (by go_size) _) | (with_reducible refine bal ?_ _) | (with_reducible refine Below.drew ?_) | (with_reducible refine bdn ?_ _) | (with_reducible refine via ?_ (by with_reducible assumption))))
theorem rcheck_bad1 (m c s : Int) (w : World) (h0 : 3 ≤ m) (h1 : 16 < m) :
    Calls Try.prog 20 #[G m c s] w fun e w' => e = .returned (.int .i64 60) ∧ Below w.heap.size w w' := by
  go_enter Try.func20, Try.ntmps20
  go_wp2
  go_returns
  refine ⟨rfl, ?_⟩
  (repeat' (first | (with_reducible exact Below.refl _ _) | (with_reducible refine Below.setCell ?_ (by go_size) _) | (with_reducible refine bal ?_ _) | (with_reducible refine Below.drew ?_) | (with_reducible refine bdn ?_ _) | (with_reducible refine via ?_ (by with_reducible assumption))))
theorem rcheck_bad2 (m c s : Int) (w : World) (h0 : 3 ≤ m) (h1 : m ≤ 16) (h2 : c < 1) :
    Calls Try.prog 20 #[G m c s] w fun e w' => e = .returned (.int .i64 60) ∧ Below w.heap.size w w' := by
  go_enter Try.func20, Try.ntmps20
  go_wp2
  go_returns
  refine ⟨rfl, ?_⟩
  (repeat' (first | (with_reducible exact Below.refl _ _) | (with_reducible refine Below.setCell ?_ (by go_size) _) | (with_reducible refine bal ?_ _) | (with_reducible refine Below.drew ?_) | (with_reducible refine bdn ?_ _) | (with_reducible refine via ?_ (by with_reducible assumption))))
theorem rcheck_bad3 (m c s : Int) (w : World) (h0 : 3 ≤ m) (h1 : m ≤ 16) (h2 : 1 ≤ c) (h3 : 16 < c) :
    Calls Try.prog 20 #[G m c s] w fun e w' => e = .returned (.int .i64 60) ∧ Below w.heap.size w w' := by
  go_enter Try.func20, Try.ntmps20
  go_wp2
  go_returns
  refine ⟨rfl, ?_⟩
  (repeat' (first | (with_reducible exact Below.refl _ _) | (with_reducible refine Below.setCell ?_ (by go_size) _) | (with_reducible refine bal ?_ _) | (with_reducible refine Below.drew ?_) | (with_reducible refine bdn ?_ _) | (with_reducible refine via ?_ (by with_reducible assumption))))
theorem rcheck_bad4 (m c s : Int) (w : World) (h0 : 3 ≤ m) (h1 : m ≤ 16) (h2 : 1 ≤ c) (h3 : c ≤ 16) (h4 : s < 1) :
    Calls Try.prog 20 #[G m c s] w fun e w' => e = .returned (.int .i64 60) ∧ Below w.heap.size w w' := by
  go_enter Try.func20, Try.ntmps20
  go_wp2
  go_returns
  refine ⟨rfl, ?_⟩
  (repeat' (first | (with_reducible exact Below.refl _ _) | (with_reducible refine Below.setCell ?_ (by go_size) _) | (with_reducible refine bal ?_ _) | (with_reducible refine Below.drew ?_) | (with_reducible refine bdn ?_ _) | (with_reducible refine via ?_ (by with_reducible assumption))))
theorem rcheck_bad5 (m c s : Int) (w : World) (h0 : 3 ≤ m) (h1 : m ≤ 16) (h2 : 1 ≤ c) (h3 : c ≤ 16) (h4 : 1 ≤ s) (h5 : 256 < s) :
    Calls Try.prog 20 #[G m c s] w fun e w' => e = .returned (.int .i64 60) ∧ Below w.heap.size w w' := by
  go_enter Try.func20, Try.ntmps20
  go_wp2
  go_returns
  refine ⟨rfl, ?_⟩
  (repeat' (first | (with_reducible exact Below.refl _ _) | (with_reducible refine Below.setCell ?_ (by go_size) _) | (with_reducible refine bal ?_ _) | (with_reducible refine Below.drew ?_) | (with_reducible refine bdn ?_ _) | (with_reducible refine via ?_ (by with_reducible assumption))))
theorem rcheck_bad (m c s : Int) (w : World) (h : ¬ Good m c s) :
    Calls Try.prog 20 #[G m c s] w fun e w' => e = .returned (.int .i64 60) ∧ Below w.heap.size w w' := by
  by_cases h0 : 3 ≤ m
  · by_cases h1 : m ≤ 16
    · by_cases h2 : 1 ≤ c
      · by_cases h3 : c ≤ 16
        · by_cases h4 : 1 ≤ s
          · exact rcheck_bad5 m c s w h0 h1 h2 h3 h4 (by by_cases h5 : s ≤ 256; exact absurd ⟨h0, h1, h2, h3, h4, h5⟩ h; omega)
          · exact rcheck_bad4 m c s w h0 h1 h2 h3 (by omega)
        · exact rcheck_bad3 m c s w h0 h1 h2 (by omega)
      · exact rcheck_bad2 m c s w h0 h1 (by omega)
    · exact rcheck_bad1 m c s w h0 (by omega)
  · exact rcheck_bad0 m c s w (by omega)
theorem rrows_ok (m c s : Int) (w : World) (h : Good m c s) :
    Calls Try.prog 22 #[G m c s] w fun e w' => e = .returned (.int .i64 (s * c)) ∧ Below w.heap.size w w' := by
  obtain ⟨hr2, hr3⟩ := h.rows
  have HG := Lib.hid h
  clear h
  go_enter Try.func22, Try.ntmps22
  go_wp2_with (first | (go_at_call 20; refine (rcheck_ok _ _ _ _ HG.out).mono ?_; rintro e w1 ⟨rfl, hb⟩; obtain ⟨k0hb, f0hb, z0hb⟩ := kp hb (w.heap.size) (by go_size)))
  go_returns
  refine ⟨rfl, ?_⟩
  (repeat' (first | (with_reducible exact Below.refl _ _) | (with_reducible refine Below.setCell ?_ (by go_size) _) | (with_reducible refine bal ?_ _) | (with_reducible refine Below.drew ?_) | (with_reducible refine bdn ?_ _) | (with_reducible refine via ?_ (by with_reducible assumption))))
theorem rrows_bad (m c s : Int) (w : World) (h : ¬ Good m c s) :
    Calls Try.prog 22 #[G m c s] w fun e w' => e = .returned (.int .i64 0) ∧ Below w.heap.size w w' := by
  have HG := Lib.hid h
  clear h
  go_enter Try.func22, Try.ntmps22
  go_wp2_with (first | (go_at_call 20; refine (rcheck_bad _ _ _ _ HG.out).mono ?_; rintro e w1 ⟨rfl, hb⟩; obtain ⟨k0hb, f0hb, z0hb⟩ := kp hb (w.heap.size) (by go_size)))
  go_returns
  refine ⟨rfl, ?_⟩
  (repeat' (first | (with_reducible exact Below.refl _ _) | (with_reducible refine Below.setCell ?_ (by go_size) _) | (with_reducible refine bal ?_ _) | (with_reducible refine Below.drew ?_) | (with_reducible refine bdn ?_ _) | (with_reducible refine via ?_ (by with_reducible assumption))))
theorem rblocks_ok (m c s : Int) (w : World) (h : Good m c s) :
    Calls Try.prog 24 #[G m c s] w fun e w' => e = .returned (.int .i64 (s * c * (m - 1))) ∧ Below w.heap.size w w' := by
  obtain ⟨hr2, hr3⟩ := h.blocks
  have hm1 := h.m3
  have hm2 := h.m16
  have HG := Lib.hid h
  clear h
  go_enter Try.func24, Try.ntmps24
  go_wp2_with (first | (go_at_call 22; refine (rrows_ok _ _ _ _ HG.out).mono ?_; rintro e w1 ⟨rfl, hb⟩; obtain ⟨k0hb, f0hb, z0hb⟩ := kp hb (w.heap.size) (by go_size)))
  go_returns
  refine ⟨rfl, ?_⟩
  (repeat' (first | (with_reducible exact Below.refl _ _) | (with_reducible refine Below.setCell ?_ (by go_size) _) | (with_reducible refine bal ?_ _) | (with_reducible refine Below.drew ?_) | (with_reducible refine bdn ?_ _) | (with_reducible refine via ?_ (by with_reducible assumption))))
theorem rblocks_bad (m c s : Int) (w : World) (h : ¬ Good m c s) :
    Calls Try.prog 24 #[G m c s] w fun e w' => e = .returned (.int .i64 0) ∧ Below w.heap.size w w' := by
  have HG := Lib.hid h
  clear h
  go_enter Try.func24, Try.ntmps24
  go_wp2_with (first | (go_at_call 22; refine (rrows_bad _ _ _ _ HG.out).mono ?_; rintro e w1 ⟨rfl, hb⟩; obtain ⟨k0hb, f0hb, z0hb⟩ := kp hb (w.heap.size) (by go_size)))
  go_returns
  refine ⟨?_, ?_⟩
  · first | rfl | exact ret_int (k := .i64) (a := 0 * wrap64 (m - 1)) (b := 0) (by simp)
  (repeat' (first | (with_reducible exact Below.refl _ _) | (with_reducible refine Below.setCell ?_ (by go_size) _) | (with_reducible refine bal ?_ _) | (with_reducible refine Below.drew ?_) | (with_reducible refine bdn ?_ _) | (with_reducible refine via ?_ (by with_reducible assumption))))
theorem rparity_bad (m c s r : Int) (w : World) (h : ¬ Good m c s) :
    Calls Try.prog 17 #[G m c s, .int .i64 r] w fun e w' => e = .returned (.tuple #[.int .i64 0, .int .i64 60]) ∧ Below w.heap.size w w' := by
  have HG := Lib.hid h
  clear h
  go_enter Try.func17, Try.ntmps17
  go_wp2_with (first | (go_at_call 20; refine (rcheck_bad _ _ _ _ HG.out).mono ?_; rintro e w1 ⟨rfl, hb⟩; obtain ⟨k0hb, f0hb, z0hb⟩ := kp hb (w.heap.size) (by go_size)))
  go_returns
  refine ⟨rfl, ?_⟩
  (repeat' (first | (with_reducible exact Below.refl _ _) | (with_reducible refine Below.setCell ?_ (by go_size) _) | (with_reducible refine bal ?_ _) | (with_reducible refine Below.drew ?_) | (with_reducible refine bdn ?_ _) | (with_reducible refine via ?_ (by with_reducible assumption))))
theorem rparity_rangea (m c s r : Int) (w : World) (h : Good m c s) (hr : r < 0) :
    Calls Try.prog 17 #[G m c s, .int .i64 r] w fun e w' => e = .returned (.tuple #[.int .i64 0, .int .i64 3]) ∧ Below w.heap.size w w' := by
  obtain ⟨hr2, hr3⟩ := h.rows
  obtain ⟨hbl2, hbl3⟩ := h.blocks
  have hm1 := h.m3
  have hm2 := h.m16
  have hc1 := h.c1
  have hc2 := h.c16
  have hs1 := h.s1
  have hs2 := h.s256
  have HG := Lib.hid h
  clear h
  go_enter Try.func17, Try.ntmps17
  go_wp2_with (first | (go_at_call 20; refine (rcheck_ok _ _ _ _ HG.out).mono ?_; rintro e w1 ⟨rfl, hb⟩; obtain ⟨k0hb, f0hb, z0hb⟩ := kp hb (w.heap.size) (by go_size)))
  go_returns
  refine ⟨rfl, ?_⟩
  (repeat' (first | (with_reducible exact Below.refl _ _) | (with_reducible refine Below.setCell ?_ (by go_size) _) | (with_reducible refine bal ?_ _) | (with_reducible refine Below.drew ?_) | (with_reducible refine bdn ?_ _) | (with_reducible refine via ?_ (by with_reducible assumption))))
theorem rparity_rangeb (m c s r : Int) (w : World) (h : Good m c s) (hr : s * c ≤ r) :
    Calls Try.prog 17 #[G m c s, .int .i64 r] w fun e w' => e = .returned (.tuple #[.int .i64 0, .int .i64 3]) ∧ Below w.heap.size w w' := by
  obtain ⟨hr2, hr3⟩ := h.rows
  obtain ⟨hbl2, hbl3⟩ := h.blocks
  have hm1 := h.m3
  have hm2 := h.m16
  have hc1 := h.c1
  have hc2 := h.c16
  have hs1 := h.s1
  have hs2 := h.s256
  have HG := Lib.hid h
  clear h
  have h0 : ¬ r < 0 := by omega
  have hn : decide (r < 0) = false := by simpa using h0
  go_enter Try.func17, Try.ntmps17
  go_wp2_with (first | (go_at_call 20; refine (rcheck_ok _ _ _ _ HG.out).mono ?_; rintro e w1 ⟨rfl, hb⟩; obtain ⟨k0hb, f0hb, z0hb⟩ := kp hb (w.heap.size) (by go_size)))
  go_returns
  refine ⟨rfl, ?_⟩
  (repeat' (first | (with_reducible exact Below.refl _ _) | (with_reducible refine Below.setCell ?_ (by go_size) _) | (with_reducible refine bal ?_ _) | (with_reducible refine Below.drew ?_) | (with_reducible refine bdn ?_ _) | (with_reducible refine via ?_ (by with_reducible assumption))))
theorem rparity_ok (m c s r : Int) (w : World) (h : Good m c s) (hr0 : 0 ≤ r) (hr1 : r < s * c) :
    Calls Try.prog 17 #[G m c s, .int .i64 r] w fun e w' => e = .returned (.tuple #[.int .i64 (par m (r / c)), .int .i64 0]) ∧ Below w.heap.size w w' := by
  obtain ⟨hr2, hr3⟩ := h.rows
  obtain ⟨hbl2, hbl3⟩ := h.blocks
  have hm1 := h.m3
  have hm2 := h.m16
  have hc1 := h.c1
  have hc2 := h.c16
  have hs1 := h.s1
  have hs2 := h.s256
  have HG := Lib.hid h
  clear h
  have hrc : 0 ≤ r / c := Int.ediv_nonneg hr0 (by omega)
  have hrc2 : r / c ≤ r := Int.ediv_le_self _ hr0
  have h1 := Int.emod_nonneg (r / c) (show m ≠ 0 by omega)
  have h2 := Int.emod_lt_of_pos (r / c) (show 0 < m by omega)
  have d0 : decide (r < 0) = false := by simpa using hr0
  have d1 : decide (s * c ≤ r) = false := by simpa using hr1
  have m0 : ¬ m = 0 := by omega
  have c0 : ¬ c = 0 := by omega
  go_enter Try.func17, Try.ntmps17
  go_wp2_with (first | (go_at_call 20; refine (rcheck_ok _ _ _ _ HG.out).mono ?_; rintro e w1 ⟨rfl, hb⟩; obtain ⟨k0hb, f0hb, z0hb⟩ := kp hb (w.heap.size) (by go_size)))
  go_quiet (fail)
  go_wp2
  go_returns
  refine ⟨rfl, ?_⟩
  (repeat' (first | (with_reducible exact Below.refl _ _) | (with_reducible refine Below.setCell ?_ (by go_size) _) | (with_reducible refine bal ?_ _) | (with_reducible refine Below.drew ?_) | (with_reducible refine bdn ?_ _) | (with_reducible refine via ?_ (by with_reducible assumption))))
theorem rof_bad (m c s b : Int) (w : World) (h : ¬ Good m c s) :
    Calls Try.prog 16 #[G m c s, .int .i64 b] w fun e w' => e = .returned (.tuple #[Pl 0 0 0 0, .int .i64 60]) ∧ Below w.heap.size w w' := by
  have HG := Lib.hid h
  clear h
  go_enter Try.func16, Try.ntmps16
  go_wp2_with (first | (go_at_call 20; refine (rcheck_bad _ _ _ _ HG.out).mono ?_; rintro e w1 ⟨rfl, hb⟩; obtain ⟨k0hb, f0hb, z0hb⟩ := kp hb (w.heap.size) (by go_size); obtain ⟨k1hb, f1hb, z1hb⟩ := kp hb (w.heap.size + 1) (by go_size)))
  refine bodyPost_ret (v := .tuple #[Pl 0 0 0 0, .int .i64 60]) (by simp [results, Try.results16, go_sem, Pl, *]) rfl ⟨rfl, ?_⟩
  (repeat' (first | (with_reducible exact Below.refl _ _) | (with_reducible refine Below.setCell ?_ (by go_size) _) | (with_reducible refine bal ?_ _) | (with_reducible refine Below.drew ?_) | (with_reducible refine bdn ?_ _) | (with_reducible refine via ?_ (by with_reducible assumption))))
theorem rof_rangea (m c s b : Int) (w : World) (h : Good m c s) (h1 : b < 0) :
    Calls Try.prog 16 #[G m c s, .int .i64 b] w fun e w' => e = .returned (.tuple #[Pl 0 0 0 0, .int .i64 3]) ∧ Below w.heap.size w w' := by
  obtain ⟨hr2, hr3⟩ := h.rows
  obtain ⟨hbl2, hbl3⟩ := h.blocks
  have hm1 := h.m3
  have hm2 := h.m16
  have hc1 := h.c1
  have hc2 := h.c16
  have hs1 := h.s1
  have hs2 := h.s256
  have HG := Lib.hid h
  clear h
  have d0 : decide (b < 0) = true := by simpa using h1
  go_enter Try.func16, Try.ntmps16
  go_wp2_with (first | (go_at_call 20; refine (rcheck_ok _ _ _ _ HG.out).mono ?_; rintro e w1 ⟨rfl, hb⟩; obtain ⟨k0hb, f0hb, z0hb⟩ := kp hb (w.heap.size) (by go_size); obtain ⟨k1hb, f1hb, z1hb⟩ := kp hb (w.heap.size + 1) (by go_size)) | (go_at_call 24; refine (rblocks_ok _ _ _ _ HG.out).mono ?_; rintro e w2 ⟨rfl, hb2⟩; obtain ⟨k0hb2, f0hb2, z0hb2⟩ := kp hb2 (w.heap.size) (by go_size); obtain ⟨k1hb2, f1hb2, z1hb2⟩ := kp hb2 (w.heap.size + 1) (by go_size)))
  refine bodyPost_ret (v := .tuple #[Pl 0 0 0 0, .int .i64 3]) (by simp [results, Try.results16, go_sem, Pl, *]) rfl ⟨rfl, ?_⟩
  (repeat' (first | (with_reducible exact Below.refl _ _) | (with_reducible refine Below.setCell ?_ (by go_size) _) | (with_reducible refine bal ?_ _) | (with_reducible refine Below.drew ?_) | (with_reducible refine bdn ?_ _) | (with_reducible refine via ?_ (by with_reducible assumption))))
theorem rof_rangeb (m c s b : Int) (w : World) (h : Good m c s) (h1 : s * c * (m - 1) ≤ b) :
    Calls Try.prog 16 #[G m c s, .int .i64 b] w fun e w' => e = .returned (.tuple #[Pl 0 0 0 0, .int .i64 3]) ∧ Below w.heap.size w w' := by
  obtain ⟨hr2, hr3⟩ := h.rows
  obtain ⟨hbl2, hbl3⟩ := h.blocks
  have hm1 := h.m3
  have hm2 := h.m16
  have hc1 := h.c1
  have hc2 := h.c16
  have hs1 := h.s1
  have hs2 := h.s256
  have HG := Lib.hid h
  clear h
  have h0 : 0 ≤ b := by omega
  have d0 : decide (b < 0) = false := by simpa using h0
  have d1 : decide (s * c * (m - 1) ≤ b) = true := by simpa using h1
  go_enter Try.func16, Try.ntmps16
  go_wp2_with (first | (go_at_call 20; refine (rcheck_ok _ _ _ _ HG.out).mono ?_; rintro e w1 ⟨rfl, hb⟩; obtain ⟨k0hb, f0hb, z0hb⟩ := kp hb (w.heap.size) (by go_size); obtain ⟨k1hb, f1hb, z1hb⟩ := kp hb (w.heap.size + 1) (by go_size)) | (go_at_call 24; refine (rblocks_ok _ _ _ _ HG.out).mono ?_; rintro e w2 ⟨rfl, hb2⟩; obtain ⟨k0hb2, f0hb2, z0hb2⟩ := kp hb2 (w.heap.size) (by go_size); obtain ⟨k1hb2, f1hb2, z1hb2⟩ := kp hb2 (w.heap.size + 1) (by go_size)))
  refine bodyPost_ret (v := .tuple #[Pl 0 0 0 0, .int .i64 3]) (by simp [results, Try.results16, go_sem, Pl, *]) rfl ⟨rfl, ?_⟩
  (repeat' (first | (with_reducible exact Below.refl _ _) | (with_reducible refine Below.setCell ?_ (by go_size) _) | (with_reducible refine bal ?_ _) | (with_reducible refine Below.drew ?_) | (with_reducible refine bdn ?_ _) | (with_reducible refine via ?_ (by with_reducible assumption))))
set_option maxHeartbeats 400000 in
theorem rof_ok (m c s b : Int) (w : World) (h : Good m c s) (h0 : 0 ≤ b) (h1 : b < s * c * (m - 1)) :
    Calls Try.prog 16 #[G m c s, .int .i64 b] w fun e w' => e = .returned (.tuple #[Pl (b / ((m - 1) * c)) (b / ((m - 1) * c) * c + b % ((m - 1) * c) % c) (mem m (b / ((m - 1) * c)) (b % ((m - 1) * c) / c)) (par m (b / ((m - 1) * c))), .int .i64 0]) ∧ Below w.heap.size w w' := by
  obtain ⟨hr2, hr3⟩ := h.rows
  obtain ⟨hbl2, hbl3⟩ := h.blocks
  have hm1 := h.m3
  have hm2 := h.m16
  have hc1 := h.c1
  have hc2 := h.c16
  have hs1 := h.s1
  have hs2 := h.s256
  have HG := Lib.hid h
  obtain ⟨he1, he2⟩ := mul_bd (a := m - 1) (b := c) (A := 15) (B := 16) (by omega) (by omega) (by omega) (by omega)
  have he3 : 1 ≤ (m - 1) * c := Int.mul_pos (by omega) (by omega)
  clear h
  obtain ⟨E, hE⟩ : ∃ E, E = (m - 1) * c := ⟨_, rfl⟩
  rw [← hE] at he1 he2 he3 ⊢
  have hst0 : 0 ≤ b / E := Int.ediv_nonneg h0 (by omega)
  have hst1 : b / E < s := by
    apply Int.ediv_lt_of_lt_mul (by omega)
    rw [hE, Int.mul_comm (m - 1) c, ← Int.mul_assoc]; exact h1
  have hi0 : 0 ≤ b % E := Int.emod_nonneg _ (by omega)
  have hi1 : b % E < E := Int.emod_lt_of_pos _ (by omega)
  have hj0 : 0 ≤ b % E % c := Int.emod_nonneg _ (by omega)
  have hj1 : b % E % c < c := Int.emod_lt_of_pos _ (by omega)
  have hk0 : 0 ≤ b % E / c := Int.ediv_nonneg hi0 (by omega)
  have hk1 : b % E / c < m - 1 := by
    apply Int.ediv_lt_of_lt_mul (by omega); rw [← hE]; exact hi1
  obtain ⟨hx1, hx2⟩ := mul_bd (a := b / E) (b := c) (A := 256) (B := 16) hst0 (by omega) (by omega) (by omega)
  have d0 : decide (b < 0) = false := by simpa using h0
  have d1 : decide (s * c * (m - 1) ≤ b) = false := by simpa using h1
  have hEr : (m - 1) * c = E := hE.symm
  have w0 : IntKind.i64.wrap E = E := IntWalk.i64_in _ (by omega)
  have w3 : IntKind.i64.wrap (s * c * (m - 1)) = s * c * (m - 1) := IntWalk.i64_in _ (by omega)
  have q1 : b.tdiv E = b / E := Int.tdiv_eq_ediv_of_nonneg h0
  have q2 : b.tmod E = b % E := Int.tmod_eq_emod_of_nonneg h0
  have q3 : IntKind.i64.wrap (b / E) = b / E := IntWalk.i64_in _ (by omega)
  have q4 : (b % E).tmod c = b % E % c := Int.tmod_eq_emod_of_nonneg hi0
  have q5 : (b % E).tdiv c = b % E / c := Int.tdiv_eq_ediv_of_nonneg hi0
  have q6 : IntKind.i64.wrap (b % E / c) = b % E / c := IntWalk.i64_in _ (by omega)
  have q7 : IntKind.i64.wrap (b / E * c) = b / E * c := IntWalk.i64_in _ (by omega)
  have q8 : IntKind.i64.wrap (b / E * c + b % E % c) = b / E * c + b % E % c := IntWalk.i64_in _ (by omega)
  have E0 : ¬ E = 0 := by omega
  have c0 : ¬ c = 0 := by omega
  clear hE
  have m0 : ¬ m = 0 := by omega
  have em0 := Int.emod_nonneg (b / E) m0
  have em1 := Int.emod_lt_of_pos (b / E) (show 0 < m by omega)
  obtain ⟨pb1, pb2⟩ := par_bd (b / E) hm1
  have t1 : (b / E).tmod m = b / E % m := Int.tmod_eq_emod_of_nonneg hst0
  have t2 : IntKind.i64.wrap (m - 1 - b / E % m) = par m (b / E) := IntWalk.i64_in _ (by unfold par at pb1 pb2; omega)
  have t3 : IntKind.i64.wrap (par m (b / E) + 1) = par m (b / E) + 1 := IntWalk.i64_in _ (by omega)
  have t4 : IntKind.i64.wrap (par m (b / E) + 1 + b % E / c) = par m (b / E) + 1 + b % E / c := IntWalk.i64_in _ (by omega)
  have t5 : (par m (b / E) + 1 + b % E / c).tmod m = mem m (b / E) (b % E / c) := Int.tmod_eq_emod_of_nonneg (by omega)
  go_enter Try.func16, Try.ntmps16
  go_wp2_with (first | (go_at_call 20; refine (rcheck_ok _ _ _ _ HG.out).mono ?_; rintro e w1 ⟨rfl, hb⟩; obtain ⟨k0hb, f0hb, z0hb⟩ := kp hb (w.heap.size) (by go_size); obtain ⟨k1hb, f1hb, z1hb⟩ := kp hb (w.heap.size + 1) (by go_size)) | (go_at_call 24; refine (rblocks_ok _ _ _ _ HG.out).mono ?_; rintro e w2 ⟨rfl, hb2⟩; obtain ⟨k0hb2, f0hb2, z0hb2⟩ := kp hb2 (w.heap.size) (by go_size); obtain ⟨k1hb2, f1hb2, z1hb2⟩ := kp hb2 (w.heap.size + 1) (by go_size)))
  go_quiet (fail)
  go_wp2
  go_region_held3 (fun w' => w'.cell? ⟨w.heap.size, 0, none⟩ = some (.int .i64 m) ∧ w'.cell? ⟨w.heap.size, 1, none⟩ = some (.int .i64 c) ∧ w'.cell? ⟨w.heap.size, 2, none⟩ = some (.int .i64 s)) ((simp [*, go_sem]; done)) (fail)
  go_wp2
  refine bodyPost_ret (v := .tuple #[Pl (b / E) (b / E * c + b % E % c) (mem m (b / E) (b % E / c)) (par m (b / E)), .int .i64 0]) (by simp [results, Try.results16, go_sem, Pl, *]) rfl ⟨rfl, ?_⟩
  (repeat' (first | (with_reducible exact Below.refl _ _) | (with_reducible refine Below.setCell ?_ (by go_size) _) | (with_reducible refine bal ?_ _) | (with_reducible refine Below.drew ?_) | (with_reducible refine bdn ?_ _) | (with_reducible refine via ?_ (by with_reducible assumption))))
theorem rat_bad (m c s a r : Int) (w : World) (h : ¬ Good m c s) :
    Calls Try.prog 19 #[G m c s, .int .i64 a, .int .i64 r] w fun e w' => e = .returned (.tuple #[.int .i64 0, .bool false, .int .i64 60]) ∧ Below w.heap.size w w' := by
  have HG := Lib.hid h
  clear h
  go_enter Try.func19, Try.ntmps19
  go_wp2_with (first | (go_at_call 20; refine (rcheck_bad _ _ _ _ HG.out).mono ?_; rintro e w1 ⟨rfl, hb⟩; obtain ⟨k0hb, f0hb, z0hb⟩ := kp hb (w.heap.size) (by go_size)))
  go_returns
  refine ⟨rfl, ?_⟩
  (repeat' (first | (with_reducible exact Below.refl _ _) | (with_reducible refine Below.setCell ?_ (by go_size) _) | (with_reducible refine bal ?_ _) | (with_reducible refine Below.drew ?_) | (with_reducible refine bdn ?_ _) | (with_reducible refine via ?_ (by with_reducible assumption))))
theorem rat_rangea (m c s a r : Int) (w : World) (h : Good m c s) (h1 : a < 0) :
    Calls Try.prog 19 #[G m c s, .int .i64 a, .int .i64 r] w fun e w' => e = .returned (.tuple #[.int .i64 0, .bool false, .int .i64 3]) ∧ Below w.heap.size w w' := by
  obtain ⟨hr2, hr3⟩ := h.rows
  obtain ⟨hbl2, hbl3⟩ := h.blocks
  have hm1 := h.m3
  have hm2 := h.m16
  have hc1 := h.c1
  have hc2 := h.c16
  have hs1 := h.s1
  have hs2 := h.s256
  have HG := Lib.hid h
  clear h
  have d0 : decide (a < 0) = true := by simpa using h1
  go_enter Try.func19, Try.ntmps19
  go_wp2_with (first | (go_at_call 20; refine (rcheck_ok _ _ _ _ HG.out).mono ?_; rintro e w1 ⟨rfl, hb⟩; obtain ⟨k0hb, f0hb, z0hb⟩ := kp hb (w.heap.size) (by go_size)))
  go_returns
  refine ⟨rfl, ?_⟩
  (repeat' (first | (with_reducible exact Below.refl _ _) | (with_reducible refine Below.setCell ?_ (by go_size) _) | (with_reducible refine bal ?_ _) | (with_reducible refine Below.drew ?_) | (with_reducible refine bdn ?_ _) | (with_reducible refine via ?_ (by with_reducible assumption))))
theorem rat_rangeb (m c s a r : Int) (w : World) (h : Good m c s) (h0 : 0 ≤ a) (h1 : m ≤ a) :
    Calls Try.prog 19 #[G m c s, .int .i64 a, .int .i64 r] w fun e w' => e = .returned (.tuple #[.int .i64 0, .bool false, .int .i64 3]) ∧ Below w.heap.size w w' := by
  obtain ⟨hr2, hr3⟩ := h.rows
  obtain ⟨hbl2, hbl3⟩ := h.blocks
  have hm1 := h.m3
  have hm2 := h.m16
  have hc1 := h.c1
  have hc2 := h.c16
  have hs1 := h.s1
  have hs2 := h.s256
  have HG := Lib.hid h
  clear h
  have d0 : decide (a < 0) = false := by simpa using h0
  have d1 : decide (m ≤ a) = true := by simpa using h1
  go_enter Try.func19, Try.ntmps19
  go_wp2_with (first | (go_at_call 20; refine (rcheck_ok _ _ _ _ HG.out).mono ?_; rintro e w1 ⟨rfl, hb⟩; obtain ⟨k0hb, f0hb, z0hb⟩ := kp hb (w.heap.size) (by go_size)))
  go_returns
  refine ⟨rfl, ?_⟩
  (repeat' (first | (with_reducible exact Below.refl _ _) | (with_reducible refine Below.setCell ?_ (by go_size) _) | (with_reducible refine bal ?_ _) | (with_reducible refine Below.drew ?_) | (with_reducible refine bdn ?_ _) | (with_reducible refine via ?_ (by with_reducible assumption))))
theorem rat_rangec (m c s a r : Int) (w : World) (h : Good m c s) (h0 : 0 ≤ a) (h1 : a < m) (h2 : r < 0) :
    Calls Try.prog 19 #[G m c s, .int .i64 a, .int .i64 r] w fun e w' => e = .returned (.tuple #[.int .i64 0, .bool false, .int .i64 3]) ∧ Below w.heap.size w w' := by
  obtain ⟨hr2, hr3⟩ := h.rows
  obtain ⟨hbl2, hbl3⟩ := h.blocks
  have hm1 := h.m3
  have hm2 := h.m16
  have hc1 := h.c1
  have hc2 := h.c16
  have hs1 := h.s1
  have hs2 := h.s256
  have HG := Lib.hid h
  clear h
  have d0 : decide (a < 0) = false := by simpa using h0
  have d1 : decide (m ≤ a) = false := by simpa using h1
  go_enter Try.func19, Try.ntmps19
  go_wp2_with (first | (go_at_call 20; refine (rcheck_ok _ _ _ _ HG.out).mono ?_; rintro e w1 ⟨rfl, hb⟩; obtain ⟨k0hb, f0hb, z0hb⟩ := kp hb (w.heap.size) (by go_size)) | (go_at_call 17; refine (rparity_rangea _ _ _ _ _ HG.out h2).mono ?_; rintro e w2 ⟨rfl, hb2⟩; obtain ⟨k0hb2, f0hb2, z0hb2⟩ := kp hb2 (w.heap.size) (by go_size)))
  go_returns
  refine ⟨rfl, ?_⟩
  (repeat' (first | (with_reducible exact Below.refl _ _) | (with_reducible refine Below.setCell ?_ (by go_size) _) | (with_reducible refine bal ?_ _) | (with_reducible refine Below.drew ?_) | (with_reducible refine bdn ?_ _) | (with_reducible refine via ?_ (by with_reducible assumption))))
theorem rat_ranged (m c s a r : Int) (w : World) (h : Good m c s) (h0 : 0 ≤ a) (h1 : a < m) (h3 : s * c ≤ r) :
    Calls Try.prog 19 #[G m c s, .int .i64 a, .int .i64 r] w fun e w' => e = .returned (.tuple #[.int .i64 0, .bool false, .int .i64 3]) ∧ Below w.heap.size w w' := by
  obtain ⟨hr2, hr3⟩ := h.rows
  obtain ⟨hbl2, hbl3⟩ := h.blocks
  have hm1 := h.m3
  have hm2 := h.m16
  have hc1 := h.c1
  have hc2 := h.c16
  have hs1 := h.s1
  have hs2 := h.s256
  have HG := Lib.hid h
  clear h
  have d0 : decide (a < 0) = false := by simpa using h0
  have d1 : decide (m ≤ a) = false := by simpa using h1
  go_enter Try.func19, Try.ntmps19
  go_wp2_with (first | (go_at_call 20; refine (rcheck_ok _ _ _ _ HG.out).mono ?_; rintro e w1 ⟨rfl, hb⟩; obtain ⟨k0hb, f0hb, z0hb⟩ := kp hb (w.heap.size) (by go_size)) | (go_at_call 17; refine (rparity_rangeb _ _ _ _ _ HG.out h3).mono ?_; rintro e w2 ⟨rfl, hb2⟩; obtain ⟨k0hb2, f0hb2, z0hb2⟩ := kp hb2 (w.heap.size) (by go_size)))
  go_returns
  refine ⟨rfl, ?_⟩
  (repeat' (first | (with_reducible exact Below.refl _ _) | (with_reducible refine Below.setCell ?_ (by go_size) _) | (with_reducible refine bal ?_ _) | (with_reducible refine Below.drew ?_) | (with_reducible refine bdn ?_ _) | (with_reducible refine via ?_ (by with_reducible assumption))))
def ratI (m c a r : Int) : Int := (a - par m (r / c) - 1 + 2 * m) % m
theorem rat_par (m c s a r : Int) (w : World) (h : Good m c s) (h0 : 0 ≤ a) (h1 : a < m) (h2 : 0 ≤ r) (h3 : r < s * c) (hp : a = par m (r / c)) :
    Calls Try.prog 19 #[G m c s, .int .i64 a, .int .i64 r] w fun e w' => e = .returned (.tuple #[.int .i64 0, .bool true, .int .i64 0]) ∧ Below w.heap.size w w' := by
  obtain ⟨hr2, hr3⟩ := h.rows
  obtain ⟨hbl2, hbl3⟩ := h.blocks
  have hm1 := h.m3
  have hm2 := h.m16
  have hc1 := h.c1
  have hc2 := h.c16
  have hs1 := h.s1
  have hs2 := h.s256
  have HG := Lib.hid h
  clear h
  have hst0 : 0 ≤ r / c := Int.ediv_nonneg h2 (by omega)
  have hst1 : r / c < s := Int.ediv_lt_of_lt_mul (by omega) h3
  obtain ⟨hu0, hu1⟩ := par_bd (r / c) hm1
  have d0 : decide (a < 0) = false := by simpa using h0
  have d1 : decide (m ≤ a) = false := by simpa using h1
  have hp1 : (a == par m (r / c)) = true := by simpa using hp
  clear hp
  go_enter Try.func19, Try.ntmps19
  go_wp2_with (first | (go_at_call 20; refine (rcheck_ok _ _ _ _ HG.out).mono ?_; rintro e w1 ⟨rfl, hb⟩; obtain ⟨k0hb, f0hb, z0hb⟩ := kp hb (w.heap.size) (by go_size)) | (go_at_call 17; refine (rparity_ok _ _ _ _ _ HG.out h2 h3).mono ?_; rintro e w2 ⟨rfl, hb2⟩; obtain ⟨k0hb2, f0hb2, z0hb2⟩ := kp hb2 (w.heap.size) (by go_size)))
  go_returns
  refine ⟨rfl, ?_⟩
  (repeat' (first | (with_reducible exact Below.refl _ _) | (with_reducible refine Below.setCell ?_ (by go_size) _) | (with_reducible refine bal ?_ _) | (with_reducible refine Below.drew ?_) | (with_reducible refine bdn ?_ _) | (with_reducible refine via ?_ (by with_reducible assumption))))
set_option maxHeartbeats 400000 in
theorem rat_blk (m c s a r : Int) (w : World) (h : Good m c s) (h0 : 0 ≤ a) (h1 : a < m) (h2 : 0 ≤ r) (h3 : r < s * c) (hp : ¬ a = par m (r / c)) :
    Calls Try.prog 19 #[G m c s, .int .i64 a, .int .i64 r] w fun e w' => e = .returned (.tuple #[.int .i64 (r / c * (m - 1) * c + ratI m c a r * c + r % c), .bool false, .int .i64 0]) ∧ Below w.heap.size w w' := by
  obtain ⟨hr2, hr3⟩ := h.rows
  obtain ⟨hbl2, hbl3⟩ := h.blocks
  have hm1 := h.m3
  have hm2 := h.m16
  have hc1 := h.c1
  have hc2 := h.c16
  have hs1 := h.s1
  have hs2 := h.s256
  have HG := Lib.hid h
  clear h
  have hst0 : 0 ≤ r / c := Int.ediv_nonneg h2 (by omega)
  have hst1 : r / c < s := Int.ediv_lt_of_lt_mul (by omega) h3
  obtain ⟨hu0, hu1⟩ := par_bd (r / c) hm1
  have d0 : decide (a < 0) = false := by simpa using h0
  have d1 : decide (m ≤ a) = false := by simpa using h1
  have hp1 : (a == par m (r / c)) = false := by simpa using hp
  clear hp
  have hi0 : 0 ≤ ratI m c a r := Int.emod_nonneg _ (by omega)
  have hi1 : ratI m c a r < m := Int.emod_lt_of_pos _ (by omega)
  have hj0 : 0 ≤ r % c := Int.emod_nonneg _ (by omega)
  have hj1 : r % c < c := Int.emod_lt_of_pos _ (by omega)
  have q0 : 0 ≤ a - par m (r / c) - 1 + 2 * m := by omega
  have q6 : (a - par m (r / c) - 1 + 2 * m) % m = ratI m c a r := rfl
  have q7 : (a - par m (r / c) - 1 + 2 * m).tmod m = ratI m c a r := Int.tmod_eq_emod_of_nonneg q0
  obtain ⟨x1, x2⟩ := mul_bd (a := r / c) (b := m - 1) (A := 256) (B := 15) hst0 (by omega) (by omega) (by omega)
  obtain ⟨x3, x4⟩ := mul_bd (a := r / c * (m - 1)) (b := c) (A := 3840) (B := 16) (by omega) (by omega) (by omega) (by omega)
  obtain ⟨x5, x6⟩ := mul_bd (a := ratI m c a r) (b := c) (A := 16) (B := 16) (by omega) (by omega) (by omega) (by omega)
  have c0 : ¬ c = 0 := by omega
  have m0 : ¬ m = 0 := by omega
  go_enter Try.func19, Try.ntmps19
  go_wp2_with (first | (go_at_call 20; refine (rcheck_ok _ _ _ _ HG.out).mono ?_; rintro e w1 ⟨rfl, hb⟩; obtain ⟨k0hb, f0hb, z0hb⟩ := kp hb (w.heap.size) (by go_size)) | (go_at_call 17; refine (rparity_ok _ _ _ _ _ HG.out h2 h3).mono ?_; rintro e w2 ⟨rfl, hb2⟩; obtain ⟨k0hb2, f0hb2, z0hb2⟩ := kp hb2 (w.heap.size) (by go_size)))
  go_quiet (fail)
  go_wp2
  go_returns
  refine ⟨rfl, ?_⟩
  (repeat' (first | (with_reducible exact Below.refl _ _) | (with_reducible refine Below.setCell ?_ (by go_size) _) | (with_reducible refine bal ?_ _) | (with_reducible refine Below.drew ?_) | (with_reducible refine bdn ?_ _) | (with_reducible refine via ?_ (by with_reducible assumption))))
end Go.Proofs.Ytdgbdbploghhgaa
