/- The contracts of model.Most and the reference's Most, case by case: what they return, and that they leave old memory as it was. Conditions: as stated at each. -/
import Derived.Test.YtdgbdbploghhgaaGf
namespace Go.Proofs.Ytdgbdbploghhgaa
open Go.RowKit
def most0 (ring m : Int) : Int := 4 * ring + 10 * m + 20
theorem mmost_bad (m c s ring k puts : Int) (w : World) (h : ¬ Good m c s) :
    Calls Try.prog 9 #[G m c s, .int .i64 ring, .int .u8 k, .int .i64 puts] w fun e w' => e = .returned (.tuple #[.int .i64 0, .int .u16 60]) ∧ Below w.heap.size w w' := by
  have HG := Lib.hid (fun h' => h ((Good.iff m c s).2 h'))
  clear h
  go_enter Try.func9, Try.ntmps9
  go_wp2_with (first | (go_at_call 11; refine (check_bad _ _ _ _ HG.out).mono ?_; rintro e w1 ⟨rfl, hb⟩))
  go_returns
  refine ⟨rfl, ?_⟩
  (repeat' (first | (with_reducible exact Below.refl _ _) | (with_reducible refine Below.setCell ?_ (by go_size) _) | (with_reducible refine bal ?_ _) | (with_reducible refine Below.drew ?_) | (with_reducible refine bdn ?_ _) | (with_reducible refine via ?_ (by with_reducible assumption))))
theorem mmost_1 (m c s ring puts : Int) (w : World) (h : Good m c s) (h1 : 5 ≤ ring) (h2 : ring ≤ 2048) (h3 : 0 ≤ puts) (h4 : puts ≤ s * c * (m - 1)) :
    Calls Try.prog 9 #[G m c s, .int .i64 ring, .int .u8 1, .int .i64 puts] w fun e w' => e = .returned (.tuple #[.int .i64 (most0 ring m + m * puts), .int .u16 0]) ∧ Below w.heap.size w w' := by
  have hm1 := h.m3
  have hm2 := h.m16
  have hc1 := h.c1
  have hc2 := h.c16
  obtain ⟨hbl2, hbl3⟩ := h.blocks
  have HG := Lib.hid h
  have HG1 := Lib.hid ((Good.iff m c s).1 h)
  clear h
  obtain ⟨x1, x2⟩ := mul_bd (a := m) (b := puts) (A := 16) (B := 61440) (by omega) (by omega) (by omega) (by omega)
  go_enter Try.func9, Try.ntmps9
  go_wp2_with (first | (go_at_call 11; refine (check_ok _ _ _ _ HG1.out).mono ?_; rintro e w1 ⟨rfl, hb⟩; obtain ⟨k0hb, f0hb, z0hb⟩ := kp hb (w.heap.size) (by go_size)) | (go_at_call 23; refine (gblocks_ok _ _ _ _ HG.out).mono ?_; rintro e w2 ⟨rfl, hb2⟩; obtain ⟨k0hb2, f0hb2, z0hb2⟩ := kp hb2 (w.heap.size) (by go_size)))
  all_goals
    go_returns
    refine ⟨rfl, ?_⟩
    (repeat' (first | (with_reducible exact Below.refl _ _) | (with_reducible refine Below.setCell ?_ (by go_size) _) | (with_reducible refine bal ?_ _) | (with_reducible refine Below.drew ?_) | (with_reducible refine bdn ?_ _) | (with_reducible refine via ?_ (by with_reducible assumption))))
theorem mmost_2 (m c s ring puts : Int) (w : World) (h : Good m c s) (h1 : 5 ≤ ring) (h2 : ring ≤ 2048) (h3 : 0 ≤ puts) (h4 : puts ≤ 256) :
    Calls Try.prog 9 #[G m c s, .int .i64 ring, .int .u8 2, .int .i64 puts] w fun e w' => e = .returned (.tuple #[.int .i64 (most0 ring m + (2 * m + 14) * puts), .int .u16 0]) ∧ Below w.heap.size w w' := by
  have hm1 := h.m3
  have hm2 := h.m16
  have hc1 := h.c1
  have hc2 := h.c16
  obtain ⟨hbl2, hbl3⟩ := h.blocks
  have HG := Lib.hid h
  have HG1 := Lib.hid ((Good.iff m c s).1 h)
  clear h
  obtain ⟨x1, x2⟩ := mul_bd (a := 2 * m + 14) (b := puts) (A := 46) (B := 256) (by omega) (by omega) (by omega) (by omega)
  go_enter Try.func9, Try.ntmps9
  go_wp2_with (first | (go_at_call 11; refine (check_ok _ _ _ _ HG1.out).mono ?_; rintro e w1 ⟨rfl, hb⟩; obtain ⟨k0hb, f0hb, z0hb⟩ := kp hb (w.heap.size) (by go_size)) | (go_at_call 23; refine (gblocks_ok _ _ _ _ HG.out).mono ?_; rintro e w2 ⟨rfl, hb2⟩; obtain ⟨k0hb2, f0hb2, z0hb2⟩ := kp hb2 (w.heap.size) (by go_size)))
  all_goals
    go_returns
    refine ⟨rfl, ?_⟩
    (repeat' (first | (with_reducible exact Below.refl _ _) | (with_reducible refine Below.setCell ?_ (by go_size) _) | (with_reducible refine bal ?_ _) | (with_reducible refine Below.drew ?_) | (with_reducible refine bdn ?_ _) | (with_reducible refine via ?_ (by with_reducible assumption))))
theorem mmost_3 (m c s ring puts : Int) (w : World) (h : Good m c s) (h1 : 5 ≤ ring) (h2 : ring ≤ 2048) (h3 : 0 ≤ puts) (h4 : puts ≤ s * c * (m - 1)) :
    Calls Try.prog 9 #[G m c s, .int .i64 ring, .int .u8 3, .int .i64 puts] w fun e w' => e = .returned (.tuple #[.int .i64 (most0 ring m), .int .u16 0]) ∧ Below w.heap.size w w' := by
  have hm1 := h.m3
  have hm2 := h.m16
  have hc1 := h.c1
  have hc2 := h.c16
  obtain ⟨hbl2, hbl3⟩ := h.blocks
  have HG := Lib.hid h
  have HG1 := Lib.hid ((Good.iff m c s).1 h)
  clear h
  go_enter Try.func9, Try.ntmps9
  go_wp2_with (first | (go_at_call 11; refine (check_ok _ _ _ _ HG1.out).mono ?_; rintro e w1 ⟨rfl, hb⟩; obtain ⟨k0hb, f0hb, z0hb⟩ := kp hb (w.heap.size) (by go_size)) | (go_at_call 23; refine (gblocks_ok _ _ _ _ HG.out).mono ?_; rintro e w2 ⟨rfl, hb2⟩; obtain ⟨k0hb2, f0hb2, z0hb2⟩ := kp hb2 (w.heap.size) (by go_size)))
  all_goals
    go_returns
    refine ⟨rfl, ?_⟩
    (repeat' (first | (with_reducible exact Below.refl _ _) | (with_reducible refine Below.setCell ?_ (by go_size) _) | (with_reducible refine bal ?_ _) | (with_reducible refine Below.drew ?_) | (with_reducible refine bdn ?_ _) | (with_reducible refine via ?_ (by with_reducible assumption))))
theorem mmost_4 (m c s ring puts : Int) (w : World) (h : Good m c s) (h1 : 5 ≤ ring) (h2 : ring ≤ 2048) (h3 : 0 ≤ puts) (h4 : puts ≤ s * c * (m - 1)) :
    Calls Try.prog 9 #[G m c s, .int .i64 ring, .int .u8 4, .int .i64 puts] w fun e w' => e = .returned (.tuple #[.int .i64 (most0 ring m), .int .u16 0]) ∧ Below w.heap.size w w' := by
  have hm1 := h.m3
  have hm2 := h.m16
  have hc1 := h.c1
  have hc2 := h.c16
  obtain ⟨hbl2, hbl3⟩ := h.blocks
  have HG := Lib.hid h
  have HG1 := Lib.hid ((Good.iff m c s).1 h)
  clear h
  go_enter Try.func9, Try.ntmps9
  go_wp2_with (first | (go_at_call 11; refine (check_ok _ _ _ _ HG1.out).mono ?_; rintro e w1 ⟨rfl, hb⟩; obtain ⟨k0hb, f0hb, z0hb⟩ := kp hb (w.heap.size) (by go_size)) | (go_at_call 23; refine (gblocks_ok _ _ _ _ HG.out).mono ?_; rintro e w2 ⟨rfl, hb2⟩; obtain ⟨k0hb2, f0hb2, z0hb2⟩ := kp hb2 (w.heap.size) (by go_size)))
  all_goals
    go_returns
    refine ⟨rfl, ?_⟩
    (repeat' (first | (with_reducible exact Below.refl _ _) | (with_reducible refine Below.setCell ?_ (by go_size) _) | (with_reducible refine bal ?_ _) | (with_reducible refine Below.drew ?_) | (with_reducible refine bdn ?_ _) | (with_reducible refine via ?_ (by with_reducible assumption))))
theorem mmost_5 (m c s ring puts : Int) (w : World) (h : Good m c s) (h1 : 5 ≤ ring) (h2 : ring ≤ 2048) (h3 : 0 ≤ puts) (h4 : puts ≤ s * c * (m - 1)) :
    Calls Try.prog 9 #[G m c s, .int .i64 ring, .int .u8 5, .int .i64 puts] w fun e w' => e = .returned (.tuple #[.int .i64 (most0 ring m), .int .u16 0]) ∧ Below w.heap.size w w' := by
  have hm1 := h.m3
  have hm2 := h.m16
  have hc1 := h.c1
  have hc2 := h.c16
  obtain ⟨hbl2, hbl3⟩ := h.blocks
  have HG := Lib.hid h
  have HG1 := Lib.hid ((Good.iff m c s).1 h)
  clear h
  go_enter Try.func9, Try.ntmps9
  go_wp2_with (first | (go_at_call 11; refine (check_ok _ _ _ _ HG1.out).mono ?_; rintro e w1 ⟨rfl, hb⟩; obtain ⟨k0hb, f0hb, z0hb⟩ := kp hb (w.heap.size) (by go_size)) | (go_at_call 23; refine (gblocks_ok _ _ _ _ HG.out).mono ?_; rintro e w2 ⟨rfl, hb2⟩; obtain ⟨k0hb2, f0hb2, z0hb2⟩ := kp hb2 (w.heap.size) (by go_size)))
  all_goals
    go_returns
    refine ⟨rfl, ?_⟩
    (repeat' (first | (with_reducible exact Below.refl _ _) | (with_reducible refine Below.setCell ?_ (by go_size) _) | (with_reducible refine bal ?_ _) | (with_reducible refine Below.drew ?_) | (with_reducible refine bdn ?_ _) | (with_reducible refine via ?_ (by with_reducible assumption))))
theorem mmost_6 (m c s ring puts : Int) (w : World) (h : Good m c s) (h1 : 5 ≤ ring) (h2 : ring ≤ 2048) (h3 : 0 ≤ puts) (h4 : puts ≤ s * c * (m - 1)) :
    Calls Try.prog 9 #[G m c s, .int .i64 ring, .int .u8 6, .int .i64 puts] w fun e w' => e = .returned (.tuple #[.int .i64 (most0 ring m + m * c), .int .u16 0]) ∧ Below w.heap.size w w' := by
  have hm1 := h.m3
  have hm2 := h.m16
  have hc1 := h.c1
  have hc2 := h.c16
  obtain ⟨hbl2, hbl3⟩ := h.blocks
  have HG := Lib.hid h
  have HG1 := Lib.hid ((Good.iff m c s).1 h)
  clear h
  obtain ⟨x1, x2⟩ := mul_bd (a := m) (b := c) (A := 16) (B := 16) (by omega) (by omega) (by omega) (by omega)
  go_enter Try.func9, Try.ntmps9
  go_wp2_with (first | (go_at_call 11; refine (check_ok _ _ _ _ HG1.out).mono ?_; rintro e w1 ⟨rfl, hb⟩; obtain ⟨k0hb, f0hb, z0hb⟩ := kp hb (w.heap.size) (by go_size)) | (go_at_call 23; refine (gblocks_ok _ _ _ _ HG.out).mono ?_; rintro e w2 ⟨rfl, hb2⟩; obtain ⟨k0hb2, f0hb2, z0hb2⟩ := kp hb2 (w.heap.size) (by go_size)))
  all_goals
    go_returns
    refine ⟨rfl, ?_⟩
    (repeat' (first | (with_reducible exact Below.refl _ _) | (with_reducible refine Below.setCell ?_ (by go_size) _) | (with_reducible refine bal ?_ _) | (with_reducible refine Below.drew ?_) | (with_reducible refine bdn ?_ _) | (with_reducible refine via ?_ (by with_reducible assumption))))
theorem mmost_9 (m c s ring puts : Int) (w : World) (h : Good m c s) (h1 : 5 ≤ ring) (h2 : ring ≤ 2048) (h3 : 0 ≤ puts) (h4 : puts ≤ s * c * (m - 1)) :
    Calls Try.prog 9 #[G m c s, .int .i64 ring, .int .u8 9, .int .i64 puts] w fun e w' => e = .returned (.tuple #[.int .i64 (most0 ring m), .int .u16 0]) ∧ Below w.heap.size w w' := by
  have hm1 := h.m3
  have hm2 := h.m16
  have hc1 := h.c1
  have hc2 := h.c16
  obtain ⟨hbl2, hbl3⟩ := h.blocks
  have HG := Lib.hid h
  have HG1 := Lib.hid ((Good.iff m c s).1 h)
  clear h
  go_enter Try.func9, Try.ntmps9
  go_wp2_with (first | (go_at_call 11; refine (check_ok _ _ _ _ HG1.out).mono ?_; rintro e w1 ⟨rfl, hb⟩; obtain ⟨k0hb, f0hb, z0hb⟩ := kp hb (w.heap.size) (by go_size)) | (go_at_call 23; refine (gblocks_ok _ _ _ _ HG.out).mono ?_; rintro e w2 ⟨rfl, hb2⟩; obtain ⟨k0hb2, f0hb2, z0hb2⟩ := kp hb2 (w.heap.size) (by go_size)))
  all_goals
    go_returns
    refine ⟨rfl, ?_⟩
    (repeat' (first | (with_reducible exact Below.refl _ _) | (with_reducible refine Below.setCell ?_ (by go_size) _) | (with_reducible refine bal ?_ _) | (with_reducible refine Below.drew ?_) | (with_reducible refine bdn ?_ _) | (with_reducible refine via ?_ (by with_reducible assumption))))
theorem mmost_wa (m c s ring puts : Int) (w : World) (h : Good m c s) (h1 : ring < 5) :
    Calls Try.prog 9 #[G m c s, .int .i64 ring, .int .u8 2, .int .i64 puts] w fun e w' => e = .returned (.tuple #[.int .i64 0, .int .u16 1]) ∧ Below w.heap.size w w' := by
  have hm1 := h.m3
  have hm2 := h.m16
  have hc1 := h.c1
  have hc2 := h.c16
  obtain ⟨hbl2, hbl3⟩ := h.blocks
  have HG := Lib.hid h
  have HG1 := Lib.hid ((Good.iff m c s).1 h)
  clear h
  go_enter Try.func9, Try.ntmps9
  go_wp2_with (first | (go_at_call 11; refine (check_ok _ _ _ _ HG1.out).mono ?_; rintro e w1 ⟨rfl, hb⟩; obtain ⟨k0hb, f0hb, z0hb⟩ := kp hb (w.heap.size) (by go_size)) | (go_at_call 23; refine (gblocks_ok _ _ _ _ HG.out).mono ?_; rintro e w2 ⟨rfl, hb2⟩; obtain ⟨k0hb2, f0hb2, z0hb2⟩ := kp hb2 (w.heap.size) (by go_size)))
  all_goals
    go_returns
    refine ⟨rfl, ?_⟩
    (repeat' (first | (with_reducible exact Below.refl _ _) | (with_reducible refine Below.setCell ?_ (by go_size) _) | (with_reducible refine bal ?_ _) | (with_reducible refine Below.drew ?_) | (with_reducible refine bdn ?_ _) | (with_reducible refine via ?_ (by with_reducible assumption))))
theorem mmost_oa (m c s ring k puts : Int) (w : World) (h : Good m c s) (hk : (k == 2) = false) (h1 : ring < 5) :
    Calls Try.prog 9 #[G m c s, .int .i64 ring, .int .u8 k, .int .i64 puts] w fun e w' => e = .returned (.tuple #[.int .i64 0, .int .u16 1]) ∧ Below w.heap.size w w' := by
  have hm1 := h.m3
  have hm2 := h.m16
  have hc1 := h.c1
  have hc2 := h.c16
  obtain ⟨hbl2, hbl3⟩ := h.blocks
  have HG := Lib.hid h
  have HG1 := Lib.hid ((Good.iff m c s).1 h)
  clear h
  go_enter Try.func9, Try.ntmps9
  go_wp2_with (first | (go_at_call 11; refine (check_ok _ _ _ _ HG1.out).mono ?_; rintro e w1 ⟨rfl, hb⟩; obtain ⟨k0hb, f0hb, z0hb⟩ := kp hb (w.heap.size) (by go_size)) | (go_at_call 23; refine (gblocks_ok _ _ _ _ HG.out).mono ?_; rintro e w2 ⟨rfl, hb2⟩; obtain ⟨k0hb2, f0hb2, z0hb2⟩ := kp hb2 (w.heap.size) (by go_size)))
  all_goals
    go_returns
    refine ⟨rfl, ?_⟩
    (repeat' (first | (with_reducible exact Below.refl _ _) | (with_reducible refine Below.setCell ?_ (by go_size) _) | (with_reducible refine bal ?_ _) | (with_reducible refine Below.drew ?_) | (with_reducible refine bdn ?_ _) | (with_reducible refine via ?_ (by with_reducible assumption))))
theorem mmost_wb (m c s ring puts : Int) (w : World) (h : Good m c s) (h1 : 5 ≤ ring) (h2 : 2048 < ring) :
    Calls Try.prog 9 #[G m c s, .int .i64 ring, .int .u8 2, .int .i64 puts] w fun e w' => e = .returned (.tuple #[.int .i64 0, .int .u16 1]) ∧ Below w.heap.size w w' := by
  have hm1 := h.m3
  have hm2 := h.m16
  have hc1 := h.c1
  have hc2 := h.c16
  obtain ⟨hbl2, hbl3⟩ := h.blocks
  have HG := Lib.hid h
  have HG1 := Lib.hid ((Good.iff m c s).1 h)
  clear h
  go_enter Try.func9, Try.ntmps9
  go_wp2_with (first | (go_at_call 11; refine (check_ok _ _ _ _ HG1.out).mono ?_; rintro e w1 ⟨rfl, hb⟩; obtain ⟨k0hb, f0hb, z0hb⟩ := kp hb (w.heap.size) (by go_size)) | (go_at_call 23; refine (gblocks_ok _ _ _ _ HG.out).mono ?_; rintro e w2 ⟨rfl, hb2⟩; obtain ⟨k0hb2, f0hb2, z0hb2⟩ := kp hb2 (w.heap.size) (by go_size)))
  all_goals
    go_returns
    refine ⟨rfl, ?_⟩
    (repeat' (first | (with_reducible exact Below.refl _ _) | (with_reducible refine Below.setCell ?_ (by go_size) _) | (with_reducible refine bal ?_ _) | (with_reducible refine Below.drew ?_) | (with_reducible refine bdn ?_ _) | (with_reducible refine via ?_ (by with_reducible assumption))))
theorem mmost_ob (m c s ring k puts : Int) (w : World) (h : Good m c s) (hk : (k == 2) = false) (h1 : 5 ≤ ring) (h2 : 2048 < ring) :
    Calls Try.prog 9 #[G m c s, .int .i64 ring, .int .u8 k, .int .i64 puts] w fun e w' => e = .returned (.tuple #[.int .i64 0, .int .u16 1]) ∧ Below w.heap.size w w' := by
  have hm1 := h.m3
  have hm2 := h.m16
  have hc1 := h.c1
  have hc2 := h.c16
  obtain ⟨hbl2, hbl3⟩ := h.blocks
  have HG := Lib.hid h
  have HG1 := Lib.hid ((Good.iff m c s).1 h)
  clear h
  go_enter Try.func9, Try.ntmps9
  go_wp2_with (first | (go_at_call 11; refine (check_ok _ _ _ _ HG1.out).mono ?_; rintro e w1 ⟨rfl, hb⟩; obtain ⟨k0hb, f0hb, z0hb⟩ := kp hb (w.heap.size) (by go_size)) | (go_at_call 23; refine (gblocks_ok _ _ _ _ HG.out).mono ?_; rintro e w2 ⟨rfl, hb2⟩; obtain ⟨k0hb2, f0hb2, z0hb2⟩ := kp hb2 (w.heap.size) (by go_size)))
  all_goals
    go_returns
    refine ⟨rfl, ?_⟩
    (repeat' (first | (with_reducible exact Below.refl _ _) | (with_reducible refine Below.setCell ?_ (by go_size) _) | (with_reducible refine bal ?_ _) | (with_reducible refine Below.drew ?_) | (with_reducible refine bdn ?_ _) | (with_reducible refine via ?_ (by with_reducible assumption))))
theorem mmost_wc (m c s ring puts : Int) (w : World) (h : Good m c s) (h1 : 5 ≤ ring) (h2 : ring ≤ 2048) (h3 : puts < 0) :
    Calls Try.prog 9 #[G m c s, .int .i64 ring, .int .u8 2, .int .i64 puts] w fun e w' => e = .returned (.tuple #[.int .i64 0, .int .u16 1]) ∧ Below w.heap.size w w' := by
  have hm1 := h.m3
  have hm2 := h.m16
  have hc1 := h.c1
  have hc2 := h.c16
  obtain ⟨hbl2, hbl3⟩ := h.blocks
  have HG := Lib.hid h
  have HG1 := Lib.hid ((Good.iff m c s).1 h)
  clear h
  go_enter Try.func9, Try.ntmps9
  go_wp2_with (first | (go_at_call 11; refine (check_ok _ _ _ _ HG1.out).mono ?_; rintro e w1 ⟨rfl, hb⟩; obtain ⟨k0hb, f0hb, z0hb⟩ := kp hb (w.heap.size) (by go_size)) | (go_at_call 23; refine (gblocks_ok _ _ _ _ HG.out).mono ?_; rintro e w2 ⟨rfl, hb2⟩; obtain ⟨k0hb2, f0hb2, z0hb2⟩ := kp hb2 (w.heap.size) (by go_size)))
  all_goals
    go_returns
    refine ⟨rfl, ?_⟩
    (repeat' (first | (with_reducible exact Below.refl _ _) | (with_reducible refine Below.setCell ?_ (by go_size) _) | (with_reducible refine bal ?_ _) | (with_reducible refine Below.drew ?_) | (with_reducible refine bdn ?_ _) | (with_reducible refine via ?_ (by with_reducible assumption))))
theorem mmost_oc (m c s ring k puts : Int) (w : World) (h : Good m c s) (hk : (k == 2) = false) (h1 : 5 ≤ ring) (h2 : ring ≤ 2048) (h3 : puts < 0) :
    Calls Try.prog 9 #[G m c s, .int .i64 ring, .int .u8 k, .int .i64 puts] w fun e w' => e = .returned (.tuple #[.int .i64 0, .int .u16 1]) ∧ Below w.heap.size w w' := by
  have hm1 := h.m3
  have hm2 := h.m16
  have hc1 := h.c1
  have hc2 := h.c16
  obtain ⟨hbl2, hbl3⟩ := h.blocks
  have HG := Lib.hid h
  have HG1 := Lib.hid ((Good.iff m c s).1 h)
  clear h
  go_enter Try.func9, Try.ntmps9
  go_wp2_with (first | (go_at_call 11; refine (check_ok _ _ _ _ HG1.out).mono ?_; rintro e w1 ⟨rfl, hb⟩; obtain ⟨k0hb, f0hb, z0hb⟩ := kp hb (w.heap.size) (by go_size)) | (go_at_call 23; refine (gblocks_ok _ _ _ _ HG.out).mono ?_; rintro e w2 ⟨rfl, hb2⟩; obtain ⟨k0hb2, f0hb2, z0hb2⟩ := kp hb2 (w.heap.size) (by go_size)))
  all_goals
    go_returns
    refine ⟨rfl, ?_⟩
    (repeat' (first | (with_reducible exact Below.refl _ _) | (with_reducible refine Below.setCell ?_ (by go_size) _) | (with_reducible refine bal ?_ _) | (with_reducible refine Below.drew ?_) | (with_reducible refine bdn ?_ _) | (with_reducible refine via ?_ (by with_reducible assumption))))
theorem mmost_wd (m c s ring puts : Int) (w : World) (h : Good m c s) (h1 : 5 ≤ ring) (h2 : ring ≤ 2048) (h3 : 0 ≤ puts) (h4 : 256 < puts) :
    Calls Try.prog 9 #[G m c s, .int .i64 ring, .int .u8 2, .int .i64 puts] w fun e w' => e = .returned (.tuple #[.int .i64 0, .int .u16 1]) ∧ Below w.heap.size w w' := by
  have hm1 := h.m3
  have hm2 := h.m16
  have hc1 := h.c1
  have hc2 := h.c16
  obtain ⟨hbl2, hbl3⟩ := h.blocks
  have HG := Lib.hid h
  have HG1 := Lib.hid ((Good.iff m c s).1 h)
  clear h
  go_enter Try.func9, Try.ntmps9
  go_wp2_with (first | (go_at_call 11; refine (check_ok _ _ _ _ HG1.out).mono ?_; rintro e w1 ⟨rfl, hb⟩; obtain ⟨k0hb, f0hb, z0hb⟩ := kp hb (w.heap.size) (by go_size)) | (go_at_call 23; refine (gblocks_ok _ _ _ _ HG.out).mono ?_; rintro e w2 ⟨rfl, hb2⟩; obtain ⟨k0hb2, f0hb2, z0hb2⟩ := kp hb2 (w.heap.size) (by go_size)))
  all_goals
    go_returns
    refine ⟨rfl, ?_⟩
    (repeat' (first | (with_reducible exact Below.refl _ _) | (with_reducible refine Below.setCell ?_ (by go_size) _) | (with_reducible refine bal ?_ _) | (with_reducible refine Below.drew ?_) | (with_reducible refine bdn ?_ _) | (with_reducible refine via ?_ (by with_reducible assumption))))
theorem mmost_od (m c s ring k puts : Int) (w : World) (h : Good m c s) (hk : (k == 2) = false) (h1 : 5 ≤ ring) (h2 : ring ≤ 2048) (h3 : 0 ≤ puts) (h4 : s * c * (m - 1) < puts) :
    Calls Try.prog 9 #[G m c s, .int .i64 ring, .int .u8 k, .int .i64 puts] w fun e w' => e = .returned (.tuple #[.int .i64 0, .int .u16 1]) ∧ Below w.heap.size w w' := by
  have hm1 := h.m3
  have hm2 := h.m16
  have hc1 := h.c1
  have hc2 := h.c16
  obtain ⟨hbl2, hbl3⟩ := h.blocks
  have HG := Lib.hid h
  have HG1 := Lib.hid ((Good.iff m c s).1 h)
  clear h
  go_enter Try.func9, Try.ntmps9
  go_wp2_with (first | (go_at_call 11; refine (check_ok _ _ _ _ HG1.out).mono ?_; rintro e w1 ⟨rfl, hb⟩; obtain ⟨k0hb, f0hb, z0hb⟩ := kp hb (w.heap.size) (by go_size)) | (go_at_call 23; refine (gblocks_ok _ _ _ _ HG.out).mono ?_; rintro e w2 ⟨rfl, hb2⟩; obtain ⟨k0hb2, f0hb2, z0hb2⟩ := kp hb2 (w.heap.size) (by go_size)))
  all_goals
    go_returns
    refine ⟨rfl, ?_⟩
    (repeat' (first | (with_reducible exact Below.refl _ _) | (with_reducible refine Below.setCell ?_ (by go_size) _) | (with_reducible refine bal ?_ _) | (with_reducible refine Below.drew ?_) | (with_reducible refine bdn ?_ _) | (with_reducible refine via ?_ (by with_reducible assumption))))
theorem mmost_none (m c s ring k puts : Int) (w : World) (h : Good m c s) (k1 : (k == 1) = false) (k2 : (k == 2) = false) (k3 : (k == 3) = false) (k4 : (k == 4) = false) (k5 : (k == 5) = false) (k6 : (k == 6) = false) (k9 : (k == 9) = false) :
    Calls Try.prog 9 #[G m c s, .int .i64 ring, .int .u8 k, .int .i64 puts] w fun e w' => e = .returned (.tuple #[.int .i64 0, .int .u16 1]) ∧ Below w.heap.size w w' := by
  have hm1 := h.m3
  have hm2 := h.m16
  have hc1 := h.c1
  have hc2 := h.c16
  obtain ⟨hbl2, hbl3⟩ := h.blocks
  have HG := Lib.hid h
  have HG1 := Lib.hid ((Good.iff m c s).1 h)
  clear h
  go_enter Try.func9, Try.ntmps9
  go_wp2_with (first | (go_at_call 11; refine (check_ok _ _ _ _ HG1.out).mono ?_; rintro e w1 ⟨rfl, hb⟩; obtain ⟨k0hb, f0hb, z0hb⟩ := kp hb (w.heap.size) (by go_size)) | (go_at_call 23; refine (gblocks_ok _ _ _ _ HG.out).mono ?_; rintro e w2 ⟨rfl, hb2⟩; obtain ⟨k0hb2, f0hb2, z0hb2⟩ := kp hb2 (w.heap.size) (by go_size)))
  all_goals
    go_returns
    refine ⟨rfl, ?_⟩
    (repeat' (first | (with_reducible exact Below.refl _ _) | (with_reducible refine Below.setCell ?_ (by go_size) _) | (with_reducible refine bal ?_ _) | (with_reducible refine Below.drew ?_) | (with_reducible refine bdn ?_ _) | (with_reducible refine via ?_ (by with_reducible assumption))))
theorem rmost_bad (m c s ring k puts : Int) (w : World) (h : ¬ Good m c s) :
    Calls Try.prog 10 #[G m c s, .int .i64 ring, .int .u8 k, .int .i64 puts] w fun e w' => e = .returned (.tuple #[.int .i64 0, .int .i64 60]) ∧ Below w.heap.size w w' := by
  have HG := Lib.hid h
  clear h
  go_enter Try.func10, Try.ntmps10
  go_wp2_with (first | (go_at_call 20; refine (rcheck_bad _ _ _ _ HG.out).mono ?_; rintro e w1 ⟨rfl, hb⟩))
  go_returns
  refine ⟨rfl, ?_⟩
  (repeat' (first | (with_reducible exact Below.refl _ _) | (with_reducible refine Below.setCell ?_ (by go_size) _) | (with_reducible refine bal ?_ _) | (with_reducible refine Below.drew ?_) | (with_reducible refine bdn ?_ _) | (with_reducible refine via ?_ (by with_reducible assumption))))
theorem rmost_1 (m c s ring puts : Int) (w : World) (h : Good m c s) (h1 : 5 ≤ ring) (h2 : ring ≤ 2048) (h3 : 0 ≤ puts) (h4 : puts ≤ s * c * (m - 1)) :
    Calls Try.prog 10 #[G m c s, .int .i64 ring, .int .u8 1, .int .i64 puts] w fun e w' => e = .returned (.tuple #[.int .i64 (most0 ring m + m * puts), .int .i64 0]) ∧ Below w.heap.size w w' := by
  have hm1 := h.m3
  have hm2 := h.m16
  have hc1 := h.c1
  have hc2 := h.c16
  obtain ⟨hbl2, hbl3⟩ := h.blocks
  have HG := Lib.hid h
  clear h
  obtain ⟨x1, x2⟩ := mul_bd (a := m) (b := puts) (A := 16) (B := 61440) (by omega) (by omega) (by omega) (by omega)
  go_enter Try.func10, Try.ntmps10
  go_wp2_with (first | (go_at_call 20; refine (rcheck_ok _ _ _ _ HG.out).mono ?_; rintro e w1 ⟨rfl, hb⟩; obtain ⟨k0hb, f0hb, z0hb⟩ := kp hb (w.heap.size) (by go_size)) | (go_at_call 24; refine (rblocks_ok _ _ _ _ HG.out).mono ?_; rintro e w2 ⟨rfl, hb2⟩; obtain ⟨k0hb2, f0hb2, z0hb2⟩ := kp hb2 (w.heap.size) (by go_size)))
  all_goals
    go_returns
    refine ⟨rfl, ?_⟩
    (repeat' (first | (with_reducible exact Below.refl _ _) | (with_reducible refine Below.setCell ?_ (by go_size) _) | (with_reducible refine bal ?_ _) | (with_reducible refine Below.drew ?_) | (with_reducible refine bdn ?_ _) | (with_reducible refine via ?_ (by with_reducible assumption))))
theorem rmost_2 (m c s ring puts : Int) (w : World) (h : Good m c s) (h1 : 5 ≤ ring) (h2 : ring ≤ 2048) (h3 : 0 ≤ puts) (h4 : puts ≤ 256) :
    Calls Try.prog 10 #[G m c s, .int .i64 ring, .int .u8 2, .int .i64 puts] w fun e w' => e = .returned (.tuple #[.int .i64 (most0 ring m + (2 * m + 14) * puts), .int .i64 0]) ∧ Below w.heap.size w w' := by
  have hm1 := h.m3
  have hm2 := h.m16
  have hc1 := h.c1
  have hc2 := h.c16
  obtain ⟨hbl2, hbl3⟩ := h.blocks
  have HG := Lib.hid h
  clear h
  obtain ⟨x1, x2⟩ := mul_bd (a := 2 * m + 14) (b := puts) (A := 46) (B := 256) (by omega) (by omega) (by omega) (by omega)
  go_enter Try.func10, Try.ntmps10
  go_wp2_with (first | (go_at_call 20; refine (rcheck_ok _ _ _ _ HG.out).mono ?_; rintro e w1 ⟨rfl, hb⟩; obtain ⟨k0hb, f0hb, z0hb⟩ := kp hb (w.heap.size) (by go_size)) | (go_at_call 24; refine (rblocks_ok _ _ _ _ HG.out).mono ?_; rintro e w2 ⟨rfl, hb2⟩; obtain ⟨k0hb2, f0hb2, z0hb2⟩ := kp hb2 (w.heap.size) (by go_size)))
  all_goals
    go_returns
    refine ⟨rfl, ?_⟩
    (repeat' (first | (with_reducible exact Below.refl _ _) | (with_reducible refine Below.setCell ?_ (by go_size) _) | (with_reducible refine bal ?_ _) | (with_reducible refine Below.drew ?_) | (with_reducible refine bdn ?_ _) | (with_reducible refine via ?_ (by with_reducible assumption))))
theorem rmost_3 (m c s ring puts : Int) (w : World) (h : Good m c s) (h1 : 5 ≤ ring) (h2 : ring ≤ 2048) (h3 : 0 ≤ puts) (h4 : puts ≤ s * c * (m - 1)) :
    Calls Try.prog 10 #[G m c s, .int .i64 ring, .int .u8 3, .int .i64 puts] w fun e w' => e = .returned (.tuple #[.int .i64 (most0 ring m), .int .i64 0]) ∧ Below w.heap.size w w' := by
  have hm1 := h.m3
  have hm2 := h.m16
  have hc1 := h.c1
  have hc2 := h.c16
  obtain ⟨hbl2, hbl3⟩ := h.blocks
  have HG := Lib.hid h
  clear h
  go_enter Try.func10, Try.ntmps10
  go_wp2_with (first | (go_at_call 20; refine (rcheck_ok _ _ _ _ HG.out).mono ?_; rintro e w1 ⟨rfl, hb⟩; obtain ⟨k0hb, f0hb, z0hb⟩ := kp hb (w.heap.size) (by go_size)) | (go_at_call 24; refine (rblocks_ok _ _ _ _ HG.out).mono ?_; rintro e w2 ⟨rfl, hb2⟩; obtain ⟨k0hb2, f0hb2, z0hb2⟩ := kp hb2 (w.heap.size) (by go_size)))
  all_goals
    go_returns
    refine ⟨rfl, ?_⟩
    (repeat' (first | (with_reducible exact Below.refl _ _) | (with_reducible refine Below.setCell ?_ (by go_size) _) | (with_reducible refine bal ?_ _) | (with_reducible refine Below.drew ?_) | (with_reducible refine bdn ?_ _) | (with_reducible refine via ?_ (by with_reducible assumption))))
theorem rmost_4 (m c s ring puts : Int) (w : World) (h : Good m c s) (h1 : 5 ≤ ring) (h2 : ring ≤ 2048) (h3 : 0 ≤ puts) (h4 : puts ≤ s * c * (m - 1)) :
    Calls Try.prog 10 #[G m c s, .int .i64 ring, .int .u8 4, .int .i64 puts] w fun e w' => e = .returned (.tuple #[.int .i64 (most0 ring m), .int .i64 0]) ∧ Below w.heap.size w w' := by
  have hm1 := h.m3
  have hm2 := h.m16
  have hc1 := h.c1
  have hc2 := h.c16
  obtain ⟨hbl2, hbl3⟩ := h.blocks
  have HG := Lib.hid h
  clear h
  go_enter Try.func10, Try.ntmps10
  go_wp2_with (first | (go_at_call 20; refine (rcheck_ok _ _ _ _ HG.out).mono ?_; rintro e w1 ⟨rfl, hb⟩; obtain ⟨k0hb, f0hb, z0hb⟩ := kp hb (w.heap.size) (by go_size)) | (go_at_call 24; refine (rblocks_ok _ _ _ _ HG.out).mono ?_; rintro e w2 ⟨rfl, hb2⟩; obtain ⟨k0hb2, f0hb2, z0hb2⟩ := kp hb2 (w.heap.size) (by go_size)))
  all_goals
    go_returns
    refine ⟨rfl, ?_⟩
    (repeat' (first | (with_reducible exact Below.refl _ _) | (with_reducible refine Below.setCell ?_ (by go_size) _) | (with_reducible refine bal ?_ _) | (with_reducible refine Below.drew ?_) | (with_reducible refine bdn ?_ _) | (with_reducible refine via ?_ (by with_reducible assumption))))
theorem rmost_5 (m c s ring puts : Int) (w : World) (h : Good m c s) (h1 : 5 ≤ ring) (h2 : ring ≤ 2048) (h3 : 0 ≤ puts) (h4 : puts ≤ s * c * (m - 1)) :
    Calls Try.prog 10 #[G m c s, .int .i64 ring, .int .u8 5, .int .i64 puts] w fun e w' => e = .returned (.tuple #[.int .i64 (most0 ring m), .int .i64 0]) ∧ Below w.heap.size w w' := by
  have hm1 := h.m3
  have hm2 := h.m16
  have hc1 := h.c1
  have hc2 := h.c16
  obtain ⟨hbl2, hbl3⟩ := h.blocks
  have HG := Lib.hid h
  clear h
  go_enter Try.func10, Try.ntmps10
  go_wp2_with (first | (go_at_call 20; refine (rcheck_ok _ _ _ _ HG.out).mono ?_; rintro e w1 ⟨rfl, hb⟩; obtain ⟨k0hb, f0hb, z0hb⟩ := kp hb (w.heap.size) (by go_size)) | (go_at_call 24; refine (rblocks_ok _ _ _ _ HG.out).mono ?_; rintro e w2 ⟨rfl, hb2⟩; obtain ⟨k0hb2, f0hb2, z0hb2⟩ := kp hb2 (w.heap.size) (by go_size)))
  all_goals
    go_returns
    refine ⟨rfl, ?_⟩
    (repeat' (first | (with_reducible exact Below.refl _ _) | (with_reducible refine Below.setCell ?_ (by go_size) _) | (with_reducible refine bal ?_ _) | (with_reducible refine Below.drew ?_) | (with_reducible refine bdn ?_ _) | (with_reducible refine via ?_ (by with_reducible assumption))))
theorem rmost_6 (m c s ring puts : Int) (w : World) (h : Good m c s) (h1 : 5 ≤ ring) (h2 : ring ≤ 2048) (h3 : 0 ≤ puts) (h4 : puts ≤ s * c * (m - 1)) :
    Calls Try.prog 10 #[G m c s, .int .i64 ring, .int .u8 6, .int .i64 puts] w fun e w' => e = .returned (.tuple #[.int .i64 (most0 ring m + m * c), .int .i64 0]) ∧ Below w.heap.size w w' := by
  have hm1 := h.m3
  have hm2 := h.m16
  have hc1 := h.c1
  have hc2 := h.c16
  obtain ⟨hbl2, hbl3⟩ := h.blocks
  have HG := Lib.hid h
  clear h
  obtain ⟨x1, x2⟩ := mul_bd (a := m) (b := c) (A := 16) (B := 16) (by omega) (by omega) (by omega) (by omega)
  go_enter Try.func10, Try.ntmps10
  go_wp2_with (first | (go_at_call 20; refine (rcheck_ok _ _ _ _ HG.out).mono ?_; rintro e w1 ⟨rfl, hb⟩; obtain ⟨k0hb, f0hb, z0hb⟩ := kp hb (w.heap.size) (by go_size)) | (go_at_call 24; refine (rblocks_ok _ _ _ _ HG.out).mono ?_; rintro e w2 ⟨rfl, hb2⟩; obtain ⟨k0hb2, f0hb2, z0hb2⟩ := kp hb2 (w.heap.size) (by go_size)))
  all_goals
    go_returns
    refine ⟨rfl, ?_⟩
    (repeat' (first | (with_reducible exact Below.refl _ _) | (with_reducible refine Below.setCell ?_ (by go_size) _) | (with_reducible refine bal ?_ _) | (with_reducible refine Below.drew ?_) | (with_reducible refine bdn ?_ _) | (with_reducible refine via ?_ (by with_reducible assumption))))
theorem rmost_9 (m c s ring puts : Int) (w : World) (h : Good m c s) (h1 : 5 ≤ ring) (h2 : ring ≤ 2048) (h3 : 0 ≤ puts) (h4 : puts ≤ s * c * (m - 1)) :
    Calls Try.prog 10 #[G m c s, .int .i64 ring, .int .u8 9, .int .i64 puts] w fun e w' => e = .returned (.tuple #[.int .i64 (most0 ring m), .int .i64 0]) ∧ Below w.heap.size w w' := by
  have hm1 := h.m3
  have hm2 := h.m16
  have hc1 := h.c1
  have hc2 := h.c16
  obtain ⟨hbl2, hbl3⟩ := h.blocks
  have HG := Lib.hid h
  clear h
  go_enter Try.func10, Try.ntmps10
  go_wp2_with (first | (go_at_call 20; refine (rcheck_ok _ _ _ _ HG.out).mono ?_; rintro e w1 ⟨rfl, hb⟩; obtain ⟨k0hb, f0hb, z0hb⟩ := kp hb (w.heap.size) (by go_size)) | (go_at_call 24; refine (rblocks_ok _ _ _ _ HG.out).mono ?_; rintro e w2 ⟨rfl, hb2⟩; obtain ⟨k0hb2, f0hb2, z0hb2⟩ := kp hb2 (w.heap.size) (by go_size)))
  all_goals
    go_returns
    refine ⟨rfl, ?_⟩
    (repeat' (first | (with_reducible exact Below.refl _ _) | (with_reducible refine Below.setCell ?_ (by go_size) _) | (with_reducible refine bal ?_ _) | (with_reducible refine Below.drew ?_) | (with_reducible refine bdn ?_ _) | (with_reducible refine via ?_ (by with_reducible assumption))))
theorem rmost_wa (m c s ring puts : Int) (w : World) (h : Good m c s) (h1 : ring < 5) :
    Calls Try.prog 10 #[G m c s, .int .i64 ring, .int .u8 2, .int .i64 puts] w fun e w' => e = .returned (.tuple #[.int .i64 0, .int .i64 1]) ∧ Below w.heap.size w w' := by
  have hm1 := h.m3
  have hm2 := h.m16
  have hc1 := h.c1
  have hc2 := h.c16
  obtain ⟨hbl2, hbl3⟩ := h.blocks
  have HG := Lib.hid h
  clear h
  go_enter Try.func10, Try.ntmps10
  go_wp2_with (first | (go_at_call 20; refine (rcheck_ok _ _ _ _ HG.out).mono ?_; rintro e w1 ⟨rfl, hb⟩; obtain ⟨k0hb, f0hb, z0hb⟩ := kp hb (w.heap.size) (by go_size)) | (go_at_call 24; refine (rblocks_ok _ _ _ _ HG.out).mono ?_; rintro e w2 ⟨rfl, hb2⟩; obtain ⟨k0hb2, f0hb2, z0hb2⟩ := kp hb2 (w.heap.size) (by go_size)))
  all_goals
    go_returns
    refine ⟨rfl, ?_⟩
    (repeat' (first | (with_reducible exact Below.refl _ _) | (with_reducible refine Below.setCell ?_ (by go_size) _) | (with_reducible refine bal ?_ _) | (with_reducible refine Below.drew ?_) | (with_reducible refine bdn ?_ _) | (with_reducible refine via ?_ (by with_reducible assumption))))
theorem rmost_oa (m c s ring k puts : Int) (w : World) (h : Good m c s) (hk : (k == 2) = false) (h1 : ring < 5) :
    Calls Try.prog 10 #[G m c s, .int .i64 ring, .int .u8 k, .int .i64 puts] w fun e w' => e = .returned (.tuple #[.int .i64 0, .int .i64 1]) ∧ Below w.heap.size w w' := by
  have hm1 := h.m3
  have hm2 := h.m16
  have hc1 := h.c1
  have hc2 := h.c16
  obtain ⟨hbl2, hbl3⟩ := h.blocks
  have HG := Lib.hid h
  clear h
  go_enter Try.func10, Try.ntmps10
  go_wp2_with (first | (go_at_call 20; refine (rcheck_ok _ _ _ _ HG.out).mono ?_; rintro e w1 ⟨rfl, hb⟩; obtain ⟨k0hb, f0hb, z0hb⟩ := kp hb (w.heap.size) (by go_size)) | (go_at_call 24; refine (rblocks_ok _ _ _ _ HG.out).mono ?_; rintro e w2 ⟨rfl, hb2⟩; obtain ⟨k0hb2, f0hb2, z0hb2⟩ := kp hb2 (w.heap.size) (by go_size)))
  all_goals
    go_returns
    refine ⟨rfl, ?_⟩
    (repeat' (first | (with_reducible exact Below.refl _ _) | (with_reducible refine Below.setCell ?_ (by go_size) _) | (with_reducible refine bal ?_ _) | (with_reducible refine Below.drew ?_) | (with_reducible refine bdn ?_ _) | (with_reducible refine via ?_ (by with_reducible assumption))))
theorem rmost_wb (m c s ring puts : Int) (w : World) (h : Good m c s) (h1 : 5 ≤ ring) (h2 : 2048 < ring) :
    Calls Try.prog 10 #[G m c s, .int .i64 ring, .int .u8 2, .int .i64 puts] w fun e w' => e = .returned (.tuple #[.int .i64 0, .int .i64 1]) ∧ Below w.heap.size w w' := by
  have hm1 := h.m3
  have hm2 := h.m16
  have hc1 := h.c1
  have hc2 := h.c16
  obtain ⟨hbl2, hbl3⟩ := h.blocks
  have HG := Lib.hid h
  clear h
  go_enter Try.func10, Try.ntmps10
  go_wp2_with (first | (go_at_call 20; refine (rcheck_ok _ _ _ _ HG.out).mono ?_; rintro e w1 ⟨rfl, hb⟩; obtain ⟨k0hb, f0hb, z0hb⟩ := kp hb (w.heap.size) (by go_size)) | (go_at_call 24; refine (rblocks_ok _ _ _ _ HG.out).mono ?_; rintro e w2 ⟨rfl, hb2⟩; obtain ⟨k0hb2, f0hb2, z0hb2⟩ := kp hb2 (w.heap.size) (by go_size)))
  all_goals
    go_returns
    refine ⟨rfl, ?_⟩
    (repeat' (first | (with_reducible exact Below.refl _ _) | (with_reducible refine Below.setCell ?_ (by go_size) _) | (with_reducible refine bal ?_ _) | (with_reducible refine Below.drew ?_) | (with_reducible refine bdn ?_ _) | (with_reducible refine via ?_ (by with_reducible assumption))))
theorem rmost_ob (m c s ring k puts : Int) (w : World) (h : Good m c s) (hk : (k == 2) = false) (h1 : 5 ≤ ring) (h2 : 2048 < ring) :
    Calls Try.prog 10 #[G m c s, .int .i64 ring, .int .u8 k, .int .i64 puts] w fun e w' => e = .returned (.tuple #[.int .i64 0, .int .i64 1]) ∧ Below w.heap.size w w' := by
  have hm1 := h.m3
  have hm2 := h.m16
  have hc1 := h.c1
  have hc2 := h.c16
  obtain ⟨hbl2, hbl3⟩ := h.blocks
  have HG := Lib.hid h
  clear h
  go_enter Try.func10, Try.ntmps10
  go_wp2_with (first | (go_at_call 20; refine (rcheck_ok _ _ _ _ HG.out).mono ?_; rintro e w1 ⟨rfl, hb⟩; obtain ⟨k0hb, f0hb, z0hb⟩ := kp hb (w.heap.size) (by go_size)) | (go_at_call 24; refine (rblocks_ok _ _ _ _ HG.out).mono ?_; rintro e w2 ⟨rfl, hb2⟩; obtain ⟨k0hb2, f0hb2, z0hb2⟩ := kp hb2 (w.heap.size) (by go_size)))
  all_goals
    go_returns
    refine ⟨rfl, ?_⟩
    (repeat' (first | (with_reducible exact Below.refl _ _) | (with_reducible refine Below.setCell ?_ (by go_size) _) | (with_reducible refine bal ?_ _) | (with_reducible refine Below.drew ?_) | (with_reducible refine bdn ?_ _) | (with_reducible refine via ?_ (by with_reducible assumption))))
theorem rmost_wc (m c s ring puts : Int) (w : World) (h : Good m c s) (h1 : 5 ≤ ring) (h2 : ring ≤ 2048) (h3 : puts < 0) :
    Calls Try.prog 10 #[G m c s, .int .i64 ring, .int .u8 2, .int .i64 puts] w fun e w' => e = .returned (.tuple #[.int .i64 0, .int .i64 1]) ∧ Below w.heap.size w w' := by
  have hm1 := h.m3
  have hm2 := h.m16
  have hc1 := h.c1
  have hc2 := h.c16
  obtain ⟨hbl2, hbl3⟩ := h.blocks
  have HG := Lib.hid h
  clear h
  go_enter Try.func10, Try.ntmps10
  go_wp2_with (first | (go_at_call 20; refine (rcheck_ok _ _ _ _ HG.out).mono ?_; rintro e w1 ⟨rfl, hb⟩; obtain ⟨k0hb, f0hb, z0hb⟩ := kp hb (w.heap.size) (by go_size)) | (go_at_call 24; refine (rblocks_ok _ _ _ _ HG.out).mono ?_; rintro e w2 ⟨rfl, hb2⟩; obtain ⟨k0hb2, f0hb2, z0hb2⟩ := kp hb2 (w.heap.size) (by go_size)))
  all_goals
    go_returns
    refine ⟨rfl, ?_⟩
    (repeat' (first | (with_reducible exact Below.refl _ _) | (with_reducible refine Below.setCell ?_ (by go_size) _) | (with_reducible refine bal ?_ _) | (with_reducible refine Below.drew ?_) | (with_reducible refine bdn ?_ _) | (with_reducible refine via ?_ (by with_reducible assumption))))
theorem rmost_oc (m c s ring k puts : Int) (w : World) (h : Good m c s) (hk : (k == 2) = false) (h1 : 5 ≤ ring) (h2 : ring ≤ 2048) (h3 : puts < 0) :
    Calls Try.prog 10 #[G m c s, .int .i64 ring, .int .u8 k, .int .i64 puts] w fun e w' => e = .returned (.tuple #[.int .i64 0, .int .i64 1]) ∧ Below w.heap.size w w' := by
  have hm1 := h.m3
  have hm2 := h.m16
  have hc1 := h.c1
  have hc2 := h.c16
  obtain ⟨hbl2, hbl3⟩ := h.blocks
  have HG := Lib.hid h
  clear h
  go_enter Try.func10, Try.ntmps10
  go_wp2_with (first | (go_at_call 20; refine (rcheck_ok _ _ _ _ HG.out).mono ?_; rintro e w1 ⟨rfl, hb⟩; obtain ⟨k0hb, f0hb, z0hb⟩ := kp hb (w.heap.size) (by go_size)) | (go_at_call 24; refine (rblocks_ok _ _ _ _ HG.out).mono ?_; rintro e w2 ⟨rfl, hb2⟩; obtain ⟨k0hb2, f0hb2, z0hb2⟩ := kp hb2 (w.heap.size) (by go_size)))
  all_goals
    go_returns
    refine ⟨rfl, ?_⟩
    (repeat' (first | (with_reducible exact Below.refl _ _) | (with_reducible refine Below.setCell ?_ (by go_size) _) | (with_reducible refine bal ?_ _) | (with_reducible refine Below.drew ?_) | (with_reducible refine bdn ?_ _) | (with_reducible refine via ?_ (by with_reducible assumption))))
theorem rmost_wd (m c s ring puts : Int) (w : World) (h : Good m c s) (h1 : 5 ≤ ring) (h2 : ring ≤ 2048) (h3 : 0 ≤ puts) (h4 : 256 < puts) :
    Calls Try.prog 10 #[G m c s, .int .i64 ring, .int .u8 2, .int .i64 puts] w fun e w' => e = .returned (.tuple #[.int .i64 0, .int .i64 1]) ∧ Below w.heap.size w w' := by
  have hm1 := h.m3
  have hm2 := h.m16
  have hc1 := h.c1
  have hc2 := h.c16
  obtain ⟨hbl2, hbl3⟩ := h.blocks
  have HG := Lib.hid h
  clear h
  go_enter Try.func10, Try.ntmps10
  go_wp2_with (first | (go_at_call 20; refine (rcheck_ok _ _ _ _ HG.out).mono ?_; rintro e w1 ⟨rfl, hb⟩; obtain ⟨k0hb, f0hb, z0hb⟩ := kp hb (w.heap.size) (by go_size)) | (go_at_call 24; refine (rblocks_ok _ _ _ _ HG.out).mono ?_; rintro e w2 ⟨rfl, hb2⟩; obtain ⟨k0hb2, f0hb2, z0hb2⟩ := kp hb2 (w.heap.size) (by go_size)))
  all_goals
    go_returns
    refine ⟨rfl, ?_⟩
    (repeat' (first | (with_reducible exact Below.refl _ _) | (with_reducible refine Below.setCell ?_ (by go_size) _) | (with_reducible refine bal ?_ _) | (with_reducible refine Below.drew ?_) | (with_reducible refine bdn ?_ _) | (with_reducible refine via ?_ (by with_reducible assumption))))
theorem rmost_od (m c s ring k puts : Int) (w : World) (h : Good m c s) (hk : (k == 2) = false) (h1 : 5 ≤ ring) (h2 : ring ≤ 2048) (h3 : 0 ≤ puts) (h4 : s * c * (m - 1) < puts) :
    Calls Try.prog 10 #[G m c s, .int .i64 ring, .int .u8 k, .int .i64 puts] w fun e w' => e = .returned (.tuple #[.int .i64 0, .int .i64 1]) ∧ Below w.heap.size w w' := by
  have hm1 := h.m3
  have hm2 := h.m16
  have hc1 := h.c1
  have hc2 := h.c16
  obtain ⟨hbl2, hbl3⟩ := h.blocks
  have HG := Lib.hid h
  clear h
  go_enter Try.func10, Try.ntmps10
  go_wp2_with (first | (go_at_call 20; refine (rcheck_ok _ _ _ _ HG.out).mono ?_; rintro e w1 ⟨rfl, hb⟩; obtain ⟨k0hb, f0hb, z0hb⟩ := kp hb (w.heap.size) (by go_size)) | (go_at_call 24; refine (rblocks_ok _ _ _ _ HG.out).mono ?_; rintro e w2 ⟨rfl, hb2⟩; obtain ⟨k0hb2, f0hb2, z0hb2⟩ := kp hb2 (w.heap.size) (by go_size)))
  all_goals
    go_returns
    refine ⟨rfl, ?_⟩
    (repeat' (first | (with_reducible exact Below.refl _ _) | (with_reducible refine Below.setCell ?_ (by go_size) _) | (with_reducible refine bal ?_ _) | (with_reducible refine Below.drew ?_) | (with_reducible refine bdn ?_ _) | (with_reducible refine via ?_ (by with_reducible assumption))))
theorem rmost_none (m c s ring k puts : Int) (w : World) (h : Good m c s) (k1 : (k == 1) = false) (k2 : (k == 2) = false) (k3 : (k == 3) = false) (k4 : (k == 4) = false) (k5 : (k == 5) = false) (k6 : (k == 6) = false) (k9 : (k == 9) = false) :
    Calls Try.prog 10 #[G m c s, .int .i64 ring, .int .u8 k, .int .i64 puts] w fun e w' => e = .returned (.tuple #[.int .i64 0, .int .i64 1]) ∧ Below w.heap.size w w' := by
  have hm1 := h.m3
  have hm2 := h.m16
  have hc1 := h.c1
  have hc2 := h.c16
  obtain ⟨hbl2, hbl3⟩ := h.blocks
  have HG := Lib.hid h
  clear h
  go_enter Try.func10, Try.ntmps10
  go_wp2_with (first | (go_at_call 20; refine (rcheck_ok _ _ _ _ HG.out).mono ?_; rintro e w1 ⟨rfl, hb⟩; obtain ⟨k0hb, f0hb, z0hb⟩ := kp hb (w.heap.size) (by go_size)) | (go_at_call 24; refine (rblocks_ok _ _ _ _ HG.out).mono ?_; rintro e w2 ⟨rfl, hb2⟩; obtain ⟨k0hb2, f0hb2, z0hb2⟩ := kp hb2 (w.heap.size) (by go_size)))
  all_goals
    go_returns
    refine ⟨rfl, ?_⟩
    (repeat' (first | (with_reducible exact Below.refl _ _) | (with_reducible refine Below.setCell ?_ (by go_size) _) | (with_reducible refine bal ?_ _) | (with_reducible refine Below.drew ?_) | (with_reducible refine bdn ?_ _) | (with_reducible refine via ?_ (by with_reducible assumption))))
end Go.Proofs.Ytdgbdbploghhgaa
