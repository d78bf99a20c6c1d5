/- The contracts of geom.At and geom.Members: what they return, and that they leave old memory as it was. Conditions: as stated at each. -/
import Derived.Test.YtdgbdbploghhgaaGc
namespace Go.Proofs.Ytdgbdbploghhgaa
open Go.RowKit
theorem gat_bad (m c s a r : Int) (w : World) (h : ¬ Good m c s) :
    Calls Try.prog 15 #[G m c s, .int .i64 a, .int .i64 r] w fun e w' => e = .returned (.tuple #[.int .i64 0, .bool false, .int .u16 60]) ∧ Below w.heap.size w w' := by
  have HG := Lib.hid (fun h' => h ((Good.iff m c s).2 h'))
  clear h
  go_enter Try.func15, Try.ntmps15
  go_wp2_with (first | (go_at_call 30; refine (of_bad _ _ _ _ HG.out).mono ?_; rintro e w1 ⟨rfl, hb⟩))
  go_returns
  refine ⟨rfl, ?_⟩
  (repeat' (first | (with_reducible exact Below.refl _ _) | (with_reducible refine Below.setCell ?_ (by go_size) _) | (with_reducible refine bal ?_ _) | (with_reducible refine Below.drew ?_) | (with_reducible refine bdn ?_ _) | (with_reducible refine via ?_ (by with_reducible assumption))))
theorem gat_rangea (m c s a r : Int) (w : World) (h : Good m c s) (h1 : a < 0) :
    Calls Try.prog 15 #[G m c s, .int .i64 a, .int .i64 r] w fun e w' => e = .returned (.tuple #[.int .i64 0, .bool false, .int .u16 3]) ∧ Below w.heap.size w w' := by
  obtain ⟨hr2, hr3⟩ := h.rows
  obtain ⟨hbl2, hbl3⟩ := h.blocks
  have hm1 := h.m3
  have hm2 := h.m16
  have hc1 := h.c1
  have hc2 := h.c16
  have hs1 := h.s1
  have hs2 := h.s256
  have HG := Lib.hid ((Good.iff m c s).1 h)
  clear h
  have d0 : decide (a < 0) = true := by simpa using h1
  go_enter Try.func15, Try.ntmps15
  go_wp2_with (first | (go_at_call 30; refine (of_ok _ _ _ _ HG.out).mono ?_; rintro e w1 ⟨rfl, hb⟩) | (go_at_call 31; refine (rows_any _ _ _ _ _ hr2 hr3).mono ?_; rintro e w2 ⟨rfl, hb2⟩; obtain ⟨k0hb2, f0hb2, z0hb2⟩ := kp hb2 (w1.heap.size) (by go_size)))
  go_returns
  refine ⟨rfl, ?_⟩
  (repeat' (first | (with_reducible exact Below.refl _ _) | (with_reducible refine Below.setCell ?_ (by go_size) _) | (with_reducible refine bal ?_ _) | (with_reducible refine Below.drew ?_) | (with_reducible refine bdn ?_ _) | (with_reducible refine via ?_ (by with_reducible assumption))))
theorem gat_rangeb (m c s a r : Int) (w : World) (h : Good m c s) (h0 : 0 ≤ a) (h1 : m ≤ a) :
    Calls Try.prog 15 #[G m c s, .int .i64 a, .int .i64 r] w fun e w' => e = .returned (.tuple #[.int .i64 0, .bool false, .int .u16 3]) ∧ Below w.heap.size w w' := by
  obtain ⟨hr2, hr3⟩ := h.rows
  obtain ⟨hbl2, hbl3⟩ := h.blocks
  have hm1 := h.m3
  have hm2 := h.m16
  have hc1 := h.c1
  have hc2 := h.c16
  have hs1 := h.s1
  have hs2 := h.s256
  have HG := Lib.hid ((Good.iff m c s).1 h)
  clear h
  have d0 : decide (a < 0) = false := by simpa using h0
  have d1 : decide (m ≤ a) = true := by simpa using h1
  go_enter Try.func15, Try.ntmps15
  go_wp2_with (first | (go_at_call 30; refine (of_ok _ _ _ _ HG.out).mono ?_; rintro e w1 ⟨rfl, hb⟩) | (go_at_call 31; refine (rows_any _ _ _ _ _ hr2 hr3).mono ?_; rintro e w2 ⟨rfl, hb2⟩; obtain ⟨k0hb2, f0hb2, z0hb2⟩ := kp hb2 (w1.heap.size) (by go_size)))
  go_returns
  refine ⟨rfl, ?_⟩
  (repeat' (first | (with_reducible exact Below.refl _ _) | (with_reducible refine Below.setCell ?_ (by go_size) _) | (with_reducible refine bal ?_ _) | (with_reducible refine Below.drew ?_) | (with_reducible refine bdn ?_ _) | (with_reducible refine via ?_ (by with_reducible assumption))))
theorem gat_rangec (m c s a r : Int) (w : World) (h : Good m c s) (h0 : 0 ≤ a) (h1 : a < m) (h2 : r < 0) :
    Calls Try.prog 15 #[G m c s, .int .i64 a, .int .i64 r] w fun e w' => e = .returned (.tuple #[.int .i64 0, .bool false, .int .u16 3]) ∧ Below w.heap.size w w' := by
  obtain ⟨hr2, hr3⟩ := h.rows
  obtain ⟨hbl2, hbl3⟩ := h.blocks
  have hm1 := h.m3
  have hm2 := h.m16
  have hc1 := h.c1
  have hc2 := h.c16
  have hs1 := h.s1
  have hs2 := h.s256
  have HG := Lib.hid ((Good.iff m c s).1 h)
  clear h
  have d0 : decide (a < 0) = false := by simpa using h0
  have d1 : decide (m ≤ a) = false := by simpa using h1
  have d2 : decide (r < 0) = true := by simpa using h2
  go_enter Try.func15, Try.ntmps15
  go_wp2_with (first | (go_at_call 30; refine (of_ok _ _ _ _ HG.out).mono ?_; rintro e w1 ⟨rfl, hb⟩) | (go_at_call 31; refine (rows_any _ _ _ _ _ hr2 hr3).mono ?_; rintro e w2 ⟨rfl, hb2⟩; obtain ⟨k0hb2, f0hb2, z0hb2⟩ := kp hb2 (w1.heap.size) (by go_size)))
  go_returns
  refine ⟨rfl, ?_⟩
  (repeat' (first | (with_reducible exact Below.refl _ _) | (with_reducible refine Below.setCell ?_ (by go_size) _) | (with_reducible refine bal ?_ _) | (with_reducible refine Below.drew ?_) | (with_reducible refine bdn ?_ _) | (with_reducible refine via ?_ (by with_reducible assumption))))
theorem gat_ranged (m c s a r : Int) (w : World) (h : Good m c s) (h0 : 0 ≤ a) (h1 : a < m) (h2 : 0 ≤ r) (h3 : s * c ≤ r) :
    Calls Try.prog 15 #[G m c s, .int .i64 a, .int .i64 r] w fun e w' => e = .returned (.tuple #[.int .i64 0, .bool false, .int .u16 3]) ∧ Below w.heap.size w w' := by
  obtain ⟨hr2, hr3⟩ := h.rows
  obtain ⟨hbl2, hbl3⟩ := h.blocks
  have hm1 := h.m3
  have hm2 := h.m16
  have hc1 := h.c1
  have hc2 := h.c16
  have hs1 := h.s1
  have hs2 := h.s256
  have HG := Lib.hid ((Good.iff m c s).1 h)
  clear h
  have d0 : decide (a < 0) = false := by simpa using h0
  have d1 : decide (m ≤ a) = false := by simpa using h1
  have d2 : decide (r < 0) = false := by simpa using h2
  have d3 : decide (s * c ≤ r) = true := by simpa using h3
  go_enter Try.func15, Try.ntmps15
  go_wp2_with (first | (go_at_call 30; refine (of_ok _ _ _ _ HG.out).mono ?_; rintro e w1 ⟨rfl, hb⟩) | (go_at_call 31; refine (rows_any _ _ _ _ _ hr2 hr3).mono ?_; rintro e w2 ⟨rfl, hb2⟩; obtain ⟨k0hb2, f0hb2, z0hb2⟩ := kp hb2 (w1.heap.size) (by go_size)))
  go_returns
  refine ⟨rfl, ?_⟩
  (repeat' (first | (with_reducible exact Below.refl _ _) | (with_reducible refine Below.setCell ?_ (by go_size) _) | (with_reducible refine bal ?_ _) | (with_reducible refine Below.drew ?_) | (with_reducible refine bdn ?_ _) | (with_reducible refine via ?_ (by with_reducible assumption))))
def atI (m c a r : Int) : Int := (a - mem m (r / c) 0 + m) % m
theorem mem_bd {m : Int} (n i : Int) (h : 3 ≤ m) : 0 ≤ mem m n i ∧ mem m n i < m :=
  ⟨Int.emod_nonneg _ (by omega), Int.emod_lt_of_pos _ (by omega)⟩
set_option maxHeartbeats 400000 in
theorem gat_par (m c s a r : Int) (w : World) (h : Good m c s) (h0 : 0 ≤ a) (h1 : a < m) (h2 : 0 ≤ r) (h3 : r < s * c) (hp : atI m c a r = m - 1) :
    Calls Try.prog 15 #[G m c s, .int .i64 a, .int .i64 r] w fun e w' => e = .returned (.tuple #[.int .i64 0, .bool true, .int .u16 0]) ∧ Below w.heap.size w w' := by
  obtain ⟨hr2, hr3⟩ := h.rows
  obtain ⟨hbl2, hbl3⟩ := h.blocks
  have hm1 := h.m3
  have hm2 := h.m16
  have hc1 := h.c1
  have hc2 := h.c16
  have hs1 := h.s1
  have hs2 := h.s256
  have HG := Lib.hid ((Good.iff m c s).1 h)
  clear h
  have hst0 : 0 ≤ r / c := Int.ediv_nonneg h2 (by omega)
  have hst1 : r / c < s := Int.ediv_lt_of_lt_mul (by omega) h3
  obtain ⟨hu0, hu1⟩ := mem_bd (r / c) 0 hm1
  have hi0 : 0 ≤ atI m c a r := Int.emod_nonneg _ (by omega)
  have hi1 : atI m c a r < m := Int.emod_lt_of_pos _ (by omega)
  have hj0 : 0 ≤ r % c := Int.emod_nonneg _ (by omega)
  have hj1 : r % c < c := Int.emod_lt_of_pos _ (by omega)
  have d0 : decide (a < 0) = false := by simpa using h0
  have d1 : decide (m ≤ a) = false := by simpa using h1
  have d2 : decide (r < 0) = false := by simpa using h2
  have d3 : decide (s * c ≤ r) = false := by simpa using h3
  have q1 : r.tdiv c = r / c := Int.tdiv_eq_ediv_of_nonneg h2
  have q2 : r.tmod c = r % c := Int.tmod_eq_emod_of_nonneg h2
  have q3 : IntKind.i64.wrap (r / c) = r / c := IntWalk.i64_in _ (by omega)
  have q4 : IntKind.i64.wrap (a - mem m (r / c) 0) = a - mem m (r / c) 0 := IntWalk.i64_in _ (by omega)
  have q5 : IntKind.i64.wrap (a - mem m (r / c) 0 + m) = a - mem m (r / c) 0 + m := IntWalk.i64_in _ (by omega)
  have q6 : (a - mem m (r / c) 0 + m).tmod m = atI m c a r := Int.tmod_eq_emod_of_nonneg (by omega)
  have c0 : ¬ c = 0 := by omega
  have m0 : ¬ m = 0 := by omega
  have c1 : 1 ≤ c := by omega
  have hp1 : (atI m c a r == m - 1) = true := by simpa using hp
  have HP := Lib.hid hp
  clear hp
  go_enter Try.func15, Try.ntmps15
  go_wp2_with (first | (go_at_call 30; refine (of_ok _ _ _ _ HG.out).mono ?_; rintro e w1 ⟨rfl, hb⟩) | (go_at_call 31; refine (rows_any _ _ _ _ _ hr2 hr3).mono ?_; rintro e w2 ⟨rfl, hb2⟩; obtain ⟨k0hb2, f0hb2, z0hb2⟩ := kp hb2 (w1.heap.size) (by go_size)))
  go_region_held3 (fun w' => w'.cell? ⟨w1.heap.size, 0, none⟩ = some (.int .i64 m) ∧ w'.cell? ⟨w1.heap.size, 1, none⟩ = some (.int .i64 c) ∧ w'.cell? ⟨w1.heap.size, 2, none⟩ = some (.int .i64 s) ∧ w'.cell? ⟨w1.heap.size, 3, none⟩ = some (.int .i64 (m - 1))) ((simp [*, go_sem]; done))
    (first | (go_at_call 32; refine (member_any _ _ _ _ _ _ _ hst0 hm1 hm2 (by omega) (by omega)).mono ?_; rintro e w3 ⟨rfl, hb3⟩; obtain ⟨k0hb3, f0hb3, z0hb3⟩ := kp hb3 (w1.heap.size) (by go_size)))
  go_wp2
  go_returns
  refine ⟨rfl, ?_⟩
  (repeat' (first | (with_reducible exact Below.refl _ _) | (with_reducible refine Below.setCell ?_ (by go_size) _) | (with_reducible refine bal ?_ _) | (with_reducible refine Below.drew ?_) | (with_reducible refine bdn ?_ _) | (with_reducible refine via ?_ (by with_reducible assumption))))
set_option maxHeartbeats 400000 in
theorem gat_blk (m c s a r : Int) (w : World) (h : Good m c s) (h0 : 0 ≤ a) (h1 : a < m) (h2 : 0 ≤ r) (h3 : r < s * c) (hp : ¬ atI m c a r = m - 1) :
    Calls Try.prog 15 #[G m c s, .int .i64 a, .int .i64 r] w fun e w' => e = .returned (.tuple #[.int .i64 ((r / c * (m - 1) + atI m c a r) * c + r % c), .bool false, .int .u16 0]) ∧ Below w.heap.size w w' := by
  obtain ⟨hr2, hr3⟩ := h.rows
  obtain ⟨hbl2, hbl3⟩ := h.blocks
  have hm1 := h.m3
  have hm2 := h.m16
  have hc1 := h.c1
  have hc2 := h.c16
  have hs1 := h.s1
  have hs2 := h.s256
  have HG := Lib.hid ((Good.iff m c s).1 h)
  clear h
  have hst0 : 0 ≤ r / c := Int.ediv_nonneg h2 (by omega)
  have hst1 : r / c < s := Int.ediv_lt_of_lt_mul (by omega) h3
  obtain ⟨hu0, hu1⟩ := mem_bd (r / c) 0 hm1
  have hi0 : 0 ≤ atI m c a r := Int.emod_nonneg _ (by omega)
  have hi1 : atI m c a r < m := Int.emod_lt_of_pos _ (by omega)
  have hj0 : 0 ≤ r % c := Int.emod_nonneg _ (by omega)
  have hj1 : r % c < c := Int.emod_lt_of_pos _ (by omega)
  have d0 : decide (a < 0) = false := by simpa using h0
  have d1 : decide (m ≤ a) = false := by simpa using h1
  have d2 : decide (r < 0) = false := by simpa using h2
  have d3 : decide (s * c ≤ r) = false := by simpa using h3
  have q1 : r.tdiv c = r / c := Int.tdiv_eq_ediv_of_nonneg h2
  have q2 : r.tmod c = r % c := Int.tmod_eq_emod_of_nonneg h2
  have q3 : IntKind.i64.wrap (r / c) = r / c := IntWalk.i64_in _ (by omega)
  have q4 : IntKind.i64.wrap (a - mem m (r / c) 0) = a - mem m (r / c) 0 := IntWalk.i64_in _ (by omega)
  have q5 : IntKind.i64.wrap (a - mem m (r / c) 0 + m) = a - mem m (r / c) 0 + m := IntWalk.i64_in _ (by omega)
  have q6 : (a - mem m (r / c) 0 + m).tmod m = atI m c a r := Int.tmod_eq_emod_of_nonneg (by omega)
  have c0 : ¬ c = 0 := by omega
  have m0 : ¬ m = 0 := by omega
  have c1 : 1 ≤ c := by omega
  have hp1 : (atI m c a r == m - 1) = false := by simpa using hp
  have HP := Lib.hid hp
  clear hp
  obtain ⟨x1, x2⟩ := mul_bd (a := r / c) (b := m - 1) (A := 256) (B := 15) hst0 (by omega) (by omega) (by omega)
  obtain ⟨x3, x4⟩ := mul_bd (a := r / c * (m - 1) + atI m c a r) (b := c) (A := 3860) (B := 16) (by omega) (by omega) (by omega) (by omega)
  have y1 : IntKind.i64.wrap (r / c * (m - 1)) = r / c * (m - 1) := IntWalk.i64_in _ (by omega)
  have y2 : IntKind.i64.wrap (r / c * (m - 1) + atI m c a r) = r / c * (m - 1) + atI m c a r := IntWalk.i64_in _ (by omega)
  have y3 : IntKind.i64.wrap ((r / c * (m - 1) + atI m c a r) * c) = (r / c * (m - 1) + atI m c a r) * c := IntWalk.i64_in _ (by omega)
  have y4 : IntKind.i64.wrap ((r / c * (m - 1) + atI m c a r) * c + r % c) = (r / c * (m - 1) + atI m c a r) * c + r % c := IntWalk.i64_in _ (by omega)
  go_enter Try.func15, Try.ntmps15
  go_wp2_with (first | (go_at_call 30; refine (of_ok _ _ _ _ HG.out).mono ?_; rintro e w1 ⟨rfl, hb⟩) | (go_at_call 31; refine (rows_any _ _ _ _ _ hr2 hr3).mono ?_; rintro e w2 ⟨rfl, hb2⟩; obtain ⟨k0hb2, f0hb2, z0hb2⟩ := kp hb2 (w1.heap.size) (by go_size)))
  go_region_held3 (fun w' => w'.cell? ⟨w1.heap.size, 0, none⟩ = some (.int .i64 m) ∧ w'.cell? ⟨w1.heap.size, 1, none⟩ = some (.int .i64 c) ∧ w'.cell? ⟨w1.heap.size, 2, none⟩ = some (.int .i64 s) ∧ w'.cell? ⟨w1.heap.size, 3, none⟩ = some (.int .i64 (m - 1))) ((simp [*, go_sem]; done))
    (first | (go_at_call 32; refine (member_any _ _ _ _ _ _ _ hst0 hm1 hm2 (by omega) (by omega)).mono ?_; rintro e w3 ⟨rfl, hb3⟩; obtain ⟨k0hb3, f0hb3, z0hb3⟩ := kp hb3 (w1.heap.size) (by go_size)))
  go_wp2
  go_quiet (fail)
  go_wp2
  go_returns
  refine ⟨rfl, ?_⟩
  (repeat' (first | (with_reducible exact Below.refl _ _) | (with_reducible refine Below.setCell ?_ (by go_size) _) | (with_reducible refine bal ?_ _) | (with_reducible refine Below.drew ?_) | (with_reducible refine bdn ?_ _) | (with_reducible refine via ?_ (by with_reducible assumption))))
end Go.Proofs.Ytdgbdbploghhgaa
