/- The contracts of geom.Parity outside its range, Of, At: what they return, and that they leave old memory as it was. Conditions: as stated at each. -/
import Derived.Test.YtdgbdbploghhgaaGb
import Derived.Handy
namespace Go.Proofs.Ytdgbdbploghhgaa
open Go.RowKit
theorem kp {W w1 : World} (hb : Below W.heap.size W w1) (B : Nat) (h : B < W.heap.size) : (∀ o, w1.cell? ⟨B, o, none⟩ = W.cell? ⟨B, o, none⟩) ∧ (∀ o, w1.frozen? ⟨B, o, none⟩ = W.frozen? ⟨B, o, none⟩) ∧ B < w1.heap.size :=
  ⟨fun o => hb.cell (p := ⟨B, o, none⟩) h, fun o => hb.frozen (p := ⟨B, o, none⟩) h, Nat.lt_of_lt_of_le h hb.size⟩
def Pl (a b c d : Int) : Value := .agg #[.int .i64 a, .int .i64 b, .int .i64 c, .int .i64 d]
theorem gparity_bad (m c s r : Int) (w : World) (h : ¬ Good m c s) :
    Calls Try.prog 13 #[G m c s, .int .i64 r] w fun e w' => e = .returned (.tuple #[.int .i64 0, .int .u16 60]) ∧ Below w.heap.size w w' := by
  have HG := Lib.hid (fun h' => h ((Good.iff m c s).2 h'))
  clear h
  go_enter Try.func13, Try.ntmps13
  go_wp2_with (first | (go_at_call 30; refine (of_bad _ _ _ _ HG.out).mono ?_; rintro e w1 ⟨rfl, hb⟩))
  go_returns
  refine ⟨rfl, ?_⟩
  (repeat' (first | (with_reducible exact Below.refl _ _) | (with_reducible refine Below.setCell ?_ (by go_size) _) | (with_reducible refine bal ?_ _) | (with_reducible refine Below.drew ?_) | (with_reducible refine bdn ?_ _) | (with_reducible refine via ?_ (by with_reducible assumption))))
theorem gparity_rangea (m c s r : Int) (w : World) (h : Good m c s) (hr : r < 0) :
    Calls Try.prog 13 #[G m c s, .int .i64 r] w fun e w' => e = .returned (.tuple #[.int .i64 0, .int .u16 3]) ∧ Below w.heap.size w w' := by
  obtain ⟨hr2, hr3⟩ := h.rows
  obtain ⟨hbl2, hbl3⟩ := h.blocks
  have hm1 := h.m3
  have hm2 := h.m16
  have hc1 := h.c1
  have hc2 := h.c16
  have hs1 := h.s1
  have hs2 := h.s256
  have HG := Lib.hid ((Good.iff m c s).1 h)
  clear h
  go_enter Try.func13, Try.ntmps13
  go_wp2_with (first | (go_at_call 30; refine (of_ok _ _ _ _ HG.out).mono ?_; rintro e w1 ⟨rfl, hb⟩) | (go_at_call 31; refine (rows_any _ _ _ _ _ hr2 hr3).mono ?_; rintro e w2 ⟨rfl, hb2⟩; obtain ⟨k0hb2, f0hb2, z0hb2⟩ := kp hb2 (w1.heap.size) (by go_size)))
  go_returns
  refine ⟨rfl, ?_⟩
  (repeat' (first | (with_reducible exact Below.refl _ _) | (with_reducible refine Below.setCell ?_ (by go_size) _) | (with_reducible refine bal ?_ _) | (with_reducible refine Below.drew ?_) | (with_reducible refine bdn ?_ _) | (with_reducible refine via ?_ (by with_reducible assumption))))
theorem gparity_rangeb (m c s r : Int) (w : World) (h : Good m c s) (hr : s * c ≤ r) :
    Calls Try.prog 13 #[G m c s, .int .i64 r] w fun e w' => e = .returned (.tuple #[.int .i64 0, .int .u16 3]) ∧ Below w.heap.size w w' := by
  obtain ⟨hr2, hr3⟩ := h.rows
  obtain ⟨hbl2, hbl3⟩ := h.blocks
  have hm1 := h.m3
  have hm2 := h.m16
  have hc1 := h.c1
  have hc2 := h.c16
  have hs1 := h.s1
  have hs2 := h.s256
  have HG := Lib.hid ((Good.iff m c s).1 h)
  clear h
  have h0 : ¬ r < 0 := by omega
  have hn : decide (r < 0) = false := by simpa using h0
  go_enter Try.func13, Try.ntmps13
  go_wp2_with (first | (go_at_call 30; refine (of_ok _ _ _ _ HG.out).mono ?_; rintro e w1 ⟨rfl, hb⟩) | (go_at_call 31; refine (rows_any _ _ _ _ _ hr2 hr3).mono ?_; rintro e w2 ⟨rfl, hb2⟩; obtain ⟨k0hb2, f0hb2, z0hb2⟩ := kp hb2 (w1.heap.size) (by go_size)))
  go_returns
  refine ⟨rfl, ?_⟩
  (repeat' (first | (with_reducible exact Below.refl _ _) | (with_reducible refine Below.setCell ?_ (by go_size) _) | (with_reducible refine bal ?_ _) | (with_reducible refine Below.drew ?_) | (with_reducible refine bdn ?_ _) | (with_reducible refine via ?_ (by with_reducible assumption))))
theorem gof_bad (m c s b : Int) (w : World) (h : ¬ Good m c s) :
    Calls Try.prog 12 #[G m c s, .int .i64 b] w fun e w' => e = .returned (.tuple #[Pl 0 0 0 0, .int .u16 60]) ∧ Below w.heap.size w w' := by
  have HG := Lib.hid (fun h' => h ((Good.iff m c s).2 h'))
  clear h
  go_enter Try.func12, Try.ntmps12
  go_wp2_with (first | (go_at_call 30; refine (of_bad _ _ _ _ HG.out).mono ?_; rintro e w1 ⟨rfl, hb⟩; obtain ⟨k0hb, f0hb, z0hb⟩ := kp hb (w.heap.size + 1) (by go_size)))
  refine bodyPost_ret (v := .tuple #[Pl 0 0 0 0, .int .u16 60]) (by simp [results, Try.results12, go_sem, Pl, *]) rfl ⟨rfl, ?_⟩
  (repeat' (first | (with_reducible exact Below.refl _ _) | (with_reducible refine Below.setCell ?_ (by go_size) _) | (with_reducible refine bal ?_ _) | (with_reducible refine Below.drew ?_) | (with_reducible refine bdn ?_ _) | (with_reducible refine via ?_ (by with_reducible assumption))))
theorem gof_rangea (m c s b : Int) (w : World) (h : Good m c s) (h1 : b < 0) :
    Calls Try.prog 12 #[G m c s, .int .i64 b] w fun e w' => e = .returned (.tuple #[Pl 0 0 0 0, .int .u16 3]) ∧ Below w.heap.size w w' := by
  obtain ⟨hr2, hr3⟩ := h.rows
  obtain ⟨hbl2, hbl3⟩ := h.blocks
  have hm1 := h.m3
  have hm2 := h.m16
  have hc1 := h.c1
  have hc2 := h.c16
  have hs1 := h.s1
  have hs2 := h.s256
  have HG := Lib.hid ((Good.iff m c s).1 h)
  clear h
  have d0 : decide (b < 0) = true := by simpa using h1
  go_enter Try.func12, Try.ntmps12
  go_wp2_with (first | (go_at_call 30; refine (of_ok _ _ _ _ HG.out).mono ?_; rintro e w1 ⟨rfl, hb⟩; obtain ⟨k0hb, f0hb, z0hb⟩ := kp hb (w.heap.size + 1) (by go_size)) | (go_at_call 31; refine (rows_any _ _ _ _ _ hr2 hr3).mono ?_; rintro e w2 ⟨rfl, hb2⟩; obtain ⟨k0hb2, f0hb2, z0hb2⟩ := kp hb2 (w1.heap.size) (by go_size); obtain ⟨k1hb2, f1hb2, z1hb2⟩ := kp hb2 (w.heap.size + 1) (by go_size)))
  go_quiet (fail)
  go_wp2
  refine bodyPost_ret (v := .tuple #[Pl 0 0 0 0, .int .u16 3]) (by simp [results, Try.results12, go_sem, Pl, *]) rfl ⟨rfl, ?_⟩
  (repeat' (first | (with_reducible exact Below.refl _ _) | (with_reducible refine Below.setCell ?_ (by go_size) _) | (with_reducible refine bal ?_ _) | (with_reducible refine Below.drew ?_) | (with_reducible refine bdn ?_ _) | (with_reducible refine via ?_ (by with_reducible assumption))))
theorem gof_rangeb (m c s b : Int) (w : World) (h : Good m c s) (h1 : s * c * (m - 1) ≤ b) :
    Calls Try.prog 12 #[G m c s, .int .i64 b] w fun e w' => e = .returned (.tuple #[Pl 0 0 0 0, .int .u16 3]) ∧ Below w.heap.size w w' := by
  obtain ⟨hr2, hr3⟩ := h.rows
  obtain ⟨hbl2, hbl3⟩ := h.blocks
  have hm1 := h.m3
  have hm2 := h.m16
  have hc1 := h.c1
  have hc2 := h.c16
  have hs1 := h.s1
  have hs2 := h.s256
  have HG := Lib.hid ((Good.iff m c s).1 h)
  clear h
  have h0 : 0 ≤ b := by omega
  have d0 : decide (b < 0) = false := by simpa using h0
  have d1 : decide (s * c * (m - 1) ≤ b) = true := by simpa using h1
  have w3 : IntKind.i64.wrap (s * c * (m - 1)) = s * c * (m - 1) := IntWalk.i64_in _ (by omega)
  go_enter Try.func12, Try.ntmps12
  go_wp2_with (first | (go_at_call 30; refine (of_ok _ _ _ _ HG.out).mono ?_; rintro e w1 ⟨rfl, hb⟩; obtain ⟨k0hb, f0hb, z0hb⟩ := kp hb (w.heap.size + 1) (by go_size)))
  go_region_held3 (fun w' => w'.cell? ⟨w1.heap.size, 0, none⟩ = some (.int .i64 m) ∧ w'.cell? ⟨w1.heap.size, 1, none⟩ = some (.int .i64 c) ∧ w'.cell? ⟨w1.heap.size, 2, none⟩ = some (.int .i64 s) ∧ w'.cell? ⟨w1.heap.size, 3, none⟩ = some (.int .i64 (m - 1))) ((simp [*, go_sem]; done))
    (first | (go_at_call 31; refine (rows_any _ _ _ _ _ hr2 hr3).mono ?_; rintro e w2 ⟨rfl, hb2⟩; obtain ⟨k0hb2, f0hb2, z0hb2⟩ := kp hb2 (w1.heap.size) (by go_size); obtain ⟨k1hb2, f1hb2, z1hb2⟩ := kp hb2 (w.heap.size + 1) (by go_size)))
  go_wp2
  refine bodyPost_ret (v := .tuple #[Pl 0 0 0 0, .int .u16 3]) (by simp [results, Try.results12, go_sem, Pl, *]) rfl ⟨rfl, ?_⟩
  (repeat' (first | (with_reducible exact Below.refl _ _) | (with_reducible refine Below.setCell ?_ (by go_size) _) | (with_reducible refine bal ?_ _) | (with_reducible refine Below.drew ?_) | (with_reducible refine bdn ?_ _) | (with_reducible refine via ?_ (by with_reducible assumption))))
set_option maxHeartbeats 400000 in
theorem gof_ok (m c s b : Int) (w : World) (h : Good m c s) (h0 : 0 ≤ b) (h1 : b < s * c * (m - 1)) :
    Calls Try.prog 12 #[G m c s, .int .i64 b] w fun e w' => e = .returned (.tuple #[Pl (b / ((m - 1) * c)) (b / ((m - 1) * c) * c + b % ((m - 1) * c) % c) (mem m (b / ((m - 1) * c)) (b % ((m - 1) * c) / c)) (par m (b / ((m - 1) * c))), .int .u16 0]) ∧ Below w.heap.size w w' := by
  obtain ⟨hr2, hr3⟩ := h.rows
  obtain ⟨hbl2, hbl3⟩ := h.blocks
  have hm1 := h.m3
  have hm2 := h.m16
  have hc1 := h.c1
  have hc2 := h.c16
  have hs1 := h.s1
  have hs2 := h.s256
  have HG := Lib.hid ((Good.iff m c s).1 h)
  obtain ⟨he1, he2⟩ := mul_bd (a := m - 1) (b := c) (A := 15) (B := 16) (by omega) (by omega) (by omega) (by omega)
  have he3 : 1 ≤ (m - 1) * c := Int.mul_pos (by omega) (by omega)
  clear h
  obtain ⟨E, hE⟩ : ∃ E, E = (m - 1) * c := ⟨_, rfl⟩
  rw [← hE] at he1 he2 he3 ⊢
  have hst0 : 0 ≤ b / E := Int.ediv_nonneg h0 (by omega)
  have hst1 : b / E < s := by
    apply Int.ediv_lt_of_lt_mul (by omega)
    rw [hE, Int.mul_comm (m - 1) c, ← Int.mul_assoc]; exact h1
  have hi0 : 0 ≤ b % E := Int.emod_nonneg _ (by omega)
  have hi1 : b % E < E := Int.emod_lt_of_pos _ (by omega)
  have hj0 : 0 ≤ b % E % c := Int.emod_nonneg _ (by omega)
  have hj1 : b % E % c < c := Int.emod_lt_of_pos _ (by omega)
  have hk0 : 0 ≤ b % E / c := Int.ediv_nonneg hi0 (by omega)
  have hk1 : b % E / c < m - 1 := by
    apply Int.ediv_lt_of_lt_mul (by omega); rw [← hE]; exact hi1
  obtain ⟨hx1, hx2⟩ := mul_bd (a := b / E) (b := c) (A := 256) (B := 16) hst0 (by omega) (by omega) (by omega)
  have d0 : decide (b < 0) = false := by simpa using h0
  have d1 : decide (s * c * (m - 1) ≤ b) = false := by simpa using h1
  have hEr : (m - 1) * c = E := hE.symm
  have w0 : IntKind.i64.wrap E = E := IntWalk.i64_in _ (by omega)
  have w3 : IntKind.i64.wrap (s * c * (m - 1)) = s * c * (m - 1) := IntWalk.i64_in _ (by omega)
  have q1 : b.tdiv E = b / E := Int.tdiv_eq_ediv_of_nonneg h0
  have q2 : b.tmod E = b % E := Int.tmod_eq_emod_of_nonneg h0
  have q3 : IntKind.i64.wrap (b / E) = b / E := IntWalk.i64_in _ (by omega)
  have q4 : (b % E).tmod c = b % E % c := Int.tmod_eq_emod_of_nonneg hi0
  have q5 : (b % E).tdiv c = b % E / c := Int.tdiv_eq_ediv_of_nonneg hi0
  have q6 : IntKind.i64.wrap (b % E / c) = b % E / c := IntWalk.i64_in _ (by omega)
  have q7 : IntKind.i64.wrap (b / E * c) = b / E * c := IntWalk.i64_in _ (by omega)
  have q8 : IntKind.i64.wrap (b / E * c + b % E % c) = b / E * c + b % E % c := IntWalk.i64_in _ (by omega)
  have E0 : ¬ E = 0 := by omega
  have c0 : ¬ c = 0 := by omega
  clear hE
  go_enter Try.func12, Try.ntmps12
  go_wp2_with (first | (go_at_call 30; refine (of_ok _ _ _ _ HG.out).mono ?_; rintro e w1 ⟨rfl, hb⟩; obtain ⟨k0hb, f0hb, z0hb⟩ := kp hb (w.heap.size + 1) (by go_size)))
  go_region_held3 (fun w' => w'.cell? ⟨w1.heap.size, 0, none⟩ = some (.int .i64 m) ∧ w'.cell? ⟨w1.heap.size, 1, none⟩ = some (.int .i64 c) ∧ w'.cell? ⟨w1.heap.size, 2, none⟩ = some (.int .i64 s) ∧ w'.cell? ⟨w1.heap.size, 3, none⟩ = some (.int .i64 (m - 1))) ((simp [*, go_sem]; done))
    (first | (go_at_call 31; refine (rows_any _ _ _ _ _ hr2 hr3).mono ?_; rintro e w2 ⟨rfl, hb2⟩; obtain ⟨k0hb2, f0hb2, z0hb2⟩ := kp hb2 (w1.heap.size) (by go_size); obtain ⟨k1hb2, f1hb2, z1hb2⟩ := kp hb2 (w.heap.size + 1) (by go_size)))
  go_wp2
  go_quiet (fail)
  go_wp2
  go_region_held3 (fun w' => w'.cell? ⟨w1.heap.size, 0, none⟩ = some (.int .i64 m) ∧ w'.cell? ⟨w1.heap.size, 1, none⟩ = some (.int .i64 c) ∧ w'.cell? ⟨w1.heap.size, 2, none⟩ = some (.int .i64 s) ∧ w'.cell? ⟨w1.heap.size, 3, none⟩ = some (.int .i64 (m - 1))) ((simp [*, go_sem]; done))
    (first | (go_at_call 32; refine (member_any _ _ _ _ _ _ _ hst0 hm1 hm2 hk0 (by omega)).mono ?_; rintro e w3 ⟨rfl, hb3⟩; obtain ⟨k0hb3, f0hb3, z0hb3⟩ := kp hb3 (w1.heap.size) (by go_size); obtain ⟨k1hb3, f1hb3, z1hb3⟩ := kp hb3 (w.heap.size + 1) (by go_size)) | (go_at_call 33; refine (parity_any _ _ _ _ _ _ hst0 hm1 hm2).mono ?_; rintro e w4 ⟨rfl, hb4⟩; obtain ⟨k0hb4, f0hb4, z0hb4⟩ := kp hb4 (w1.heap.size) (by go_size); obtain ⟨k1hb4, f1hb4, z1hb4⟩ := kp hb4 (w.heap.size + 1) (by go_size)))
  go_wp2
  refine bodyPost_ret (v := .tuple #[Pl (b / E) (b / E * c + b % E % c) (mem m (b / E) (b % E / c)) (par m (b / E)), .int .u16 0]) (by simp [results, Try.results12, go_sem, Pl, *]) rfl ⟨rfl, ?_⟩
  (repeat' (first | (with_reducible exact Below.refl _ _) | (with_reducible refine Below.setCell ?_ (by go_size) _) | (with_reducible refine bal ?_ _) | (with_reducible refine Below.drew ?_) | (with_reducible refine bdn ?_ _) | (with_reducible refine via ?_ (by with_reducible assumption))))
end Go.Proofs.Ytdgbdbploghhgaa
