/- 'GeomBack': At of Of is the block, Of of At is the place, a row's members and its parity are all members, each once, and over as many stripes as members each has the parity once: the law returns true, and its arguments read as they did. Conditions: none. -/
import Derived.Test.YtdgbdbploghhgaaBl
import Derived.Test.YtdgbdbploghhgaaLw
namespace Go.Proofs.Ytdgbdbploghhgaa.Back
open Go.ChangeShapes Go.WideShapes Go.ChangeAt Go.RowKit
theorem fix_tmod (x n : Int) (h : 0 < n) : ∃ t b, x.tmod n = t ∧ ((t < 0 ∧ t + n = b) ∨ (0 ≤ t ∧ t = b)) ∧ 0 ≤ b ∧ b < n := by
  have h1 := Int.tmod_lt_of_pos x h
  have h2 := Int.lt_tmod_of_pos x h
  by_cases ht : x.tmod n < 0
  · exact ⟨_, _, rfl, .inl ⟨ht, rfl⟩, by omega, by omega⟩
  · exact ⟨_, _, rfl, .inr ⟨by omega, rfl⟩, by omega, h1⟩
theorem make_zero (w : World) (N : Nat) (h : N ≤ 1000) : (Instr.makeSlice 37 (.int .i64 ((N : Int) + 1)) (.int .i64 ((N : Int) + 1))).run Try.prog w = .ok (.slice (some ⟨w.heap.size, 0, none⟩) (N + 1) (N + 1)) (w.alloc (.cells (arrA (N + 1) (fun _ => 0)) 3)) := by
  have := make_ints (fun _ => 0) w (N + 1) (by omega)
  rw [arrA_zero] at this
  exact this
def Ret1 (f : Nat) (m c s v : Int) : Prop := ∀ w, Calls Try.prog f #[G m c s] w fun e w' => e = .returned (.int .i64 v) ∧ Below w.heap.size w w'
def dropSeq : Nat → Code → Code
  | 0, c => c
  | n + 1, .seq _ b => dropSeq n b
  | _, c => c
theorem keepB {W w' : World} {b : Nat} {o : Obj} (h : W.heap[b]? = some o) (hb : Below W.heap.size W w') : w'.heap[b]? = some o := (hb.block _ (Array.getElem?_eq_some_iff.1 h).1).trans h
theorem g3 {w : World} {b : Nat} {x y z : Value} {T : TypeId} (h : w.heap[b]? = some (.cells #[x, y, z] T (0, 0))) : w.cell? ⟨b, 0, none⟩ = some x ∧ w.cell? ⟨b, 1, none⟩ = some y ∧ w.cell? ⟨b, 2, none⟩ = some z ∧ b < w.heap.size :=
  ⟨(cr h).1 0, (cr h).1 1, (cr h).1 2, (cr h).2.2⟩
theorem p4 {w : World} {b : Nat} {x y z u : Value} {T : TypeId} (h : w.heap[b]? = some (.cells #[x, y, z, u] T (0, 0))) : w.cell? ⟨b, 0, none⟩ = some x ∧ w.cell? ⟨b, 1, none⟩ = some y ∧ w.cell? ⟨b, 2, none⟩ = some z ∧ w.cell? ⟨b, 3, none⟩ = some u ∧ b < w.heap.size :=
  ⟨(cr h).1 0, (cr h).1 1, (cr h).1 2, (cr h).1 3, (cr h).2.2⟩
/-- All that is known ahead of the walk. -/
structure Cx (N : Nat) (c s NR NB B R2 A S R M P T2 T3 row member : Int) (y : Nat) (x : Int) (is : Bool) (z : Nat → Int) : Prop where
  N1 : 2 ≤ (N : Int)
  N2 : (N : Int) ≤ 15
  c1 : 1 ≤ c
  c2 : c ≤ 16
  s1 : 1 ≤ s
  s2 : s ≤ 256
  NR1 : 1 ≤ NR
  NR2 : NR ≤ 4096
  NB1 : 1 ≤ NB
  NB2 : NB ≤ 61440
  B0 : 0 ≤ B
  B1 : B < NB
  R20 : 0 ≤ R2
  R21 : R2 < NR
  A0 : 0 ≤ A
  A1 : A < N + 1
  T22 : -4096 ≤ T2
  T23 : T2 ≤ 4096
  T32 : -16 ≤ T3
  T33 : T3 ≤ 16
  b1 : 0 ≤ S
  b2 : S < s
  b3 : 0 ≤ R
  b4 : R < NR
  b5 : 0 ≤ M
  b6 : M < N + 1
  b7 : 0 ≤ P
  b8 : P < N + 1
  y2 : y < N + 1
  hG : Good (N + 1) c s
  t2 : row.tmod NR = T2
  t3 : member.tmod ((N : Int) + 1) = T3
  hT2 : (T2 < 0 ∧ T2 + NR = R2) ∨ (0 ≤ T2 ∧ T2 = R2)
  hT3 : (T3 < 0 ∧ T3 + (N + 1) = A) ∨ (0 ≤ T3 ∧ T3 = A)
  hOf : OfP (N + 1) c s B S R M P
  hAt : AtP (N + 1) c s M R B false
  hRS : R / c = S
  hAt2 : AtP (N + 1) c s A R2 x is
  hcase : (is = true ∧ A = y ∧ x = 0) ∨ (is = false ∧ ¬ A = y ∧ ∃ S', OfP (N + 1) c s x S' R2 A y)
  hz1 : ∀ d : Nat, d < N → AtP (N + 1) c s (mem (N + 1) (R2 / c) d) R2 (z d) false
  hz2 : ∀ d : Nat, 0 < d → z (d - 1) < z d
  hPar : ParP (N + 1) c s R2 y
  hy : par (N + 1) (R2 / c) = y
  eNR : s * c = NR
set_option maxRecDepth 1000000 in
set_option maxHeartbeats 8000000 in
theorem Pt4 {N : Nat} {c s NR NB B R2 A S R M P T2 T3 row member : Int} {y : Nat} {x : Int} {is : Bool} {z : Nat → Int} (HC : Hid (Cx N c s NR NB B R2 A S R M P T2 T3 row member y x is z)) {w0 w1 : World} {gb pb : Nat} (HG : Hid (w1.heap[gb]? = some (.cells #[.int .i64 (N + 1), .int .i64 c, .int .i64 s] 23 (0, 0)))) (HV : Hid (Below w0.heap.size w0 w1)) (HP : Hid (w1.heap[pb]? = some (.cells #[.int .i64 S, .int .i64 R, .int .i64 M, .int .i64 P] 33 (0, 0)))) 
    {u0 u1 u2 u3 u6 u7 u8 u9 u10 u11 u12 u18 u19 u20 u21 u24 u25 u26 u28 u29 u30 u31 u32 u33 u34 u35 u36 u37 u38 u39 u40 u41 u42 u43 u44 u45 u46 u47 u48 u49 u50 u51 u52 u53 u54 u55 u56 u57 u58 u59 u60 u61 u62 u63 u64 u65 u66 u67 u68 u69 u70 u71 u72 u73 u74 u75 u76 u77 u78 u79 u80 u81 u82 u83 u84 u85 u86 u87 u88 u89 u90 u91 u92 u93 u94 u95 u96 u97 u98 u99 u100 u101 u102 u103 u104 u105 u106 u107 u108 u109 u110 u111 u112 u113 u114 u115 u116 u117 u118 u119 u120 u121 u122 u123 u124 u125 u126 u127 u128 u129 u130 u131 u132 u133 u134 u135 u136 u137 u138 u139 u140 u141 u142 u143 u144 u145 u146 u147 u148 u149 u150 u151 u152 u153 u154 u155 u156 u157 u158 u159 u160 u161 u162 u163 u164 u165 u166 u167 u168 u169 u170 u171 u172 u173 u174 u175 u176 u177 u178 u179 u180 u181 u182 u183 u184 u185 u186 u187 u188 u189 u190 u191 u192 u193 u194 u195 u196 u197 u198 u199 u200 u201 u202 u203 u204 u205 u206 u207 u208 u209 u210 u211 u212 u213 u214 u215 u216 u217 u218 u219 u220 u221 u222 u223 u224 u225 u226 u227 u228 u229 u230 u231 u232 u233 u234 u235 u236 u237 u238 u239 u240 u241 u242 u243 u244 u245 u246 u247 u248 u249 u250 u251 u252 u253 u254 u255 u256 u257 u258 u259 u260 u261 u262 u263 u264 u265 u266 u267 u268 u269 u270 u271 u272 u273 u274 u275 u276 u277 u278 u279 u280 u281 u282 u283 u284 u285 u286 u287 u288 u289 u290 u291 u292 u293 u294 u295 u296 u297 u298 u299 u300 u301 u302 u303 u304 u305 u306 u307 u308 u309 u310 u311 u312 u313 u314 u315 u316 u317 u318 u319 u320 u321 u322 u323 u324 u325 u326 u327 u328 u329 u330 u331 u332 u333 u334 u335 u336 u337 u338 u339 u340 u341 u342 u343 u344 u345 u346 u347 u348 u349 u350 u351 u352 u353 u354 : Value} : Code.wp Try.prog (dropSeq 18 (Try.f5.body.getD .skip)) (bodyPost Try.prog Try.f5 fun e w' => e = .returned (.bool true) ∧ Below w0.heap.size w0 w') ⟨#[u0, u1, u2, u3, .int .i64 member, .int .i64 row, u6, u7, u8, u9, u10, u11, u12, .pointer (some ⟨gb, 0, none⟩), .int .i64 NB, .int .i64 NR, .int .i64 B, .pointer (some ⟨pb, 0, none⟩), u18, u19, u20, u21, .int .i64 R2, .int .i64 A, u24, u25, u26, .int .i64 y, u28, u29, u30, u31, u32, u33, u34, u35, u36, u37, u38, u39, u40, u41, u42, u43, u44, u45, u46, u47, u48, u49, u50, u51, u52, u53, u54, u55, u56, u57, u58, u59, u60, u61, u62, u63, u64, u65, u66, u67, u68, u69, u70, u71, u72, u73, u74, u75, u76, u77, u78, u79, u80, u81, u82, u83, u84, u85, u86, u87, u88, u89, u90, u91, u92, u93, u94, u95, u96, u97, u98, u99, u100, u101, u102, u103, u104, u105, u106, u107, u108, u109, u110, u111, u112, u113, u114, u115, u116, u117, u118, u119, u120, u121, u122, u123, u124, u125, u126, u127, u128, u129, u130, u131, u132, u133, u134, u135, u136, u137, u138, u139, u140, u141, u142, u143, u144, u145, u146, u147, u148, u149, u150, u151, u152, u153, u154, u155, u156, u157, u158, u159, u160, u161, u162, u163, u164, u165, u166, u167, u168, u169, u170, u171, u172, u173, u174, u175, u176, u177, u178, u179, u180, u181, u182, u183, u184, u185, u186, u187, u188, u189, u190, u191, u192, u193, u194, u195, u196, u197, u198, u199, u200, u201, u202, u203, u204, u205, u206, u207, u208, u209, u210, u211, u212, u213, u214, u215, u216, u217, u218, u219, u220, u221, u222, u223, u224, u225, u226, u227, u228, u229, u230, u231, u232, u233, u234, u235, u236, u237, u238, u239, u240, u241, u242, u243, u244, u245, u246, u247, u248, u249, u250, u251, u252, u253, u254, u255, u256, u257, u258, u259, u260, u261, u262, u263, u264, u265, u266, u267, u268, u269, u270, u271, u272, u273, u274, u275, u276, u277, u278, u279, u280, u281, u282, u283, u284, u285, u286, u287, u288, u289, u290, u291, u292, u293, u294, u295, u296, u297, u298, u299, u300, u301, u302, u303, u304, u305, u306, u307, u308, u309, u310, u311, u312, u313, u314, u315, u316, u317, u318, u319, u320, u321, u322, u323, u324, u325, u326, u327, u328, u329, u330, u331, u332, u333, u334, u335, u336, u337, u338, u339, u340, u341, u342, u343, u344, u345, u346, u347, u348, u349, u350, u351, u352, u353, u354], []⟩ w1 := by
  conv => arg 2; whnf
  have hcx := HC.out
  have N1 := hcx.N1
  have N2 := hcx.N2
  have c1 := hcx.c1
  have c2 := hcx.c2
  have s1 := hcx.s1
  have s2 := hcx.s2
  have R20 := hcx.R20
  have R21 := hcx.R21
  have y2 := hcx.y2
  have hmemb := fun i : Nat => mem_bd (m := (N : Int) + 1) (R2 / c) i hcx.hG.m3
  have HMb := Lib.hid hmemb
  have HMem := Lib.hid (fun w' => gmembers_ok N c s R2 w' hcx.hG R20 (by rw [hcx.eNR]; exact R21))
  have HZ1 := Lib.hid hcx.hz1
  have HZ2 := Lib.hid hcx.hz2
  have hmk := fun w => make_zero w N (by omega)
  obtain ⟨f, hf⟩ : ∃ f : Nat → Int, (fun i : Nat => mem ((N : Int) + 1) (R2 / c) (i : Int)) = f := ⟨_, rfl⟩
  have HF := Lib.hid (show ∀ i : Nat, mem ((N : Int) + 1) (R2 / c) i = f i from fun i => congrFun hf i)
  rw [hf] at HMem
  have HMb2 := Lib.hid (show ∀ i : Nat, 0 ≤ f i ∧ f i < (N : Int) + 1 from fun i => by rw [← HF.out i]; exact HMb.out i)
  clear hcx hmemb HMb hf
  have HGb1 := Lib.hid HG.out
  have HV1 := Lib.hid HV.out
  clear HG HV
  have HPb1 := Lib.hid HP.out
  clear HP
  obtain ⟨g0, g1, g2, gz⟩ := g3 HGb1.out
  obtain ⟨pp0, pp1, pp2, pp3, pz⟩ := p4 HPb1.out
  go_wp2_with fail
  refine (HMem.out _).mono ?_
  rintro e w2 ⟨lg, rfl, hlg, hI, hb⟩
  have HI2 := Lib.hid (show w2.heap[lg]? = some (.cells (fillA N f N) 3 (0, 0)) from hI)
  have HLg := Lib.hid (show w1.heap.size ≤ lg ∧ lg < w2.heap.size from ⟨hlg, lt_of_block hI⟩)
  have HGP := Lib.hid (show gb < w1.heap.size ∧ pb < w1.heap.size from ⟨gz, pz⟩)
  clear hlg hI HMem
  have hbb : Below w1.heap.size w1 w2 := via (Below.refl _ _) hb
  have HGb2 := Lib.hid (keepB HGb1.out hbb)
  have HPb2 := Lib.hid (keepB HPb1.out hbb)
  have HV2 := Lib.hid (via HV1.out hbb)
  clear g0 g1 g2 gz pp0 pp1 pp2 pp3 pz
  clear hb hbb HGb1 HV1 HPb1
  obtain ⟨g0, g1, g2, gz⟩ := g3 HGb2.out
  obtain ⟨pp0, pp1, pp2, pp3, pz⟩ := p4 HPb2.out
  go_upto_region 31 with (fail)
  obtain ⟨w3, hw3⟩ : ∃ w3, w2.alloc (.cells (arrA (N + 1) (fun _ => 0)) 3) = w3 := ⟨_, rfl⟩
  obtain ⟨ab, hab⟩ : ∃ ab, w2.heap.size = ab := ⟨_, rfl⟩
  have HA3 := Lib.hid (show w3.heap[ab]? = some (.cells (arrA (N + 1) (fun _ => 0)) 3 (0, 0)) from by rw [← hw3, ← hab]; exact heap_alloc_new _ _)
  have hb : Below w2.heap.size w2 w3 := by rw [← hw3]; exact (Below.refl _ _).alloc (Nat.le_refl _) _
  have HI3 := Lib.hid (keepB HI2.out hb)
  have HAb := Lib.hid (show ab ≠ gb ∧ ab ≠ pb ∧ ab ≠ lg ∧ w0.heap.size ≤ ab from by
    have h1 := HGP.out; have h2 := HLg.out; have h3 := HV2.out.size; omega)
  rw [hw3, hab]
  clear hw3 hab HI2 hmk
  have hbb : Below w2.heap.size w2 w3 := via (Below.refl _ _) hb
  have HGb3 := Lib.hid (keepB HGb2.out hbb)
  have HPb3 := Lib.hid (keepB HPb2.out hbb)
  have HV3 := Lib.hid (via HV2.out hbb)
  clear g0 g1 g2 gz pp0 pp1 pp2 pp3 pz
  clear hb hbb HGb2 HV2 HPb2
  obtain ⟨g0, g1, g2, gz⟩ := g3 HGb3.out
  obtain ⟨pp0, pp1, pp2, pp3, pz⟩ := p4 HPb3.out
  have cA := (cr HA3.out).1 y
  rw [arrA_get _ _ _ y2] at cA
  have fA := (cr HA3.out).2.1 y
  have i1 : (0 : Int) ≤ (y : Int) := by omega
  have i2 : (y : Int) < (N : Int) + 1 := by omega
  go_wp2
  obtain ⟨w4, hw4⟩ : ∃ w4, w3.setCell ⟨ab, y, none⟩ (.int .i64 1) = w4 := ⟨_, rfl⟩
  have HA4 := Lib.hid (show w4.heap[ab]? = some (.cells (arrA (N + 1) (fun x => if y = x then 1 else 0)) 3 (0, 0)) from by
    rw [← hw4, heap_setCell_same _ ab y _ 3 _ HA3.out]
    have := arrA_inc (N + 1) (fun _ => 0) y
    simp only [Int.zero_add] at this
    rw [this])
  have HGb4 := Lib.hid (show w4.heap[gb]? = some (.cells #[.int .i64 (N + 1), .int .i64 c, .int .i64 s] 23 (0, 0)) from by rw [← hw4, heap_setCell_other _ _ _ _ (by have := HAb.out; simp; omega)]; exact HGb3.out)
  have HPb4 := Lib.hid (show w4.heap[pb]? = some (.cells #[.int .i64 S, .int .i64 R, .int .i64 M, .int .i64 P] 33 (0, 0)) from by rw [← hw4, heap_setCell_other _ _ _ _ (by have := HAb.out; simp; omega)]; exact HPb3.out)
  have HI4 := Lib.hid (show w4.heap[lg]? = some (.cells (fillA N f N) 3 (0, 0)) from by rw [← hw4, heap_setCell_other _ _ _ _ (by have := HAb.out; simp; omega)]; exact HI3.out)
  have HV4 := Lib.hid (show Below w0.heap.size w0 w4 from by rw [← hw4]; exact HV3.out.setCell HAb.out.2.2.2 _)
  rw [hw4]
  clear hw4 cA fA i1 i2 HA3 HI3 HGb3 HPb3 HV3
  clear g0 g1 g2 gz pp0 pp1 pp2 pp3 pz
  go_loopw [34] (fun s34 wr => ∃ d : Nat, d ≤ N ∧ s34 = .int .i64 d ∧ wr.heap[gb]? = some (.cells #[.int .i64 (N + 1), .int .i64 c, .int .i64 s] 23 (0, 0)) ∧ wr.heap[pb]? = some (.cells #[.int .i64 S, .int .i64 R, .int .i64 M, .int .i64 P] 33 (0, 0)) ∧ wr.heap[lg]? = some (.cells (fillA N f N) 3 (0, 0)) ∧ wr.heap[ab]? = some (.cells (arrA (N + 1) (fun x => (if y = x then 1 else 0) + cnt f d x)) 3 (0, 0)) ∧ Below w0.heap.size w0 wr) (fun s34 _ => N - (intOf s34).toNat)
  case atStart => exact ⟨0, by omega, rfl, HGb4.out, HPb4.out, HI4.out, by rw [HA4.out, arrA_congr _ _ (fun x => (if y = x then 1 else 0) + cnt f 0 x) (fun x _ => by simp [cnt])], HV4.out⟩
  case round =>
    obtain ⟨d, hd, rfl, hg, hp, hl, ha, hv⟩ := hrel
    have HGr := Lib.hid hg
    have HPr := Lib.hid hp
    have HIr := Lib.hid hl
    have HAr := Lib.hid ha
    have HVr := Lib.hid hv
    clear HA4 HI4 HGb4 HPb4 HV4 hp hv
    by_cases hlt : d < N
    · obtain ⟨g0, g1, g2, gz⟩ := g3 hg
      have cl := (cr hl).1 d
      rw [fillA_full _ _ _ hlt] at cl
      have zl := (cr hl).2.2
      obtain ⟨hf0, hf1⟩ := HMb2.out d
      obtain ⟨v, hv⟩ := Int.eq_ofNat_of_zero_le hf0
      rw [hv] at cl hf0 hf1
      have hvN : v < N + 1 := by omega
      have ca := (cr ha).1 v
      rw [arrA_get _ _ _ hvN] at ca
      have fa := (cr ha).2.1 v
      have za := (cr ha).2.2
      have hc1 := (cnt_bd f d v).1
      have hc2 := (cnt_bd f d v).2
      obtain ⟨Q, hQ⟩ : ∃ Q : Int, (if y = v then 1 else 0) + cnt f d v = Q := ⟨_, rfl⟩
      have hQ1 : 0 ≤ Q ∧ Q ≤ 17 := by rw [← hQ]; split <;> omega
      obtain ⟨hQ2, hQ3⟩ := hQ1
      rw [hQ] at ca
      have HVv := Lib.hid hv
      have HQ := Lib.hid hQ
      have i1 : (0 : Int) ≤ (d : Int) := by omega
      have i2 : (d : Int) < (N : Int) := by omega
      have hat := HZ1.out d hlt
      rw [HF.out d, HVv.out] at hat
      have HAtd := Lib.hid hat
      clear hg hl ha hv hQ hc1 hc2 hat
      go_wp2
      go_quiet (fail)
      go_wp2_with fail
      obtain ⟨w5, hw5⟩ : ∃ w5, (wr.drewN nq).setCell ⟨ab, v, none⟩ (.int .i64 (Q + 1)) = w5 := ⟨_, rfl⟩
      have hne := HAb.out
      have HA5 := Lib.hid (show w5.heap[ab]? = some (.cells (arrA (N + 1) (fun x => (if y = x then 1 else 0) + cnt f (d + 1) x)) 3 (0, 0)) from by
        have h0 : (wr.drewN nq).heap[ab]? = some (.cells (arrA (N + 1) (fun x => (if y = x then 1 else 0) + cnt f d x)) 3 (0, 0)) := HAr.out
        rw [← hw5, heap_setCell_same _ ab v _ 3 _ h0]
        have h1 := arrA_inc (N + 1) (fun x => (if y = x then 1 else 0) + cnt f d x) v
        rw [HQ.out] at h1
        rw [h1]
        congr 2
        refine arrA_congr _ _ _ (fun x _ => ?_)
        have e : (if v = x then (1 : Int) else 0) = if (v : Int) = (x : Int) then 1 else 0 := by
          by_cases e : v = x
          · subst e; simp
          · rw [if_neg e, if_neg (by omega)]
        simp only [cnt, HVv.out]
        rw [e]
        exact Int.add_assoc _ _ _)
      have HG5 := Lib.hid (show w5.heap[gb]? = some (.cells #[.int .i64 (N + 1), .int .i64 c, .int .i64 s] 23 (0, 0)) from by rw [← hw5, heap_setCell_other _ _ _ _ (by simp; omega)]; exact HGr.out)
      have HP5 := Lib.hid (show w5.heap[pb]? = some (.cells #[.int .i64 S, .int .i64 R, .int .i64 M, .int .i64 P] 33 (0, 0)) from by rw [← hw5, heap_setCell_other _ _ _ _ (by simp; omega)]; exact HPr.out)
      have HI5 := Lib.hid (show w5.heap[lg]? = some (.cells (fillA N f N) 3 (0, 0)) from by rw [← hw5, heap_setCell_other _ _ _ _ (by simp; omega)]; exact HIr.out)
      have HV5 := Lib.hid (show Below w0.heap.size w0 w5 from by rw [← hw5]; exact (bdn HVr.out _).setCell hne.2.2.2 _)
      have cl5 : w5.cell? ⟨lg, d, none⟩ = some (.int .i64 v) := by
        rw [(cr HI5.out).1, fillA_full _ _ _ hlt, HVv.out]
      rw [hw5]
      clear hw5 hne g0 g1 g2 gz cl zl ca fa za HGr HPr HIr HAr HVr
      obtain ⟨g0, g1, g2, gz⟩ := g3 HG5.out
      have zl : lg < w5.heap.size := lt_of_block HI5.out
      have cl := cl5
      clear cl5
      go_region_held3 (fun w' => w'.cell? ⟨gb, 0, none⟩ = some (.int .i64 (N + 1)) ∧ w'.cell? ⟨gb, 1, none⟩ = some (.int .i64 c) ∧ w'.cell? ⟨gb, 2, none⟩ = some (.int .i64 s) ∧ w'.cell? ⟨lg, d, none⟩ = some (.int .i64 v)) ((simp [*, go_sem]; done))
        (first | (go_at_call 15; refine (HAtd.out _).mono ?_; rintro e w6 ⟨rfl, hb6⟩; obtain ⟨k0, f0, z0⟩ := kp hb6 gb gz; obtain ⟨k1, f1, z1⟩ := kp hb6 lg zl))
      have hb : Below w5.heap.size w5 w6 := via ((Below.refl _ _).drew) hb6
      have HA6 := Lib.hid (keepB HA5.out hb)
      have HG6 := Lib.hid (keepB HG5.out hb)
      have HP6 := Lib.hid (keepB HP5.out hb)
      have HI6 := Lib.hid (keepB HI5.out hb)
      have HV6 := Lib.hid (via HV5.out hb)
      rename_i hHeld
      clear hHeld hb hb6 k0 f0 k1 f1 g0 g1 g2 gz cl zl z0 z1 HA5 HG5 HP5 HI5 HV5
      by_cases hd0 : 0 < d
      · have cl6 : w6.cell? ⟨lg, d - 1, none⟩ = some (.int .i64 (f (d - 1))) := by
          rw [(cr HI6.out).1, fillA_full _ _ _ (by omega)]
        obtain ⟨g0, g1, g2, gz⟩ := g3 HG6.out
        have zl : lg < w6.heap.size := lt_of_block HI6.out
        have hat := HZ1.out (d - 1) (by omega)
        rw [HF.out (d - 1)] at hat
        have HAt0 := Lib.hid hat
        have hz := HZ2.out d hd0
        obtain ⟨d1, hd1⟩ : ∃ d1, d - 1 = d1 := ⟨_, rfl⟩
        rw [hd1] at cl6 HAt0 hz
        have hd2 : (d : Int) - 1 = d1 := by omega
        have hd3 : IntKind.i64.wrap ((d : Int) - 1) = (d1 : Int) := by rw [hd2]; exact IntWalk.i64_in _ (by omega)
        have hd4 : IntKind.i64.wrap (d1 : Int) = (d1 : Int) := IntWalk.i64_in _ (by omega)
        have i3 : (0 : Int) ≤ (d1 : Int) := by omega
        have i4 : (d1 : Int) < (N : Int) := by omega
        obtain ⟨F1, hF1⟩ : ∃ F1, f d1 = F1 := ⟨_, rfl⟩
        rw [hF1] at cl6 HAt0
        obtain ⟨Z1, hZ1⟩ : ∃ Z1, z d1 = Z1 := ⟨_, rfl⟩
        obtain ⟨Z2, hZ2⟩ : ∃ Z2, z d = Z2 := ⟨_, rfl⟩
        rw [hZ1] at HAt0 hz
        rw [hZ2] at hz
        rw [hZ2]
        have HD1 := Lib.hid hd1
        have hzb : ¬ Z2 ≤ Z1 := by omega
        clear hat hd1 hF1 hZ1 hZ2 hz
        go_wp2_with fail
        go_region_held3 (fun w' => w'.cell? ⟨gb, 0, none⟩ = some (.int .i64 (N + 1)) ∧ w'.cell? ⟨gb, 1, none⟩ = some (.int .i64 c) ∧ w'.cell? ⟨gb, 2, none⟩ = some (.int .i64 s) ∧ w'.cell? ⟨lg, d1, none⟩ = some (.int .i64 F1)) ((simp [*, go_sem]; done))
          (first | (go_at_call 15; refine (HAt0.out _).mono ?_; rintro e w7 ⟨rfl, hb7⟩; obtain ⟨k0, f0, z0⟩ := kp hb7 gb gz; obtain ⟨k1, f1, z1⟩ := kp hb7 lg zl))
        have hb : Below w6.heap.size w6 w7 := via ((Below.refl _ _).drew) hb7
        have HA7 := Lib.hid (keepB HA6.out hb)
        have HG7 := Lib.hid (keepB HG6.out hb)
        have HP7 := Lib.hid (keepB HP6.out hb)
        have HI7 := Lib.hid (keepB HI6.out hb)
        have HV7 := Lib.hid (via HV6.out hb)
        rename_i hHeld
        clear hHeld hb hb7 k0 f0 k1 f1 g0 g1 g2 gz cl6 zl z0 z1 hd2 hd3 hd4
        go_wp2
        go_roundw
        case rel => exact ⟨d + 1, by omega, by go_num, HG7.out, HP7.out, HI7.out, HA7.out, HV7.out⟩
        case measure => simp [intOf]; omega
      · have hd1 : ¬ (0 : Int) < (d : Int) := by omega
        go_wp2
        go_roundw
        case rel => exact ⟨d + 1, by omega, by go_num, HG6.out, HP6.out, HI6.out, HA6.out, HV6.out⟩
        case measure => simp [intOf]; omega
    · obtain rfl : N = d := by omega
      obtain ⟨g0, g1, g2, gz⟩ := g3 hg
      obtain ⟨pp0, pp1, pp2, pp3, pz⟩ := p4 HPr.out
      clear hg hl ha
      go_wp2_with fail
      go_loop [41] (fun s41 => ∃ t : Nat, t ≤ N + 1 ∧ s41 = .int .i64 t) (fun s41 => N + 1 - (intOf s41).toNat)
      case atStart => exact ⟨0, by omega, rfl⟩
      case round =>
        obtain ⟨t, ht, rfl⟩ := hrel
        by_cases hlt2 : t < N + 1
        · have ca := (cr HAr.out).1 t
          rw [arrA_get _ _ _ hlt2] at ca
          have e1 : (if y = t then (1 : Int) else 0) + cnt f N t = 1 := by
            have e2 := cnt_mem N (R2 / c) t (by omega) (by omega) (by omega)
            have e3 : cnt (fun i => mem (N + 1) (R2 / c) i) N t = cnt f N t := by
              congr 1; funext i; exact HF.out i
            rw [e3, HC.out.hy] at e2
            rw [e2]
            by_cases e4 : y = t
            · subst e4; simp
            · rw [if_neg e4, if_neg (by omega)]; simp
          rw [e1] at ca
          clear e1
          have i1 : (0 : Int) ≤ (t : Int) := by omega
          have i2 : (t : Int) < (N : Int) + 1 := by omega
          go_wp2
          go_round
          case rel => exact ⟨t + 1, by omega, by go_num⟩
          case measure => simp [intOf]; omega
        · have hge : N + 1 ≤ t := by omega
          clear hlt2
          have b1 := HC.out.b1
          have b2 := HC.out.b2
          have b3 := HC.out.b3
          have b4 := HC.out.b4
          have nr := HC.out.NR2
          by_cases hS : S + ((N : Int) + 1) < s
          · obtain ⟨u, v, hp1, hp2, hp3, hne⟩ := back4 HC.out.hG HC.out.hRS b3 hS
            have hbn : ((u : Int) != (v : Int)) = true := by rw [bne_iff_ne]; exact hne
            have HP1 := Lib.hid hp1
            obtain ⟨MC, hMC⟩ : ∃ MC, ((N : Int) + 1) * c = MC := ⟨_, rfl⟩
            have hMC1 : 0 ≤ MC ∧ MC ≤ 16 * 16 := by rw [← hMC]; exact mul_bd (by omega) (by omega) (by omega) c2
            obtain ⟨hMC2, hMC3⟩ := hMC1
            rw [hMC] at hp2
            have HP2 := Lib.hid hp2
            have HP3 := Lib.hid hp3
            clear hp1 hp2 hp3 hne
            go_wp2_with fail
            refine (HP1.out _).mono ?_
            rintro e wa ⟨rfl, hb⟩
            have HGa := Lib.hid (keepB HGr.out hb)
            have HPa := Lib.hid (keepB HPr.out hb)
            have HVa := Lib.hid (via HVr.out hb)
            clear g0 g1 g2 gz pp0 pp1 pp2 pp3 pz hb
            obtain ⟨g0, g1, g2, gz⟩ := g3 HGa.out
            obtain ⟨pp0, pp1, pp2, pp3, pz⟩ := p4 HPa.out
            go_wp2_with fail
            refine (HP2.out _).mono ?_
            rintro e wb ⟨rfl, hb⟩
            have HGb := Lib.hid (keepB HGa.out hb)
            have HPb := Lib.hid (keepB HPa.out hb)
            have HVb := Lib.hid (via HVa.out hb)
            clear g0 g1 g2 gz pp0 pp1 pp2 pp3 pz hb
            obtain ⟨g0, g1, g2, gz⟩ := g3 HGb.out
            obtain ⟨pp0, pp1, pp2, pp3, pz⟩ := p4 HPb.out
            go_wp2_with fail
            refine (HP3.out _).mono ?_
            rintro e wc ⟨rfl, hb⟩
            have HVc := Lib.hid (via HVb.out hb)
            clear g0 g1 g2 gz pp0 pp1 pp2 pp3 pz hb
            go_wp2
            go_returns
            exact ⟨rfl, HVc.out⟩
          · go_wp2
            go_returns
            exact ⟨rfl, HVr.out⟩
set_option maxRecDepth 1000000 in
set_option maxHeartbeats 8000000 in
theorem Pt3 {N : Nat} {c s NR NB B R2 A S R M P T2 T3 row member : Int} {y : Nat} {x : Int} {is : Bool} {z : Nat → Int} (HC : Hid (Cx N c s NR NB B R2 A S R M P T2 T3 row member y x is z)) {w0 w1 : World} {gb pb : Nat} (HG : Hid (w1.heap[gb]? = some (.cells #[.int .i64 (N + 1), .int .i64 c, .int .i64 s] 23 (0, 0)))) (HV : Hid (Below w0.heap.size w0 w1)) (HP : Hid (w1.heap[pb]? = some (.cells #[.int .i64 S, .int .i64 R, .int .i64 M, .int .i64 P] 33 (0, 0)))) 
    {u0 u1 u2 u3 u6 u7 u8 u9 u10 u11 u18 u19 u20 u21 u24 u25 u26 u27 u28 u29 u30 u31 u32 u33 u34 u35 u36 u37 u38 u39 u40 u41 u42 u43 u44 u45 u46 u47 u48 u49 u50 u51 u52 u53 u54 u55 u56 u57 u58 u59 u60 u61 u62 u63 u64 u65 u66 u67 u68 u69 u70 u71 u72 u73 u74 u75 u76 u77 u78 u79 u80 u81 u82 u83 u84 u85 u86 u87 u88 u89 u90 u91 u92 u93 u94 u95 u96 u97 u98 u99 u100 u101 u102 u103 u104 u105 u106 u107 u108 u109 u110 u111 u112 u113 u114 u115 u116 u117 u118 u119 u120 u121 u122 u123 u124 u125 u126 u127 u128 u129 u130 u131 u132 u133 u134 u135 u136 u137 u138 u139 u140 u141 u142 u143 u144 u145 u146 u147 u148 u149 u150 u151 u152 u153 u154 u155 u156 u157 u158 u159 u160 u161 u162 u163 u164 u165 u166 u167 u168 u169 u170 u171 u172 u173 u174 u175 u176 u177 u178 u179 u180 u181 u182 u183 u184 u185 u186 u187 u188 u189 u190 u191 u192 u193 u194 u195 u196 u197 u198 u199 u200 u201 u202 u203 u204 u205 u206 u207 u208 u209 u210 u211 u212 u213 u214 u215 u216 u217 u218 u219 u220 u221 u222 u223 u224 u225 u226 u227 u228 u229 u230 u231 u232 u233 u234 u235 u236 u237 u238 u239 u240 u241 u242 u243 u244 u245 u246 u247 u248 u249 u250 u251 u252 u253 u254 u255 u256 u257 u258 u259 u260 u261 u262 u263 u264 u265 u266 u267 u268 u269 u270 u271 u272 u273 u274 u275 u276 u277 u278 u279 u280 u281 u282 u283 u284 u285 u286 u287 u288 u289 u290 u291 u292 u293 u294 u295 u296 u297 u298 u299 u300 u301 u302 u303 u304 u305 u306 u307 u308 u309 u310 u311 u312 u313 u314 u315 u316 u317 u318 u319 u320 u321 u322 u323 u324 u325 u326 u327 u328 u329 u330 u331 u332 u333 u334 u335 u336 u337 u338 u339 u340 u341 u342 u343 u344 u345 u346 u347 u348 u349 u350 u351 u352 u353 u354 : Value} : Code.wp Try.prog (dropSeq 14 (Try.f5.body.getD .skip)) (bodyPost Try.prog Try.f5 fun e w' => e = .returned (.bool true) ∧ Below w0.heap.size w0 w') ⟨#[u0, u1, u2, u3, .int .i64 member, .int .i64 row, u6, u7, u8, u9, u10, u11, .bool false, .pointer (some ⟨gb, 0, none⟩), .int .i64 NB, .int .i64 NR, .int .i64 B, .pointer (some ⟨pb, 0, none⟩), u18, u19, u20, u21, .int .i64 R2, .int .i64 A, u24, u25, u26, u27, u28, u29, u30, u31, u32, u33, u34, u35, u36, u37, u38, u39, u40, u41, u42, u43, u44, u45, u46, u47, u48, u49, u50, u51, u52, u53, u54, u55, u56, u57, u58, u59, u60, u61, u62, u63, u64, u65, u66, u67, u68, u69, u70, u71, u72, u73, u74, u75, u76, u77, u78, u79, u80, u81, u82, u83, u84, u85, u86, u87, u88, u89, u90, u91, u92, u93, u94, u95, u96, u97, u98, u99, u100, u101, u102, u103, u104, u105, u106, u107, u108, u109, u110, u111, u112, u113, u114, u115, u116, u117, u118, u119, u120, u121, u122, u123, u124, u125, u126, u127, u128, u129, u130, u131, u132, u133, u134, u135, u136, u137, u138, u139, u140, u141, u142, u143, u144, u145, u146, u147, u148, u149, u150, u151, u152, u153, u154, u155, u156, u157, u158, u159, u160, u161, u162, u163, u164, u165, u166, u167, u168, u169, u170, u171, u172, u173, u174, u175, u176, u177, u178, u179, u180, u181, u182, u183, u184, u185, u186, u187, u188, u189, u190, u191, u192, u193, u194, u195, u196, u197, u198, u199, u200, u201, u202, u203, u204, u205, u206, u207, u208, u209, u210, u211, u212, u213, u214, u215, u216, u217, u218, u219, u220, u221, u222, u223, u224, u225, u226, u227, u228, u229, u230, u231, u232, u233, u234, u235, u236, u237, u238, u239, u240, u241, u242, u243, u244, u245, u246, u247, u248, u249, u250, u251, u252, u253, u254, u255, u256, u257, u258, u259, u260, u261, u262, u263, u264, u265, u266, u267, u268, u269, u270, u271, u272, u273, u274, u275, u276, u277, u278, u279, u280, u281, u282, u283, u284, u285, u286, u287, u288, u289, u290, u291, u292, u293, u294, u295, u296, u297, u298, u299, u300, u301, u302, u303, u304, u305, u306, u307, u308, u309, u310, u311, u312, u313, u314, u315, u316, u317, u318, u319, u320, u321, u322, u323, u324, u325, u326, u327, u328, u329, u330, u331, u332, u333, u334, u335, u336, u337, u338, u339, u340, u341, u342, u343, u344, u345, u346, u347, u348, u349, u350, u351, u352, u353, u354], []⟩ w1 := by
  conv => arg 2; whnf
  have hcx := HC.out
  have N1 := hcx.N1
  have N2 := hcx.N2
  have c1 := hcx.c1
  have c2 := hcx.c2
  have s1 := hcx.s1
  have s2 := hcx.s2
  have R20 := hcx.R20
  have R21 := hcx.R21
  have A0 := hcx.A0
  have A1 := hcx.A1
  have y2 := hcx.y2
  have HAt2 := Lib.hid hcx.hAt2
  have HPar := Lib.hid hcx.hPar
  have Hcase := Lib.hid hcx.hcase
  clear hcx
  have HGb1 := Lib.hid HG.out
  have HV1 := Lib.hid HV.out
  clear HG HV
  have HPb1 := Lib.hid HP.out
  clear HP
  obtain ⟨g0, g1, g2, gz⟩ := g3 HGb1.out
  obtain ⟨pp0, pp1, pp2, pp3, pz⟩ := p4 HPb1.out
  go_wp2_with fail
  refine (HAt2.out _).mono ?_
  rintro e w2 ⟨rfl, hb⟩
  have hbb : Below w1.heap.size w1 w2 := via (Below.refl _ _) hb
  have HGb2 := Lib.hid (keepB HGb1.out hbb)
  have HPb2 := Lib.hid (keepB HPb1.out hbb)
  have HV2 := Lib.hid (via HV1.out hbb)
  clear g0 g1 g2 gz pp0 pp1 pp2 pp3 pz
  clear hb hbb HGb1 HV1 HPb1
  obtain ⟨g0, g1, g2, gz⟩ := g3 HGb2.out
  obtain ⟨pp0, pp1, pp2, pp3, pz⟩ := p4 HPb2.out
  go_wp2_with fail
  refine (HPar.out _).mono ?_
  rintro e w3 ⟨rfl, hb⟩
  have hbb : Below w2.heap.size w2 w3 := via (Below.refl _ _) hb
  have HGb3 := Lib.hid (keepB HGb2.out hbb)
  have HPb3 := Lib.hid (keepB HPb2.out hbb)
  have HV3 := Lib.hid (via HV2.out hbb)
  clear g0 g1 g2 gz pp0 pp1 pp2 pp3 pz
  clear hb hbb HGb2 HV2 HPb2
  obtain ⟨g0, g1, g2, gz⟩ := g3 HGb3.out
  obtain ⟨pp0, pp1, pp2, pp3, pz⟩ := p4 HPb3.out
  rcases Hcase.out with ⟨rfl, hA1, rfl⟩ | ⟨rfl, hA1, S', hOf2⟩
  · have tA : ((A : Int) == (y : Int)) = true := by simp [hA1]
    have HA1 := Lib.hid hA1
    clear hA1
    go_upto_if 185 with fail
    go_cut [29] (fun s29 wx => wx = w3)
    case first =>
      go_wp2
      go_meet
      rfl
    case rest =>
    obtain rfl := hcut
    rename_i hK
    refine hK _ _ ?_
    exact Pt4 HC HGb3 HV3 HPb3
  · have tA : ((A : Int) == (y : Int)) = false := by simp [hA1]
    have HA1 := Lib.hid hA1
    have HOf2 := Lib.hid hOf2
    clear hA1 hOf2
    go_upto_if 185 with fail
    go_cut [29] (fun s29 wx => Below w3.heap.size w3 wx)
    case first =>
      go_wp2_with fail
      refine (HOf2.out _).mono ?_
      rintro e w4 ⟨rfl, hb⟩
      have HB4 := Lib.hid hb
      clear hb
      go_wp2
      go_meet
      exact bal HB4.out _
    case rest =>
    have hb : Below w3.heap.size w3 wc := hcut
    rename_i hK
    refine hK _ _ ?_
    exact Pt4 HC (Lib.hid (keepB HGb3.out hb)) (Lib.hid (via HV3.out hb)) (Lib.hid (keepB HPb3.out hb))
set_option maxRecDepth 1000000 in
set_option maxHeartbeats 8000000 in
theorem Pt2 {N : Nat} {c s NR NB B R2 A S R M P T2 T3 row member : Int} {y : Nat} {x : Int} {is : Bool} {z : Nat → Int} (HC : Hid (Cx N c s NR NB B R2 A S R M P T2 T3 row member y x is z)) {w0 w1 : World} {gb pb : Nat} (HG : Hid (w1.heap[gb]? = some (.cells #[.int .i64 (N + 1), .int .i64 c, .int .i64 s] 23 (0, 0)))) (HV : Hid (Below w0.heap.size w0 w1)) (HP : Hid (w1.heap[pb]? = some (.cells #[.int .i64 S, .int .i64 R, .int .i64 M, .int .i64 P] 33 (0, 0)))) 
    {u0 u1 u2 u3 u6 u7 u8 u9 u10 u11 u18 u19 u20 u21 u23 u24 u25 u26 u27 u28 u29 u30 u31 u32 u33 u34 u35 u36 u37 u38 u39 u40 u41 u42 u43 u44 u45 u46 u47 u48 u49 u50 u51 u52 u53 u54 u55 u56 u57 u58 u59 u60 u61 u62 u63 u64 u65 u66 u67 u68 u69 u70 u71 u72 u73 u74 u75 u76 u77 u78 u79 u80 u81 u82 u83 u84 u85 u86 u87 u88 u89 u90 u91 u92 u93 u94 u95 u96 u97 u98 u99 u100 u101 u102 u103 u104 u105 u106 u107 u108 u109 u110 u111 u112 u113 u114 u115 u116 u117 u118 u119 u120 u121 u122 u123 u124 u125 u126 u127 u128 u129 u130 u131 u132 u133 u134 u135 u136 u137 u138 u139 u140 u141 u142 u143 u144 u145 u146 u147 u148 u149 u150 u151 u152 u153 u154 u155 u156 u157 u158 u159 u160 u161 u162 u163 u164 u165 u166 u167 u168 u169 u170 u171 u172 u173 u174 u175 u176 u177 u178 u179 u180 u181 u182 u183 u184 u185 u186 u187 u188 u189 u190 u191 u192 u193 u194 u195 u196 u197 u198 u199 u200 u201 u202 u203 u204 u205 u206 u207 u208 u209 u210 u211 u212 u213 u214 u215 u216 u217 u218 u219 u220 u221 u222 u223 u224 u225 u226 u227 u228 u229 u230 u231 u232 u233 u234 u235 u236 u237 u238 u239 u240 u241 u242 u243 u244 u245 u246 u247 u248 u249 u250 u251 u252 u253 u254 u255 u256 u257 u258 u259 u260 u261 u262 u263 u264 u265 u266 u267 u268 u269 u270 u271 u272 u273 u274 u275 u276 u277 u278 u279 u280 u281 u282 u283 u284 u285 u286 u287 u288 u289 u290 u291 u292 u293 u294 u295 u296 u297 u298 u299 u300 u301 u302 u303 u304 u305 u306 u307 u308 u309 u310 u311 u312 u313 u314 u315 u316 u317 u318 u319 u320 u321 u322 u323 u324 u325 u326 u327 u328 u329 u330 u331 u332 u333 u334 u335 u336 u337 u338 u339 u340 u341 u342 u343 u344 u345 u346 u347 u348 u349 u350 u351 u352 u353 u354 : Value} : Code.wp Try.prog (dropSeq 12 (Try.f5.body.getD .skip)) (bodyPost Try.prog Try.f5 fun e w' => e = .returned (.bool true) ∧ Below w0.heap.size w0 w') ⟨#[u0, u1, u2, u3, .int .i64 member, .int .i64 row, u6, u7, u8, u9, u10, u11, .bool false, .pointer (some ⟨gb, 0, none⟩), .int .i64 NB, .int .i64 NR, .int .i64 B, .pointer (some ⟨pb, 0, none⟩), u18, u19, u20, u21, .int .i64 R2, u23, u24, u25, u26, u27, u28, u29, u30, u31, u32, u33, u34, u35, u36, u37, u38, u39, u40, u41, u42, u43, u44, u45, u46, u47, u48, u49, u50, u51, u52, u53, u54, u55, u56, u57, u58, u59, u60, u61, u62, u63, u64, u65, u66, u67, u68, u69, u70, u71, u72, u73, u74, u75, u76, u77, u78, u79, u80, u81, u82, u83, u84, u85, u86, u87, u88, u89, u90, u91, u92, u93, u94, u95, u96, u97, u98, u99, u100, u101, u102, u103, u104, u105, u106, u107, u108, u109, u110, u111, u112, u113, u114, u115, u116, u117, u118, u119, u120, u121, u122, u123, u124, u125, u126, u127, u128, u129, u130, u131, u132, u133, u134, u135, u136, u137, u138, u139, u140, u141, u142, u143, u144, u145, u146, u147, u148, u149, u150, u151, u152, u153, u154, u155, u156, u157, u158, u159, u160, u161, u162, u163, u164, u165, u166, u167, u168, u169, u170, u171, u172, u173, u174, u175, u176, u177, u178, u179, u180, u181, u182, u183, u184, u185, u186, u187, u188, u189, u190, u191, u192, u193, u194, u195, u196, u197, u198, u199, u200, u201, u202, u203, u204, u205, u206, u207, u208, u209, u210, u211, u212, u213, u214, u215, u216, u217, u218, u219, u220, u221, u222, u223, u224, u225, u226, u227, u228, u229, u230, u231, u232, u233, u234, u235, u236, u237, u238, u239, u240, u241, u242, u243, u244, u245, u246, u247, u248, u249, u250, u251, u252, u253, u254, u255, u256, u257, u258, u259, u260, u261, u262, u263, u264, u265, u266, u267, u268, u269, u270, u271, u272, u273, u274, u275, u276, u277, u278, u279, u280, u281, u282, u283, u284, u285, u286, u287, u288, u289, u290, u291, u292, u293, u294, u295, u296, u297, u298, u299, u300, u301, u302, u303, u304, u305, u306, u307, u308, u309, u310, u311, u312, u313, u314, u315, u316, u317, u318, u319, u320, u321, u322, u323, u324, u325, u326, u327, u328, u329, u330, u331, u332, u333, u334, u335, u336, u337, u338, u339, u340, u341, u342, u343, u344, u345, u346, u347, u348, u349, u350, u351, u352, u353, u354], []⟩ w1 := by
  conv => arg 2; whnf
  have hcx := HC.out
  have N1 := hcx.N1
  have N2 := hcx.N2
  have c1 := hcx.c1
  have c2 := hcx.c2
  have s1 := hcx.s1
  have s2 := hcx.s2
  have T32 := hcx.T32
  have T33 := hcx.T33
  have t3 := hcx.t3
  have n2 : ¬ (N : Int) + 1 = 0 := by omega
  clear hcx
  have HGb1 := Lib.hid HG.out
  have HV1 := Lib.hid HV.out
  clear HG HV
  have HPb1 := Lib.hid HP.out
  clear HP
  obtain ⟨g0, g1, g2, gz⟩ := g3 HGb1.out
  obtain ⟨pp0, pp1, pp2, pp3, pz⟩ := p4 HPb1.out
  go_upto_if 145 with fail
  go_cut [23] (fun s1 wx => s1 = .int .i64 A ∧ wx = w1)
  case first =>
    rcases HC.out.hT3 with ⟨hn, hb⟩ | ⟨hn, hb⟩
    · go_wp2
      go_meet
      refine ⟨?_, rfl⟩
      first | rfl | rw [hb]
    · go_wp2
      go_meet
      refine ⟨?_, rfl⟩
      first | rfl | rw [hb]
  case rest =>
  obtain ⟨rfl, rfl⟩ := hcut
  obtain ⟨w1, rfl⟩ : ∃ w1, w1 = wc := ⟨_, rfl⟩
  rename_i hK
  refine hK _ _ ?_
  exact Pt3 HC HGb1 HV1 HPb1
set_option maxRecDepth 1000000 in
set_option maxHeartbeats 8000000 in
theorem Pt1 {N : Nat} {c s NR NB B R2 A S R M P T2 T3 row member : Int} {y : Nat} {x : Int} {is : Bool} {z : Nat → Int} (HC : Hid (Cx N c s NR NB B R2 A S R M P T2 T3 row member y x is z)) {w0 w1 : World} {gb : Nat} (HG : Hid (w1.heap[gb]? = some (.cells #[.int .i64 (N + 1), .int .i64 c, .int .i64 s] 23 (0, 0)))) (HV : Hid (Below w0.heap.size w0 w1))  
    {u0 u1 u2 u3 u6 u7 u8 u9 u10 u11 u17 u18 u19 u20 u21 u22 u23 u24 u25 u26 u27 u28 u29 u30 u31 u32 u33 u34 u35 u36 u37 u38 u39 u40 u41 u42 u43 u44 u45 u46 u47 u48 u49 u50 u51 u52 u53 u54 u55 u56 u57 u58 u59 u60 u61 u62 u63 u64 u65 u66 u67 u68 u69 u70 u71 u72 u73 u74 u75 u76 u77 u78 u79 u80 u81 u82 u83 u84 u85 u86 u87 u88 u89 u90 u91 u92 u93 u94 u95 u96 u97 u98 u99 u100 u101 u102 u103 u104 u105 u106 u107 u108 u109 u110 u111 u112 u113 u114 u115 u116 u117 u118 u119 u120 u121 u122 u123 u124 u125 u126 u127 u128 u129 u130 u131 u132 u133 u134 u135 u136 u137 u138 u139 u140 u141 u142 u143 u144 u145 u146 u147 u148 u149 u150 u151 u152 u153 u154 u155 u156 u157 u158 u159 u160 u161 u162 u163 u164 u165 u166 u167 u168 u169 u170 u171 u172 u173 u174 u175 u176 u177 u178 u179 u180 u181 u182 u183 u184 u185 u186 u187 u188 u189 u190 u191 u192 u193 u194 u195 u196 u197 u198 u199 u200 u201 u202 u203 u204 u205 u206 u207 u208 u209 u210 u211 u212 u213 u214 u215 u216 u217 u218 u219 u220 u221 u222 u223 u224 u225 u226 u227 u228 u229 u230 u231 u232 u233 u234 u235 u236 u237 u238 u239 u240 u241 u242 u243 u244 u245 u246 u247 u248 u249 u250 u251 u252 u253 u254 u255 u256 u257 u258 u259 u260 u261 u262 u263 u264 u265 u266 u267 u268 u269 u270 u271 u272 u273 u274 u275 u276 u277 u278 u279 u280 u281 u282 u283 u284 u285 u286 u287 u288 u289 u290 u291 u292 u293 u294 u295 u296 u297 u298 u299 u300 u301 u302 u303 u304 u305 u306 u307 u308 u309 u310 u311 u312 u313 u314 u315 u316 u317 u318 u319 u320 u321 u322 u323 u324 u325 u326 u327 u328 u329 u330 u331 u332 u333 u334 u335 u336 u337 u338 u339 u340 u341 u342 u343 u344 u345 u346 u347 u348 u349 u350 u351 u352 u353 u354 : Value} : Code.wp Try.prog (dropSeq 7 (Try.f5.body.getD .skip)) (bodyPost Try.prog Try.f5 fun e w' => e = .returned (.bool true) ∧ Below w0.heap.size w0 w') ⟨#[u0, u1, u2, u3, .int .i64 member, .int .i64 row, u6, u7, u8, u9, u10, u11, .bool false, .pointer (some ⟨gb, 0, none⟩), .int .i64 NB, .int .i64 NR, .int .i64 B, u17, u18, u19, u20, u21, u22, u23, u24, u25, u26, u27, u28, u29, u30, u31, u32, u33, u34, u35, u36, u37, u38, u39, u40, u41, u42, u43, u44, u45, u46, u47, u48, u49, u50, u51, u52, u53, u54, u55, u56, u57, u58, u59, u60, u61, u62, u63, u64, u65, u66, u67, u68, u69, u70, u71, u72, u73, u74, u75, u76, u77, u78, u79, u80, u81, u82, u83, u84, u85, u86, u87, u88, u89, u90, u91, u92, u93, u94, u95, u96, u97, u98, u99, u100, u101, u102, u103, u104, u105, u106, u107, u108, u109, u110, u111, u112, u113, u114, u115, u116, u117, u118, u119, u120, u121, u122, u123, u124, u125, u126, u127, u128, u129, u130, u131, u132, u133, u134, u135, u136, u137, u138, u139, u140, u141, u142, u143, u144, u145, u146, u147, u148, u149, u150, u151, u152, u153, u154, u155, u156, u157, u158, u159, u160, u161, u162, u163, u164, u165, u166, u167, u168, u169, u170, u171, u172, u173, u174, u175, u176, u177, u178, u179, u180, u181, u182, u183, u184, u185, u186, u187, u188, u189, u190, u191, u192, u193, u194, u195, u196, u197, u198, u199, u200, u201, u202, u203, u204, u205, u206, u207, u208, u209, u210, u211, u212, u213, u214, u215, u216, u217, u218, u219, u220, u221, u222, u223, u224, u225, u226, u227, u228, u229, u230, u231, u232, u233, u234, u235, u236, u237, u238, u239, u240, u241, u242, u243, u244, u245, u246, u247, u248, u249, u250, u251, u252, u253, u254, u255, u256, u257, u258, u259, u260, u261, u262, u263, u264, u265, u266, u267, u268, u269, u270, u271, u272, u273, u274, u275, u276, u277, u278, u279, u280, u281, u282, u283, u284, u285, u286, u287, u288, u289, u290, u291, u292, u293, u294, u295, u296, u297, u298, u299, u300, u301, u302, u303, u304, u305, u306, u307, u308, u309, u310, u311, u312, u313, u314, u315, u316, u317, u318, u319, u320, u321, u322, u323, u324, u325, u326, u327, u328, u329, u330, u331, u332, u333, u334, u335, u336, u337, u338, u339, u340, u341, u342, u343, u344, u345, u346, u347, u348, u349, u350, u351, u352, u353, u354], []⟩ w1 := by
  conv => arg 2; whnf
  have hcx := HC.out
  have N1 := hcx.N1
  have N2 := hcx.N2
  have c1 := hcx.c1
  have c2 := hcx.c2
  have s1 := hcx.s1
  have s2 := hcx.s2
  have NR1 := hcx.NR1
  have NR2 := hcx.NR2
  have b1 := hcx.b1
  have b2 := hcx.b2
  have b3 := hcx.b3
  have b4 := hcx.b4
  have T22 := hcx.T22
  have T23 := hcx.T23
  have t2 := hcx.t2
  have q1 : R.tdiv c = S := by rw [Int.tdiv_eq_ediv_of_nonneg b3]; exact hcx.hRS
  have q2 : IntKind.i64.wrap S = S := IntWalk.i64_in _ (by omega)
  have c0 : ¬ c = 0 := by omega
  have n1 : ¬ NR = 0 := by omega
  have HOf := Lib.hid hcx.hOf
  have HAt := Lib.hid hcx.hAt
  clear hcx
  have HGb1 := Lib.hid HG.out
  have HV1 := Lib.hid HV.out
  clear HG HV
  obtain ⟨g0, g1, g2, gz⟩ := g3 HGb1.out
  go_wp2_with fail
  refine (HOf.out _).mono ?_
  rintro e w2 ⟨rfl, hb⟩
  have hbb : Below w1.heap.size w1 w2 := via (Below.refl _ _) hb
  have HGb2 := Lib.hid (keepB HGb1.out hbb)
  have HV2 := Lib.hid (via HV1.out hbb)
  clear g0 g1 g2 gz
  clear hb hbb HGb1 HV1
  obtain ⟨g0, g1, g2, gz⟩ := g3 HGb2.out
  go_wp2_with fail
  refine (HAt.out _).mono ?_
  rintro e w3 ⟨rfl, hb⟩
  have HPb3 := Lib.hid (keepB (heap_alloc_new w2 (.cells #[.int .i64 S, .int .i64 R, .int .i64 M, .int .i64 P] 33)) hb)
  obtain ⟨pb, hpb⟩ : ∃ pb, w2.heap.size = pb := ⟨_, rfl⟩
  rw [hpb] at HPb3
  rw [hpb]
  have HpbE := Lib.hid hpb
  clear hpb
  have hbb : Below w2.heap.size w2 w3 := via (bal (Below.refl _ _) _) hb
  have HGb3 := Lib.hid (keepB HGb2.out hbb)
  have HV3 := Lib.hid (via HV2.out hbb)
  clear g0 g1 g2 gz
  clear hb hbb HGb2 HV2
  obtain ⟨g0, g1, g2, gz⟩ := g3 HGb3.out
  obtain ⟨pp0, pp1, pp2, pp3, pz⟩ := p4 HPb3.out
  go_wp2_with fail
  go_quiet (fail)
  obtain ⟨w4, hwe⟩ : ∃ w', w3.drewN nq = w' := ⟨_, rfl⟩
  rw [hwe]
  have hb : Below w3.heap.size w3 w4 := by rw [← hwe]; exact bdn (Below.refl _ _) _
  clear hwe
  have hbb : Below w3.heap.size w3 w4 := via (Below.refl _ _) hb
  have HGb4 := Lib.hid (keepB HGb3.out hbb)
  have HPb4 := Lib.hid (keepB HPb3.out hbb)
  have HV4 := Lib.hid (via HV3.out hbb)
  clear g0 g1 g2 gz pp0 pp1 pp2 pp3 pz
  clear hb hbb HGb3 HV3 HPb3
  obtain ⟨g0, g1, g2, gz⟩ := g3 HGb4.out
  obtain ⟨pp0, pp1, pp2, pp3, pz⟩ := p4 HPb4.out
  go_upto_if 136 with fail
  go_cut [22] (fun s1 wx => s1 = .int .i64 R2 ∧ wx = w4)
  case first =>
    rcases HC.out.hT2 with ⟨hn, hb⟩ | ⟨hn, hb⟩
    · go_wp2
      go_meet
      refine ⟨?_, rfl⟩
      first | rfl | rw [hb]
    · go_wp2
      go_meet
      refine ⟨?_, rfl⟩
      first | rfl | rw [hb]
  case rest =>
  obtain ⟨rfl, rfl⟩ := hcut
  obtain ⟨w4, rfl⟩ : ∃ w4, w4 = wc := ⟨_, rfl⟩
  rename_i hK
  refine hK _ _ ?_
  exact Pt2 HC HGb4 HV4 HPb4
set_option maxRecDepth 100000 in
set_option maxHeartbeats 8000000 in
theorem walk (members chunk stripes block member row : Int) (w : World) (hm : 0 ≤ members ∧ members ≤ 255) (hc : 0 ≤ chunk ∧ chunk ≤ 255) (hs : 0 ≤ stripes ∧ stripes ≤ 255) :
    Calls Try.prog 5 #[.int .u8 members, .int .u8 chunk, .int .u8 stripes, .int .i64 block, .int .i64 member, .int .i64 row] w fun e w' => e = .returned (.bool true) ∧ Below w.heap.size w w' := by
  obtain ⟨hm1, hm2⟩ := hm
  obtain ⟨hc1, hc2⟩ := hc
  obtain ⟨hs1, hs2⟩ := hs
  obtain ⟨N, em⟩ : ∃ N : Nat, members % 14 + 3 = (N : Int) + 1 := ⟨(members % 14 + 2).toNat, by omega⟩
  obtain ⟨c, ec⟩ : ∃ c, chunk % 16 + 1 = c := ⟨_, rfl⟩
  obtain ⟨s, es⟩ : ∃ s, stripes + 1 = s := ⟨_, rfl⟩
  have hG : Good (N + 1) c s := ⟨by omega, by omega, by omega, by omega, by omega, by omega⟩
  have N1 : 2 ≤ (N : Int) := by omega
  have N2 : (N : Int) ≤ 15 := by omega
  have c1 : 1 ≤ c := by omega
  have c2 : c ≤ 16 := by omega
  have s1 : 1 ≤ s := by omega
  have s2 : s ≤ 256 := by omega
  obtain ⟨NR, eNR⟩ : ∃ NR, s * c = NR := ⟨_, rfl⟩
  obtain ⟨NB, eNB⟩ : ∃ NB, NR * (N : Int) = NB := ⟨_, rfl⟩
  have eNR2 : c * s = NR := by rw [Int.mul_comm]; exact eNR
  have eNB2 : s * c * ((N : Int) + 1 - 1) = NB := by rw [eNR, Int.add_sub_cancel]; exact eNB
  have NR1 : 1 ≤ NR := by rw [← eNR]; exact Int.mul_pos (by omega) (by omega)
  have NR2 : NR ≤ 4096 := by rw [← eNR]; exact hG.rows.2
  have NB1 : 1 ≤ NB := by rw [← eNB]; exact Int.mul_pos (by omega) (by omega)
  have NB2 : NB ≤ 61440 := by rw [← eNB2]; exact hG.blocks.2
  have hRB : Ret1 23 (N + 1) c s NB := fun w => by have := gblocks_ok (N + 1) c s w hG; rw [eNB2] at this; exact this
  have hRR : Ret1 21 (N + 1) c s NR := fun w => by have := grows_ok (N + 1) c s w hG; rw [eNR] at this; exact this
  obtain ⟨T1, B, t1, hT1, B0, B1⟩ := fix_tmod block NB (by omega)
  obtain ⟨T2, R2, t2, hT2, R20, R21⟩ := fix_tmod row NR (by omega)
  obtain ⟨T3, A, t3, hT3, A0, A1⟩ := fix_tmod member (N + 1) (by omega)
  have T11 : -61440 ≤ T1 ∧ T1 ≤ 61440 := by rcases hT1 with ⟨_, _⟩ | ⟨_, _⟩ <;> omega
  have T21 : -4096 ≤ T2 ∧ T2 ≤ 4096 := by rcases hT2 with ⟨_, _⟩ | ⟨_, _⟩ <;> omega
  have T31 : -16 ≤ T3 ∧ T3 ≤ 16 := by rcases hT3 with ⟨_, _⟩ | ⟨_, _⟩ <;> omega
  obtain ⟨T12, T13⟩ := T11
  obtain ⟨T22, T23⟩ := T21
  obtain ⟨T32, T33⟩ := T31
  obtain ⟨S, R, M, P, hOf, hAt, ⟨b1, b2, b3, b4, b5, b6, b7, b8⟩, hRS, hPS⟩ := back1 hG B0 (by rw [eNB2]; exact B1)
  have R2c0 : 0 ≤ R2 / c := Int.ediv_nonneg R20 (by omega)
  obtain ⟨y0, y1⟩ := par_bd (R2 / c) hG.m3
  obtain ⟨y, hy⟩ := Int.eq_ofNat_of_zero_le y0
  have y2 : y < N + 1 := by omega
  have hb2 := back2 hG A0 A1 R20 (by rw [eNR]; exact R21)
  obtain ⟨x, is, hAt2, hcase⟩ : ∃ x is, AtP (N + 1) c s A R2 x is ∧ ((is = true ∧ A = y ∧ x = 0) ∨ (is = false ∧ ¬ A = y ∧ ∃ S', OfP (N + 1) c s x S' R2 A y)) := by
    rw [hy] at hb2
    rcases hb2 with ⟨h1, h2⟩ | ⟨h1, x, S', h2, h3⟩
    · exact ⟨0, true, h2, .inl ⟨rfl, h1, rfl⟩⟩
    · exact ⟨x, false, h2, .inr ⟨rfl, h1, S', h3⟩⟩
  obtain ⟨z, hz1, hz2⟩ := back3 N hG R20 (by rw [eNR]; exact R21)
  have hPar : ParP (N + 1) c s R2 y := fun w => by have := gparity_ok (N + 1) c s R2 w hG R20 (by rw [eNR]; exact R21); rw [hy] at this; exact this
  have hMem : ∀ w, Calls Try.prog 14 #[G (N + 1) c s, .int .i64 R2] w (NewInts w N (fun i => mem (N + 1) (R2 / c) i) .u16) := fun w => gmembers_ok N c s R2 w hG R20 (by rw [eNR]; exact R21)
  have hmk := fun w => make_zero w N (by omega)

  have HCx := Lib.hid (show Cx N c s NR NB B R2 A S R M P T2 T3 row member y x is z from
    ⟨N1, N2, c1, c2, s1, s2, NR1, NR2, NB1, NB2, B0, B1, R20, R21, A0, A1, T22, T23, T32, T33, b1, b2, b3, by rw [← eNR]; exact b4, b5, b6, b7, b8, y2, hG, t2, t3, hT2, hT3, hOf, hAt, hRS, hAt2, hcase, hz1, hz2, hPar, hy, eNR⟩)
  have n0 : ¬ NB = 0 := by omega
  have HRB := Lib.hid hRB
  have HRR := Lib.hid hRR
  have HT1 := Lib.hid hT1
  have HeNR := Lib.hid eNR
  have HKn := Lib.hid (fun w => known_true w)
  clear hG hT1 hT2 hT3 hOf hAt hRS hPS hRB hRR eNB2 hAt2 hcase hz1 hz2 hPar hMem hy y0 y1 hb2 hmk R2c0 b1 b2 b3 b4 b5 b6 b7 b8 y2 t2 t3 A0 A1 R20 R21 T22 T23 T32 T33
  go_enter Try.func5, Try.ntmps5
  go_wp2_with fail
  obtain ⟨w1, hw1⟩ : ∃ w1, w.alloc (.cells #[.int .i64 (N + 1), .int .i64 c, .int .i64 s] 23) = w1 := ⟨_, rfl⟩
  have HGb1 := Lib.hid (show w1.heap[w.heap.size]? = some (.cells #[.int .i64 (N + 1), .int .i64 c, .int .i64 s] 23 (0, 0)) from by rw [← hw1]; exact heap_alloc_new _ _)
  have HV1 := Lib.hid (show Below w.heap.size w w1 from by rw [← hw1]; exact (Below.refl _ _).alloc (Nat.le_refl _) _)
  obtain ⟨gb, hgb⟩ : ∃ gb, w.heap.size = gb := ⟨_, rfl⟩
  rw [hgb] at HGb1
  rw [hw1, hgb]
  clear hw1 hgb em ec es
  obtain ⟨g0, g1, g2, gz⟩ := g3 HGb1.out
  go_wp2_with fail
  refine (HRB.out _).mono ?_
  rintro e w2 ⟨rfl, hb⟩
  have hbb : Below w1.heap.size w1 w2 := via (Below.refl _ _) hb
  have HGb2 := Lib.hid (keepB HGb1.out hbb)
  have HV2 := Lib.hid (via HV1.out hbb)
  clear g0 g1 g2 gz
  clear hb hbb HGb1 HV1
  obtain ⟨g0, g1, g2, gz⟩ := g3 HGb2.out
  go_wp2_with fail
  refine (HRR.out _).mono ?_
  rintro e w3 ⟨rfl, hb⟩
  have hbb : Below w2.heap.size w2 w3 := via (Below.refl _ _) hb
  have HGb3 := Lib.hid (keepB HGb2.out hbb)
  have HV3 := Lib.hid (via HV2.out hbb)
  clear g0 g1 g2 gz
  clear hb hbb HGb2 HV2
  obtain ⟨g0, g1, g2, gz⟩ := g3 HGb3.out
  go_wp2_with fail
  refine (HKn.out _).mono ?_
  rintro e w4 ⟨rfl, hb⟩
  have hbb : Below w3.heap.size w3 w4 := via (Below.refl _ _) hb
  have HGb4 := Lib.hid (keepB HGb3.out hbb)
  have HV4 := Lib.hid (via HV3.out hbb)
  clear g0 g1 g2 gz
  clear hb hbb HGb3 HV3
  obtain ⟨g0, g1, g2, gz⟩ := g3 HGb4.out
  go_upto_if 88 with fail
  go_cut [16] (fun s1 wx => s1 = .int .i64 B ∧ wx = w4)
  case first =>
    rcases HT1.out with ⟨hn, hb⟩ | ⟨hn, hb⟩
    · go_wp2
      go_meet
      refine ⟨?_, rfl⟩
      first | rfl | rw [hb]
    · go_wp2
      go_meet
      refine ⟨?_, rfl⟩
      first | rfl | rw [hb]
  case rest =>
  obtain ⟨rfl, rfl⟩ := hcut
  obtain ⟨w4, rfl⟩ : ∃ w4, w4 = wc := ⟨_, rfl⟩
  rename_i hK
  refine hK _ _ ?_
  exact Pt1 HCx HGb4 HV4
theorem kinds5 : ∀ t ∈ Try.f5.params.toList, Try.prog.readableRec t = true ∧ t < Try.prog.types.size := by
  rw [Try.params5]
  intro t ht
  simp only [List.mem_cons, List.not_mem_nil, or_false] at ht
  rcases ht with rfl | rfl | rfl | rfl | rfl | rfl
  all_goals exact ⟨by kernel_rfl, of_decide_eq_true (by kernel_rfl)⟩
set_option maxRecDepth 100000 in
theorem lifted (os : Os) (started : os.Started) (H : Type) (enc : TypeId × Value → H) :
    ReturnsInHanded {} Try.checked os 5 .any (Rows.geomBackSpec.pre6 enc Try.prog Try.f5 Rows.geomBackRow.domain false) (Rows.geomBackSpec.post enc Try.prog Try.f5 false true false false) := by
  refine returnsInHanded_of_change (C := Try.checked) own started (by kernel_rfl) Try.func5
    (ChangeSpec.witness6 (enc := enc) (C := Try.checked) false ⟨#[], #[.int .u8 0, .int .u8 0, .int .u8 0, .int .i64 0, .int .i64 0, .int .i64 0], []⟩ 8 (by kernel_rfl) (by kernel_rfl) (by kernel_rfl) (by kernel_rfl)) ?_
  intro W base args ds gs before hval0 hW hcnd _
  have hval : ∀ (j : Nat) t v, Try.f5.params[j]? = some t → args[j]? = some v → Value.okWide Try.prog W .any base t v := hval0
  have hW' := hW
  obtain ⟨p, q, hA0, hV, rfl, hfz, hnd⟩ := hW
  have hA : DataW.TrodAll enc Try.prog W 0 (fun _ => true) true Try.f5.params.toList args.toList ds p := hA0
  have hA1 := hA
  rw [Try.params5] at hA hval
  obtain ⟨v0, vs0, d0, ds0, p0, q0, hargs, rfl, rfl, h0, r0⟩ := trodAll_cons hA
  obtain ⟨v1, vs1, d1, ds1, p1, q1, rfl, rfl, rfl, h1, r1⟩ := trodAll_cons r0
  obtain ⟨v2, vs2, d2, ds2, p2, q2, rfl, rfl, rfl, h2, r2⟩ := trodAll_cons r1
  obtain ⟨v3, vs3, d3, ds3, p3, q3, rfl, rfl, rfl, h3, r3⟩ := trodAll_cons r2
  obtain ⟨v4, vs4, d4, ds4, p4, q4, rfl, rfl, rfl, h4, r4⟩ := trodAll_cons r3
  obtain ⟨v5, vs5, d5, ds5, p5, q5, rfl, rfl, rfl, h5, r5⟩ := trodAll_cons r4
  obtain ⟨rfl, rfl, rfl⟩ := trodAll_nil r5
  obtain rfl : args = #[v0, v1, v2, v3, v4, v5] := by cases args; simp_all
  obtain ⟨rfl, rfl⟩ := trodVars_none hV
  obtain ⟨a0, rfl, rfl, rfl, w0⟩ := open_int Try.underlying5 (hval 0 5 v0 rfl rfl) h0
  obtain ⟨a1, rfl, rfl, rfl, w1⟩ := open_int Try.underlying5 (hval 1 5 v1 rfl rfl) h1
  obtain ⟨a2, rfl, rfl, rfl, w2⟩ := open_int Try.underlying5 (hval 2 5 v2 rfl rfl) h2
  obtain ⟨a3, rfl, rfl, rfl, w3⟩ := open_int Try.underlying3 (hval 3 3 v3 rfl rfl) h3
  obtain ⟨a4, rfl, rfl, rfl, w4⟩ := open_int Try.underlying3 (hval 4 3 v4 rfl rfl) h4
  obtain ⟨a5, rfl, rfl, rfl, w5⟩ := open_int Try.underlying3 (hval 5 3 v5 rfl rfl) h5
  clear hval0
  refine (walk a0 a1 a2 a3 a4 a5 W (bounds_u8 w0) (bounds_u8 w1) (bounds_u8 w2)).mono fun e W' ⟨he, bel⟩ => ?_
  subst he
  exact ⟨_, rfl, _, _, _, [], _, [], hW', trodAll_mk1 (shut_bool Try.underlying4 _), carryAll laidOut bel _ _ _ _ kinds5 hA1 (fun x hx => hW'.lt x (List.mem_append.2 (.inl hx))), rfl, bel.frame _, fun h => by cases h⟩
theorem proved : Rows.GeomBackSaid :=
  OpenClaim.holds_of_wide 5 Try.f5 rfl rfl rfl rfl rfl rfl rfl ⟨rfl, rfl, rfl, rfl, rfl⟩ rfl rfl rfl rfl rfl (by kernel_rfl) Try.func5 (by kernel_rfl)
    (of_decide_eq_true (by kernel_rfl)) (by unfold Func.isWrapper; first | (rw [if_pos (by decide +kernel)]; kernel_rfl) | (rw [if_neg (by decide +kernel)]; exact ⟨rfl, rfl⟩))
    (fun os started H enc _ => lifted os started H enc)
#print axioms proved
end Go.Proofs.Ytdgbdbploghhgaa.Back
