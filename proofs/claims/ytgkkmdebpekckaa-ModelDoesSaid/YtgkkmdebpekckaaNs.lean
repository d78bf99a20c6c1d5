/- The end of a call's comparing, from the book on. Conditions: as stated. -/
import Derived.Test.YtgkkmdebpekckaaNr
import Derived.Deep.DeepCutAuto
namespace Go.Proofs.Ytgkkmdebpekckaa
open Go.RowKit Go.Shelf
def dropSeq : Nat → Code → Code
  | 0, c => c
  | n + 1, .seq _ b => dropSeq n b
  | _, c => c
theorem own_rowL {w : World} {B n : Nat} {v : Value} {f : Nat → Nat} (h : w.ownsRow B 5 1 v n (bytesL n f)) : w.ownsRow 0 5 1 v n (rowL .u8 n fun k => (f k : Int)) := own_base0 h
theorem nil_own (w : World) : w.ownsRow 0 5 1 (.slice none 0 0) 0 (bytesL 0 fun _ => 0) := World.ownsRow_nil _ _ _ _
theorem nil_new {w0 : World} {bk : Nat} {Zm Zr P Q : Nat → Prop} : NewD w0 bk Zm Zr P Q (.slice none 0 0) := fun k hk => (by cases hk)
theorem nil_bts {X : Nat → Prop} {w : World} : BtsX X w (.slice none 0 0) 0 fun _ => 0 := ⟨_, _, rfl, .inl rfl⟩
set_option maxRecDepth 1000000 in
set_option maxHeartbeats 4000000 in
theorem does_tail {w0 w : World} {m r bk n N N0 L : Nat} {R R0 : Rf} {Zm Zr P Q : Nat → Prop} (c : Int) (x y : Value) (f : Nat → Nat) (hc0 : 0 ≤ c) (hc1 : c ≤ 180) (HD : DI w0 w m r bk n N R.st R Zm Zr P Q)
    (hx : w.ownsRow 0 5 1 x L (bytesL L f)) (hnx : NewD w0 bk Zm Zr P Q x) (hy : BtsX (fun k => k = bk ∨ Q k) w y L f) (hL : L ≤ 7864320) (hN : N ≤ 1000000) (hNB : R.NB ≤ 1000000000) (hN0 : N ≤ N0) (hR0 : R.NB ≤ R0.NB + 1)
    {u2 u4 u5 u6 u7 u8 u13 u14 u15 u16 u17 u18 u19 u20 u21 u22 u23 u24 u25 u26 u27 u28 u29 u30 u31 u32 u33 u34 u35 u36 u37 u38 u39 u40 u41 u42 u43 u44 u45 u46 u47 u48 u49 u50 u51 u52 u53 u54 u55 u56 u57 u58 u59 u60 u61 u62 u63 u64 u65 u66 u67 u68 u69 u70 u71 u72 u73 u74 u75 u76 u77 u78 u79 u80 u81 u82 u83 u84 u85 u86 u87 u88 u89 u90 u91 u92 u93 u94 u95 u96 u97 u98 u99 u100 u101 u102 u103 u104 u105 u106 u107 u108 u109 u110 u111 u112 u113 u114 u115 u116 u117 u118 u119 u120 u121 u122 u123 u124 u125 u126 u127 u128 u129 u130 u131 u132 u133 u134 u135 u136 u137 u138 u139 u140 u141 u142 u143 u144 u145 u146 u147 u148 u149 u150 u151 u152 u153 u154 u155 u156 u157 u158 u159 u160 u161 u162 u163 u164 u165 u166 u167 u168 u169 u170 u171 u172 u173 u174 u175 u176 u177 u178 u179 u180 u181 u182 u183 u184 u185 u186 u187 u188 u189 u190 u191 u192 u193 u194 u195 u196 : Value} :
    Code.wp Try.prog (dropSeq 4 (Try.f19.body.getD .skip)) (bodyPost Try.prog Try.f19 (DoesP w0 m r bk n N0 R0)) ⟨#[.pointer (some ⟨m, 0, none⟩), .pointer (some ⟨r, 0, none⟩), u2, .pointer (some ⟨bk, 0, none⟩), u4, u5, u6, u7, u8, .int .u16 c, .int .i64 c, x, y, u13, u14, u15, u16, u17, u18, u19, u20, u21, u22, u23, u24, u25, u26, u27, u28, u29, u30, u31, u32, u33, u34, u35, u36, u37, u38, u39, u40, u41, u42, u43, u44, u45, u46, u47, u48, u49, u50, u51, u52, u53, u54, u55, u56, u57, u58, u59, u60, u61, u62, u63, u64, u65, u66, u67, u68, u69, u70, u71, u72, u73, u74, u75, u76, u77, u78, u79, u80, u81, u82, u83, u84, u85, u86, u87, u88, u89, u90, u91, u92, u93, u94, u95, u96, u97, u98, u99, u100, u101, u102, u103, u104, u105, u106, u107, u108, u109, u110, u111, u112, u113, u114, u115, u116, u117, u118, u119, u120, u121, u122, u123, u124, u125, u126, u127, u128, u129, u130, u131, u132, u133, u134, u135, u136, u137, u138, u139, u140, u141, u142, u143, u144, u145, u146, u147, u148, u149, u150, u151, u152, u153, u154, u155, u156, u157, u158, u159, u160, u161, u162, u163, u164, u165, u166, u167, u168, u169, u170, u171, u172, u173, u174, u175, u176, u177, u178, u179, u180, u181, u182, u183, u184, u185, u186, u187, u188, u189, u190, u191, u192, u193, u194, u195, u196], []⟩ w := by
  conv => arg 2; whnf
  have HBk := Lib.hid (bk_put HD.book (own_rowL hx) (by omega) (fun k hk => (hnx k hk).2.2.2) hN)
  have HI := Lib.hid HD
  have HX := Lib.hid hx
  have HY := Lib.hid hy
  have HNx := Lib.hid hnx
  have wc : IntKind.i64.wrap c = c := by go_arith
  obtain ⟨xa, xc, rfl, -, -⟩ := own_form hx
  obtain ⟨ya, yc, rfl, -⟩ := hy
  clear HD hx hnx
  go_wp2_with fail
  refine HBk.out.mono ?_
  rintro e w1 ⟨rfl, hB, ho⟩
  clear HBk
  have HI1 := Lib.hid (HI.out.put HNx.out hB ho fun k hk => (HX.out.lt k hk).2)
  have HX1 : Hid (w1.ownsRow 0 5 1 (.slice xa L xc) L (bytesL L f)) := ho.own HX.out fun k hk e => e.elim (fun e => (HNx.out k hk).2.2.2.1 e) fun e => (HNx.out k hk).2.2.2.2.2 e
  have HY1 := Lib.hid (HY.out.out ho fun _ _ h => h)
  clear hB ho HI HX HY HNx
  go_wp2_with fail
  refine (same_V _ _ L L f f w1 (own_bts HX1.out) HY1.out.bts (by omega)).mono ?_
  rintro e w2 ⟨rfl, hb⟩
  rw [eqB_true (fun _ _ => rfl)]
  have HI2 := Lib.hid (HI1.out.keep hb)
  clear hb HI1 HX1 HY1
  go_wp2_with fail
  refine (fate_any Zm m n R.st w2 HI2.out.mdl (by show R.many + (R.NB - R.many) ≤ _; have := HI2.out.rok.many; omega)).mono ?_
  rintro e w3 ⟨rfl, hb⟩
  have HI3 := Lib.hid (HI2.out.keep hb)
  clear hb HI2
  go_wp2_with fail
  refine (rfate_any Zr r n R w3 HI3.out.ref HI3.out.rok).mono ?_
  rintro e w4 ⟨rfl, hb⟩
  have HI4 := Lib.hid (HI3.out.keep hb)
  clear hb HI3
  obtain ⟨f1, hf1⟩ : ∃ f1, (R.st.many : Int) = f1 := ⟨_, rfl⟩
  obtain ⟨f2, hf2⟩ : ∃ f2, (R.st.L : Int) = f2 := ⟨_, rfl⟩
  obtain ⟨f3, hf3⟩ : ∃ f3, decide (0 < R.st.way.N) = f3 := ⟨_, rfl⟩
  rw [hf1, hf2, hf3]
  clear hf1 hf2 hf3
  go_wp2_with fail
  go_ret
  exact ⟨rfl, _, _, _, _, _, _, HI4.out, by omega, hR0⟩
end Go.Proofs.Ytgkkmdebpekckaa
