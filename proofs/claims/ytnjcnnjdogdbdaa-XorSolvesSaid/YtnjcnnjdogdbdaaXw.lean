/- What every law's last step wants in this seat: arguments opened, carried; 'cut'. Conditions: none. -/
import Derived.Test.YtnjcnnjdogdbdaaXj
import Derived.ProofKit
import Derived.OpenShut
import Derived.SizedLaws
import Derived.ChangeSlices
import Derived.Lib.SmallJoins
namespace Go.Proofs.Ytnjcnnjdogdbdaa
open Go.ChangeShapes Go.WideShapes Go.ChangeAt Go.RowKit
theorem laidOut : laidOutB Try.prog = true := by kernel_rfl
theorem own : ownKnob Try.prog.godebug = none := by kernel_rfl
theorem cells5 : Try.prog.cellsOf 5 = 1 := by kernel_rfl
theorem bytes5 : Try.prog.bytesOf 5 = 1 := by kernel_rfl
theorem carryAll {H : Type} {enc : TypeId × Value → H} {P : Program} (hl : laidOutB P = true) {W W' : World} (hb : Below W.heap.size W W') : ∀ (ts : List TypeId) (vs : List Value) (ds : List (DataW H)) (ps : List MemPlace),
    (∀ t ∈ ts, P.readableRec t = true ∧ t < P.types.size) → DataW.TrodAll enc P W 0 (fun _ => true) true ts vs ds ps → (∀ x ∈ ps, x.block < W.heap.size) →
    DataW.TrodAll enc P W' 0 (fun b => decide (b < W.heap.size)) true ts vs ds ps
  | [], _, _, _, _, h, _ => by
    obtain ⟨rfl, rfl, rfl⟩ := trodAll_nil h
    exact trodAll_mk0
  | t :: ts, vs, ds, ps, ht, h, hlt => by
    obtain ⟨v, vs1, d, ds1, a, b, rfl, rfl, rfl, h1, h2⟩ := trodAll_cons h
    exact trodAll_cons_mk (Below.trod hl (ht t (by simp)).1 (ht t (by simp)).2 h1 hb (fun x hx => hlt x (by simp [hx])))
      (carryAll hl hb ts vs1 ds1 b (fun t' ht' => ht t' (by simp [ht'])) h2 (fun x hx => hlt x (by simp [hx])))
/-- A slice of bytes that came in. -/
def Came (W : World) (v : Value) (n : Nat) (f : Nat → Nat) : Prop :=
  (∃ a cap, v = .slice a 0 cap ∧ n = 0) ∨ ∃ b o cap, v = .slice (some ⟨b, o, none⟩) n cap ∧ n ≤ cap ∧ cap ≤ maxLen ∧ ∀ k, k < n → W.cell? ⟨b, o + k, none⟩ = some (.int .u8 (f k))
theorem Came.bts {W : World} {v : Value} {n : Nat} {f : Nat → Nat} (h : Came W v n f) : Bts W v n f := by
  rcases h with ⟨_, _, rfl, rfl⟩ | ⟨b, o, cap, rfl, _, _, hc⟩
  · exact Bts.nil _ _ _ _
  · exact ⟨_, _, rfl, .inr ⟨b, o, rfl, hc⟩⟩
set_option maxRecDepth 100000 in
theorem open_bts {H : Type} {enc : TypeId × Value → H} {W : World} {base : Nat} {v : Value} {d : DataW H} {p : List MemPlace} (hval : Value.okWide Try.prog W .any base 25 v) (h : DataW.Trod enc Try.prog W 0 (fun _ => true) true 25 v d p) :
    ∃ n f, Came W v n f ∧ Lt n f ∧ (n = 0 ∨ ∃ es sp, d = .slice es sp ∧ es.length = n) := by
  obtain ⟨a0, len, cap, rfl⟩ := okWide_slice Try.underlying25 hval
  obtain ⟨fuel, hf⟩ := h
  rcases open_ints Try.underlying25 Try.underlying5 cells5 hf with ⟨hcs, hx⟩ | ⟨a, len', cap', zs, hcs, _, hl, hm, hz, hx, hcell, hwz⟩
  · simp [Value.cells] at hcs
    obtain ⟨rfl, rfl, rfl⟩ := hcs
    exact ⟨0, fun _ => 0, .inl ⟨_, _, rfl, rfl⟩, fun _ h => absurd h (Nat.not_lt_zero _), .inl rfl⟩
  · simp [Value.cells] at hcs
    obtain ⟨rfl, rfl, rfl⟩ := hcs
    simp only [Prod.mk.injEq] at hx
    obtain ⟨rfl, rfl⟩ := hx
    simp only [if_true] at hz
    have hw : ∀ k, k < zs.length → 0 ≤ zs.getD k 0 ∧ zs.getD k 0 < 256 := fun k hk => by
      have := hwz (zs.getD k 0) (by rw [List.getD_eq_getElem?_getD, List.getElem?_eq_getElem hk]; exact List.getElem_mem hk)
      have h1 : IntKind.u8.min = 0 := rfl
      have h2 : IntKind.u8.max = 255 := rfl
      simp only [Lit.wf, Bool.and_eq_true, decide_eq_true_eq] at this
      omega
    refine ⟨len, fun k => (zs.getD k 0).toNat, ?_, fun k hk => by have := hw k (by omega); show (zs.getD k 0).toNat < 256; omega, .inr ⟨_, _, rfl, by simp [lits]; omega⟩⟩
    by_cases h0 : cap = 0
    · obtain rfl : len = 0 := by omega
      exact .inl ⟨_, _, rfl, rfl⟩
    · obtain ⟨b, o, spot⟩ := a
      have hspot : spot = none := by simpa [Addr.add] using World.cell?_spot (hcell 0 (by omega))
      subst hspot
      refine .inr ⟨b, o, cap, rfl, hl, hm, fun k hk => ?_⟩
      have := hw k (by omega)
      rw [← add_plain, hcell k (by omega)]
      show some (Value.int .u8 (zs.getD k 0)) = some (.int .u8 (((zs.getD k 0).toNat : Nat) : Int))
      rw [Int.toNat_of_nonneg this.1]
set_option maxRecDepth 100000 in
theorem bnd {H : Type} {ts : List TypeId} {ds : List (DataW H)} {d : DataW H} {j n : Nat} (hsz : (DataW.weightsEach Try.prog ts ds).all (· ≤ reachBytes) = true) (ht : ts[j]? = some 25) (hd : ds[j]? = some d) (ho : n = 0 ∨ ∃ es sp, d = .slice es sp ∧ es.length = n) : (n : Int) ≤ 140737488351232 := by
  rcases ho with rfl | ⟨es, sp, rfl, rfl⟩
  · omega
  · have := sized_slice hsz ht hd Try.underlying25
    rw [bytes5] at this
    simp only [reachBytes] at this
    omega
theorem Came.form {W : World} {v : Value} {n : Nat} {f : Nat → Nat} (h : Came W v n f) : ∃ a cap, v = .slice a n cap ∧ n ≤ cap := by
  rcases h with ⟨a, c, rfl, rfl⟩ | ⟨b, o, cap, rfl, h, _⟩
  · exact ⟨_, _, rfl, Nat.zero_le _⟩
  · exact ⟨_, _, rfl, h⟩
set_option maxRecDepth 100000 in
theorem cut_any (a b c : Option Addr) (na nb nc ca cb cc m : Nat) (w : World) (ha : na ≤ ca) (hb : nb ≤ cb) (hc : nc ≤ cc) (hm : m = min na (min nb nc)) :
    Calls Try.prog 31 #[.slice a na ca, .slice b nb cb, .slice c nc cc] w fun e w' => e = .returned (.tuple #[.slice a m ca, .slice b m cb, .slice c m cc]) ∧ Below w.heap.size w w' := by
  go_enter Try.func31, Try.ntmps31
  go_wp2
  case inl =>
    obtain rfl : m = nc := by omega
    have h1 : m ≤ ca := by omega
    have h2 : m ≤ cb := by omega
    have h3 : m ≤ cc := by omega
    clear hm
    go_quiet (fail)
    go_wp2
    go_returns
    exact ⟨rfl, bdn (Below.refl _ _) _⟩
  case inr.inl =>
    obtain rfl : m = nb := by omega
    have h1 : m ≤ ca := by omega
    have h2 : m ≤ cb := by omega
    have h3 : m ≤ cc := by omega
    clear hm
    go_quiet (fail)
    go_wp2
    go_returns
    exact ⟨rfl, bdn (Below.refl _ _) _⟩
  case inr.inr =>
    obtain rfl : m = na := by omega
    have h1 : m ≤ ca := by omega
    have h2 : m ≤ cb := by omega
    have h3 : m ≤ cc := by omega
    clear hm
    go_quiet (fail)
    go_wp2
    go_returns
    exact ⟨rfl, bdn (Below.refl _ _) _⟩
end Go.Proofs.Ytnjcnnjdogdbdaa
