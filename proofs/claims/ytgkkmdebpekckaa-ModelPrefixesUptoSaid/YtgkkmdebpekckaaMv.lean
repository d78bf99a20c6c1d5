/- For ModelPrefixes: what holds while it reads and writes. Conditions: as stated at each. -/
import Derived.Test.YtgkkmdebpekckaaMu
namespace Go.Proofs.Ytgkkmdebpekckaa
open Go.RowKit
def nilV : Value := .slice none 0 0
structure PI (Z : Nat → Prop) (W w : World) (m n : Nat) (s : St) (lva : Value) (Na : Nat) (rva : Nat → Value) (Fa : Nat → Nat → Nat) (lvs : Value) (Ns : Nat) (rvs : Nat → Value) (Fs : Nat → Nat → Nat) (c : Nat) : Prop where
  env : Env Z W w m n s
  ok : s.ok n
  way : s.way.N = 0
  la : Lst (fun k => Z k ∨ lvs.ownBlock = some k) w W.heap.size lva Na rva (128 * n) Fa
  ls : Lst (fun k => Z k ∨ lva.ownBlock = some k) w W.heap.size lvs Ns rvs (128 * n) Fs
  pst : AllF (Past n s) Ns Fs
  alt : AllF (Lt (128 * n)) Na Fa
  cov : Cov n s Ns Fs c
section
variable {Z : Nat → Prop} {W w : World} {m n : Nat} {s : St} {lva : Value} {Na : Nat} {rva : Nat → Value} {Fa : Nat → Nat → Nat} {lvs : Value} {Ns : Nat} {rvs : Nat → Value} {Fs : Nat → Nat → Nat} {c : Nat}
theorem PI.keep (h : PI Z W w m n s lva Na rva Fa lvs Ns rvs Fs c) {w1 : World} (hb : Below w.heap.size w w1) : PI Z W w1 m n s lva Na rva Fa lvs Ns rvs Fs c :=
  ⟨h.env.keep hb, h.ok, h.way, h.la.keep hb, h.ls.keep hb, h.pst, h.alt, h.cov⟩
theorem PI.zlt (h : PI Z W w m n s lva Na rva Fa lvs Ns rvs Fs c) : ∀ k, Z k ∨ lva.ownBlock = some k → k < w.heap.size := fun k hk => hk.elim (h.env.mdl.lt k) (fun e => (h.la.own.lt k e).2)
theorem PI.fresh (h : PI Z W w m n s lva Na rva Fa lvs Ns rvs Fs c) {w1 : World} {x : Value} {f : Nat → Nat} {q : Nat} (ho : w1.ownsRow w.heap.size 5 1 x q (bytesL q f)) : BtsX (fun k => (Z k ∨ lva.ownBlock = some k) ∨ lvs.ownBlock = some k) w1 x q f :=
  own_btsX ho fun k hk e => by
    have h1 := (ho.lt k hk).1
    rcases e with e | e
    · have := h.zlt k e; omega
    · have := (h.ls.own.lt k e).2; omega
theorem PI.push (h : PI Z W w m n s lva Na rva Fa lvs Ns rvs Fs s.L) {w' : World} {lv' x : Value} {o : Obj} (hx : BtsX (fun k => (Z k ∨ lva.ownBlock = some k) ∨ lvs.ownBlock = some k) w x (128 * n) s.now)
    (hl : w'.ownsRow W.heap.size 25 1 lv' (Ns + 1) ((List.range Ns).map rvs ++ [x])) (ht : Two (w.heap.size + 1) (w.alloc o) lvs Ns 1 lv' w') :
    PI Z W w' m n s lva Na rva Fa lv' (Ns + 1) (putF Ns rvs x) (putF Ns Fs s.now) (s.L + 1) := by
  obtain ⟨p1, p2, p3⟩ := Lst.push h.ls hx h.zlt hl ht
  exact ⟨h.env.out p2 (fun k hk => (h.ls.own.lt k hk).1) (fun k hk hz => h.ls.nz k hk (.inl hz)), h.ok, h.way, h.la.past p2 (fun k _ e => .inr e) (fun k e => by
    rcases e with e | e
    · exact .inl (.inl e)
    · exact (p3 k e).imp .inr id), p1, h.pst.push (Past.now h.ok), h.alt, h.cov.push h.ok⟩
theorem PI.wr (h : PI Z W w m n s lva Na rva Fa lvs Ns rvs Fs (s.L + 1)) {w1 : World} {Z' : Nat → Prop} {a : Ar} (ha : a.lt) (hm : MdlAt Z' w1 m n (s.wr n a)) (ho : Out Z w w1) (hz : ∀ k, Z' k → Z k ∨ w.heap.size ≤ k) :
    PI Z' W w1 m n (s.wr n a) lva Na rva Fa lvs Ns rvs Fs (s.wr n a).L :=
  ⟨h.env.mut hm ho hz, h.ok.wr ha, (wr_small n s a).2 h.way, h.la.past ho (fun k _ e => .inl e) (fun k e => by
    rcases e with e | e
    · exact (hz k e).imp .inl id
    · exact .inl (.inr e)), h.ls.past ho (fun k _ e => .inl e) (fun k e => by
    rcases e with e | e
    · exact (hz k e).imp .inl id
    · exact .inl (.inr e)), h.pst.mono fun f e => e.ext (Ext.wr s n a), h.alt, h.cov.wr a⟩
/-- Sure: what was read since is moved. -/
theorem PI.moved (h : PI Z W w m n s lva Na rva Fa lvs Ns rvs Fs c) {w1 w2 : World} {la : Value} (hm : MdlAt Z w1 m n s.mkSure) (ho : Out Z w w1)
    (hl : w2.ownsRow W.heap.size 25 1 la Ns ((List.range Ns).map rvs)) (hb : Below w1.heap.size w1 w2) (hbl : ∀ k, la.ownBlock = some k → w1.heap.size ≤ k) :
    PI Z W w2 m n s.mkSure la Ns rvs Fs (.slice none 0 0) 0 rvs Fs s.mkSure.L := by
  have hs := ho.size
  have he : Env Z W w2 m n s.mkSure := (h.env.mut hm ho fun _ e => .inl e).keep hb
  refine ⟨he, h.ok.mkSure, h.way, ⟨hl, fun k hk e => ?_, fun i hi => ?_⟩, ⟨World.ownsRow_nil _ _ _ _, fun k hk => (by cases hk), fun _ h => absurd h (Nat.not_lt_zero _)⟩, fun _ h => absurd h (Nat.not_lt_zero _), fun i hi => (h.pst i hi).lt, fun j hj => absurd hj (Nat.not_lt_zero _)⟩
  · rcases e with e | e
    · have := hbl k hk; have := h.env.mdl.lt k e; omega
    · cases e
  · have h1 : BtsX (fun k => Z k ∨ w.heap.size ≤ k) w (rvs i) (128 * n) (Fs i) := (h.ls.row i hi).mono fun k hk e => e.elim (fun e => .inl (.inl e)) (fun e => by omega)
    refine ((h1.out ho fun k _ e => .inl e).out (Out.of_below (S := fun _ => False) hb) (fun _ _ h => h.elim)).mono fun k _ e => ?_
    rcases e with (e | e) | e
    · exact .inl e
    · cases e
    · have := hbl k e; exact .inr (by omega)
end
theorem two_nil {s : Nat} {W w' : World} {q : Nat} {v' : Value} (ht : Two s W (.slice none 0 0) 0 q v' w') (hs : W.heap.size ≤ s) : Below W.heap.size W w' ∧ ∀ k, v'.ownBlock = some k → W.heap.size ≤ k := by
  rcases ht with ⟨g, cap, hv, _⟩ | ⟨⟨cap, rfl⟩, hg⟩
  · cases hv
  · exact ⟨(Below.refl _ _).grown hg (Nat.le_refl _) (fun k hk => by cases hk), fun k hk => by cases hk; exact hs⟩
end Go.Proofs.Ytgkkmdebpekckaa
