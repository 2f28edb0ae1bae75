/- AGo, part 17: the library's contracts, taken in. -/
import Derived.Test.YtbiajjcolfhioaaDoorAgFin
import Derived.Sort.Row
import Derived.Sort.Grow
import Derived.Lib.Join
set_option linter.all false
namespace Go.Ag
open Go Go.RowKit

/-- What was there is as it was. -/
theorem R.more {E : Env} {M : Mem} {μ : Mu} {H : List Ob} {w w' : World} (h : R E M μ H w) (hb : Below w.heap.size w w') : R E M μ H w' := by
  refine ⟨h.below.trans (hb.mono h.below.size), fun b o y hy => ?_, h.glob, h.dom, fun i o p ho hp => ?_, h.sep, h.tot⟩
  · rw [World.cell?_of_block (w := w) (hb.block b (h.imm_lt hy))]; exact h.imm b o y hy
  · have hob := h.obj i o p ho hp
    by_cases hd : o = .dead
    · subst hd; trivial
    · exact hob.same (.refl _) (hb.block _ (hob.lt hd))

def memWith (M : Mem) (blk : Nat) (vs : List Value) : Mem := fun b o => if b = blk then vs[o]? else M b o
theorem memWith_le {M : Mem} {blk : Nat} {vs : List Value} (h : ∀ o, M blk o = none) : M.le (memWith M blk vs) := fun b o y hy => by
  by_cases e : b = blk
  · subst e; rw [h] at hy; cases hy
  · simp [memWith, e, hy]
theorem memWith_self (M : Mem) (blk : Nat) (vs : List Value) (o : Nat) : memWith M blk vs blk o = vs[o]? := by simp [memWith]

/-- .. and a new block never turns from here on. -/
theorem R.fresh {E : Env} {M : Mem} {μ : Mu} {H : List Ob} {w w' : World} (h : R E M μ H w) (hb : Below w.heap.size w w') {blk : Nat} (hk : w.heap.size ≤ blk) (vs : List Value)
    (hv : ∀ o y, vs[o]? = some y → w'.cell? ⟨blk, o, none⟩ = some y) : M.le (memWith M blk vs) ∧ R E (memWith M blk vs) μ H w' := by
  have hn : ∀ o, M blk o = none := fun o => by
    cases hy : M blk o with
    | none => rfl
    | some y => have := h.imm_lt hy; omega
  have hle := memWith_le (vs := vs) hn
  refine ⟨hle, ?_⟩
  have h' := h.more hb
  refine ⟨h'.below, fun b o y hy => ?_, fun g cs hg => (h.glob g cs hg).mono hle, h'.dom, fun i o p ho hp => ?_, h'.sep, h'.tot⟩
  · by_cases e : b = blk
    · subst e; rw [memWith_self] at hy; exact hv _ _ hy
    · simp only [memWith, e, if_false] at hy; exact h'.imm _ _ _ hy
  · have hob := h'.obj i o p ho hp
    have hlt : o ≠ .dead → p.blk < w.heap.size := fun hd => (h.obj i o p ho hp).lt hd
    cases o with
    | dead => trivial
    | box cs =>
      obtain ⟨h1, h2, h3, ws, t, h4, h5⟩ := hob
      have hne : p.blk ≠ blk := by have := hlt (by simp); omega
      exact ⟨h1, h2, fun o => by simp only [memWith, hne, if_false]; exact h3 o, ws, t, h4, h5.mono hle (.refl _)⟩
    | arr ver sz xs esc =>
      obtain ⟨h1, h2, h3, h4, h5, ws, t, h6, h7, h8⟩ := hob
      have hne : p.blk ≠ blk := by have := hlt (by simp); omega
      exact ⟨h1, h2, h3, fun o y hy => by simp only [memWith, hne, if_false] at hy; exact h4 o y hy, h5, ws, t, h6, h7, h8.mono hle (.refl _)⟩
    | mp es =>
      obtain ⟨h1, h2, h3, ents, c, h4, h5, h6, h7⟩ := hob
      have hne : p.blk ≠ blk := by have := hlt (by simp); omega
      exact ⟨h1, h2, fun o => by simp only [memWith, hne, if_false]; exact h3 o, ents, c, h4, h5.mono hle (.refl _), h6, h7⟩

theorem ACalls.of_calls {P : Program} {G : Nat → Option (List V)} {f : FuncId} {args : List D} {H : List Ob} {K : D → List Ob → Prop} (hc : callB P f = true)
    (h : ∀ E : Env, E.P = P → E.G = G → ∀ (M : Mem) (μ : Mu) (w : World) (vs : List Value), R E M μ H w → RelL M μ args vs → Calls P f vs.toArray w fun e w' => ∃ v d, e = .returned v ∧ Below w.heap.size w w' ∧ Rel M μ d v ∧ K d H) : ACalls P G f args H K := by
  refine ⟨hc, fun E e1 e2 M μ w vs h1 h2 => (h E e1 e2 M μ w vs h1 h2).mono ?_⟩
  rintro e w' ⟨v, d, he, hb, hr, hk⟩
  exact ⟨v, d, M, μ, H, he, .refl _, .refl _, h1.more hb, hr, hk⟩

theorem ACalls.of_new {P : Program} {G : Nat → Option (List V)} {f : FuncId} {args : List D} {H : List Ob} {K : D → List Ob → Prop} (hc : callB P f = true)
    (h : ∀ E : Env, E.P = P → E.G = G → ∀ (M : Mem) (μ : Mu) (w : World) (vs : List Value), R E M μ H w → RelL M μ args vs → Calls P f vs.toArray w fun e w' => ∃ v d blk cs, e = .returned v ∧ Below w.heap.size w w' ∧ w.heap.size ≤ blk ∧
      (∀ o y, cs[o]? = some y → w'.cell? ⟨blk, o, none⟩ = some y) ∧ Rel (memWith M blk cs) μ d v ∧ K d H) : ACalls P G f args H K := by
  refine ⟨hc, fun E e1 e2 M μ w vs h1 h2 => (h E e1 e2 M μ w vs h1 h2).mono ?_⟩
  rintro e w' ⟨v, d, blk, cs, he, hb, hk, hv, hr, hK⟩
  obtain ⟨g1, g2⟩ := h1.fresh hb hk cs hv
  exact ⟨v, d, _, μ, H, he, g1, .refl _, g2, hr, hK⟩

/-- Strings by value, in a row of cells. -/
theorem relRows_strs {M : Mem} {b : Nat} : ∀ (l : List (List UInt8)) (o : Nat), (∀ j s, l[j]? = some s → M b (o + j) = some (.string ⟨s.toArray⟩)) → RelRows M 1 b o (l.map fun s => [.str s])
  | [], _, _ => trivial
  | s :: l, o, h => by
    refine ⟨rfl, ⟨⟨_, h 0 s rfl, rfl⟩, trivial⟩, ?_⟩
    exact relRows_strs l (o + 1) fun j t ht => by have := h (j + 1) t ht; rwa [show o + (j + 1) = o + 1 + j from by omega] at this
theorem relRows_strs_get {M : Mem} {b : Nat} : ∀ {l : List (List UInt8)} {o : Nat}, RelRows M 1 b o (l.map fun s => [.str s]) → ∀ j s, l[j]? = some s → M b (o + j) = some (.string ⟨s.toArray⟩)
  | s :: l, o, ⟨_, ⟨⟨y, hy, he⟩, _⟩, h2⟩, 0, t, ht => by simp at ht; subst ht; rw [Nat.add_zero, hy, he]
  | s :: l, o, ⟨_, _, h2⟩, j + 1, t, ht => by
    have := relRows_strs_get h2 j t ht
    rwa [show o + (j + 1) = o + 1 + j from by omega]

/-- What a list of strings by value is in the world. -/
theorem R.strs {E : Env} {M : Mem} {μ : Mu} {H : List Ob} {w : World} (h : R E M μ H w) {l : List (List UInt8)} {y : Value} (hr : Rel M μ (.v (.list 1 (l.map fun s => [.str s]))) y) :
    ∃ A c, y = .slice A l.length c ∧ l.length ≤ c ∧ (l = [] ∨ ∃ b o, A = some ⟨b, o, none⟩ ∧ b < w.heap.size ∧ (∀ j s, l[j]? = some s → M b (o + j) = some (.string ⟨s.toArray⟩)) ∧ (∀ j s, l[j]? = some s → w.cell? ⟨b, o + j, none⟩ = some (.string ⟨s.toArray⟩))) := by
  simp only [Rel, RelV] at hr
  obtain ⟨A, c, rfl, hc, hr⟩ := hr
  simp only [List.length_map] at hc ⊢
  refine ⟨A, c, rfl, hc, ?_⟩
  rcases hr with h0 | ⟨b, o, rfl, hrow⟩
  · left; simpa using h0
  · cases l with
    | nil => exact .inl rfl
    | cons s l =>
      right
      have hg := relRows_strs_get hrow
      refine ⟨b, o, rfl, h.imm_lt (hg 0 s rfl), hg, fun j t ht => h.imm _ _ _ (hg j t ht)⟩
end Go.Ag
