/- AGo, part 11: what a state says of another one; functions. -/
import Derived.Test.YtbiajjcolfhioaaDoorAgSat
set_option linter.all false
namespace Go.Ag
open Go Go.RowKit

mutual
def D.lt (n : Nat) : D → Prop
  | .own b _ _ => b < n
  | .ptr b _ => b < n
  | .eptr b _ _ _ _ => b < n
  | .map b => b < n
  | .agg cs => D.ltL n cs
  | .tup cs => D.ltL n cs
  | .fn _ cs => D.ltL n cs
  | .v _ => True
  | .nils => True
  | .rptr _ => True
  | .nilp => True
  | .nilm => True
  | .nilf => True
  | .any => True
def D.ltL (n : Nat) : List D → Prop
  | [] => True
  | d :: ds => D.lt n d ∧ D.ltL n ds
end

mutual
theorem Rel.lt {M : Mem} {μ : Mu} {n : Nat} (hd : ∀ i p, μ i = some p → i < n) : ∀ {d : D} {y : Value}, Rel M μ d y → D.lt n d
  | .v _, _, _ => by simp only [D.lt]
  | .agg cs, _, r => by simp only [Rel, D.lt] at r ⊢; obtain ⟨vs, _, r⟩ := r; exact RelL.lt hd r
  | .tup cs, _, r => by simp only [Rel, D.lt] at r ⊢; obtain ⟨vs, _, r⟩ := r; exact RelL.lt hd r
  | .own b _ _, _, r => by simp only [Rel, D.lt] at r ⊢; obtain ⟨_, p, hp, _⟩ := r; exact hd _ _ hp
  | .nils, _, _ => by simp only [D.lt]
  | .ptr b _, _, r => by simp only [Rel, D.lt] at r ⊢; obtain ⟨p, hp, _⟩ := r; exact hd _ _ hp
  | .eptr b _ _ _ _, _, r => by simp only [Rel, D.lt] at r ⊢; obtain ⟨_, p, hp, _⟩ := r; exact hd _ _ hp
  | .rptr _, _, _ => by simp only [D.lt]
  | .nilp, _, _ => by simp only [D.lt]
  | .map b, _, r => by simp only [Rel, D.lt] at r ⊢; obtain ⟨p, hp, _⟩ := r; exact hd _ _ hp
  | .nilm, _, _ => by simp only [D.lt]
  | .fn f cs, _, r => by simp only [Rel, D.lt] at r ⊢; obtain ⟨vs, _, r⟩ := r; exact RelL.lt hd r
  | .nilf, _, _ => by simp only [D.lt]
  | .any, _, _ => by simp only [D.lt]
theorem RelL.lt {M : Mem} {μ : Mu} {n : Nat} (hd : ∀ i p, μ i = some p → i < n) : ∀ {ds : List D} {ys : List Value}, RelL M μ ds ys → D.ltL n ds
  | [], _, _ => by simp only [D.ltL]
  | d :: ds, _, r => by
    simp only [RelL, D.ltL] at r ⊢
    obtain ⟨v, vs, _, r1, r2⟩ := r
    exact ⟨Rel.lt hd r1, RelL.lt hd r2⟩
end
mutual
theorem Rel.only {M : Mem} {μ μ' : Mu} {n : Nat} (he : ∀ i, i < n → μ' i = μ i) : ∀ {d : D} {y : Value}, D.lt n d → Rel M μ d y → Rel M μ' d y
  | .v _, _, _, r => by simp only [Rel] at r ⊢; exact r
  | .agg cs, _, l, r => by simp only [Rel, D.lt] at l r ⊢; obtain ⟨vs, e, r⟩ := r; exact ⟨vs, e, RelL.only he l r⟩
  | .tup cs, _, l, r => by simp only [Rel, D.lt] at l r ⊢; obtain ⟨vs, e, r⟩ := r; exact ⟨vs, e, RelL.only he l r⟩
  | .own b _ _, _, l, r => by simp only [Rel, D.lt] at l r ⊢; rw [he b l]; exact r
  | .nils, _, _, r => by simp only [Rel] at r ⊢; exact r
  | .ptr b _, _, l, r => by simp only [Rel, D.lt] at l r ⊢; rw [he b l]; exact r
  | .eptr b _ _ _ _, _, l, r => by simp only [Rel, D.lt] at l r ⊢; rw [he b l]; exact r
  | .rptr _, _, _, r => by simp only [Rel] at r ⊢; exact r
  | .nilp, _, _, r => by simp only [Rel] at r ⊢; exact r
  | .map b, _, l, r => by simp only [Rel, D.lt] at l r ⊢; rw [he b l]; exact r
  | .nilm, _, _, r => by simp only [Rel] at r ⊢; exact r
  | .fn f cs, _, l, r => by simp only [Rel, D.lt] at l r ⊢; obtain ⟨vs, e, r⟩ := r; exact ⟨vs, e, RelL.only he l r⟩
  | .nilf, _, _, r => by simp only [Rel] at r ⊢; exact r
  | .any, _, _, _ => by simp only [Rel]
theorem RelL.only {M : Mem} {μ μ' : Mu} {n : Nat} (he : ∀ i, i < n → μ' i = μ i) : ∀ {ds : List D} {ys : List Value}, D.ltL n ds → RelL M μ ds ys → RelL M μ' ds ys
  | [], _, _, r => by simp only [RelL] at r ⊢; exact r
  | d :: ds, _, l, r => by
    simp only [RelL, D.ltL] at l r ⊢
    obtain ⟨v, vs, e, r1, r2⟩ := r
    exact ⟨v, vs, e, Rel.only he l.1 r1, RelL.only he l.2 r2⟩
end

def Ob.lt (n : Nat) : Ob → Prop
  | .box cs => D.ltL n cs
  | .arr _ _ xs _ => ∀ x ∈ xs, D.ltL n x
  | .mp es => ∀ e ∈ es, D.lt n e.1 ∧ D.lt n e.2
  | .dead => True

theorem EntRel.lt {M : Mem} {μ : Mu} {n : Nat} (hd : ∀ i p, μ i = some p → i < n) : ∀ {ds : List (D × D)} {es : List MapEntry}, EntRel M μ ds es → ∀ e ∈ ds, D.lt n e.1 ∧ D.lt n e.2
  | [], _, _, e, he => by simp at he
  | d :: ds, _, ⟨_, _, _, h2, h3, h4⟩, e, he => by
    simp only [List.mem_cons] at he
    rcases he with rfl | he
    · exact ⟨h2.lt hd, h3.lt hd⟩
    · exact EntRel.lt hd h4 e he
theorem ObRel.olt {base : Nat} {M : Mem} {μ : Mu} {w : World} {o : Ob} {p : Pt} {n : Nat} (hd : ∀ i p, μ i = some p → i < n) (h : ObRel base M μ w o p) : o.lt n := by
  cases o with
  | dead => trivial
  | box cs => obtain ⟨_, _, _, vs, t, _, hr⟩ := h; exact hr.lt hd
  | arr ver sz xs esc =>
    obtain ⟨_, _, _, _, _, vs, t, _, _, hr⟩ := h
    intro x hx
    obtain ⟨i, hi⟩ := List.mem_iff_getElem?.1 hx
    exact (hr i x hi).2.lt hd
  | mp es => obtain ⟨_, _, _, ents, c, _, hr, _⟩ := h; exact hr.lt hd
theorem EntRel.only {M : Mem} {μ μ' : Mu} {n : Nat} (he : ∀ i, i < n → μ' i = μ i) : ∀ {ds : List (D × D)} {es : List MapEntry}, (∀ e ∈ ds, D.lt n e.1 ∧ D.lt n e.2) → EntRel M μ ds es → EntRel M μ' ds es
  | [], _, _, r => r
  | d :: ds, _, hl, ⟨e, es, h1, h2, h3, h4⟩ => ⟨e, es, h1, h2.only he (hl d (by simp)).1, h3.only he (hl d (by simp)).2, h4.only he (fun x hx => hl x (by simp [hx]))⟩
theorem ObRel.only {base : Nat} {M : Mem} {μ μ' : Mu} {w : World} {o : Ob} {p : Pt} {n : Nat} (he : ∀ i, i < n → μ' i = μ i) (hl : o.lt n) (h : ObRel base M μ w o p) : ObRel base M μ' w o p := by
  cases o with
  | dead => trivial
  | box cs => obtain ⟨h1, h2, h3, vs, t, hb, hr⟩ := h; exact ⟨h1, h2, h3, vs, t, hb, hr.only he hl⟩
  | arr ver sz xs esc =>
    obtain ⟨h1, h2, h3, h4, h5, vs, t, hb, h6, hr⟩ := h
    exact ⟨h1, h2, h3, h4, h5, vs, t, hb, h6, fun i x hx => ⟨(hr i x hx).1, (hr i x hx).2.only he (hl x (List.mem_of_getElem? hx))⟩⟩
  | mp es => obtain ⟨h1, h2, h3, ents, c, hb, hr, h5⟩ := h; exact ⟨h1, h2, h3, ents, c, hb, hr.only he hl, h5⟩

/-- Of what was there at the begin all leads to what was there. -/
structure Env.Closed (E : Env) : Prop where
  tot : ∀ i, i < E.H0.length → ∃ p, E.μ0 i = some p
  dom : ∀ i p, E.μ0 i = some p → i < E.H0.length
  ob : ∀ i o p, E.H0[i]? = some o → E.μ0 i = some p → o.lt E.H0.length

/-- A state tells another one. -/
def Ent (E : Env) (ts : List D) (H : List Ob) (ts' : List D) (H' : List Ob) : Prop :=
  ∀ (M : Mem) (μ : Mu) (w : World) (vs : List Value), E.M0.le M → E.μ0.le μ → R E M μ H w → RelL M μ ts vs → ∃ M' μ', E.M0.le M' ∧ E.μ0.le μ' ∧ R E M' μ' H' w ∧ RelL M' μ' ts' vs

theorem Ent.refl {E : Env} (ts : List D) (H : List Ob) : Ent E ts H ts H := fun M μ w vs h1 h2 h3 h4 => ⟨M, μ, h1, h2, h3, h4⟩
theorem Ent.trans {E : Env} {a b c : List D} {A B C : List Ob} (h : Ent E a A b B) (k : Ent E b B c C) : Ent E a A c C := fun M μ w vs h1 h2 h3 h4 => by
  obtain ⟨M', μ', g1, g2, g3, g4⟩ := h M μ w vs h1 h2 h3 h4
  exact k M' μ' w vs g1 g2 g3 g4

/-- A slot's content told with less. -/
def D.le (d d' : D) : Prop := ∀ (M : Mem) (μ : Mu) (v : Value), Rel M μ d v → Rel M μ d' v
theorem D.le_refl (d : D) : D.le d d := fun _ _ _ h => h
theorem D.le_any (d : D) : D.le d .any := fun _ _ _ _ => by simp only [Rel]
theorem D.le_nils (sz : Nat) : D.le .nils (.v (.list sz [])) := fun M μ v h => by
  simp only [Rel, RelV] at h ⊢
  exact ⟨none, 0, by rw [h]; rfl, by simp, .inl trivial⟩
def leL : List D → List D → Prop
  | [], [] => True
  | d :: ds, e :: es => D.le d e ∧ leL ds es
  | _, _ => False
theorem leL.rel {M : Mem} {μ : Mu} : ∀ {ds es : List D} {vs : List Value}, leL ds es → RelL M μ ds vs → RelL M μ es vs
  | [], [], _, _, r => r
  | d :: ds, e :: es, _, h, r => by
    simp only [leL, RelL] at h r ⊢
    obtain ⟨v, vs, e', r1, r2⟩ := r
    exact ⟨v, vs, e', h.1 M μ v r1, leL.rel h.2 r2⟩
  | [], _ :: _, _, h, _ => by simp [leL] at h
  | _ :: _, [], _, h, _ => by simp [leL] at h
theorem Ent.weak {E : Env} {ts ts' : List D} {H : List Ob} (h : leL ts ts') : Ent E ts H ts' H := fun M μ w vs h1 h2 h3 h4 => ⟨M, μ, h1, h2, h3, h.rel h4⟩

/-- What nobody leads to is forgotten. -/
theorem Ent.gc {E : Env} {ts : List D} {H : List Ob} (n : Nat) (hE : E.Closed) (hn : E.H0.length ≤ n) (ht : D.ltL n ts) (ho : ∀ i o, i < n → H[i]? = some o → E.H0[i]? = some o ∨ o.lt n) : Ent E ts H ts (H.take n) := by
  intro M μ w vs h1 h2 h3 h4
  have he : ∀ i, i < n → (fun i => if i < n then μ i else none) i = μ i := fun i hi => by simp [hi]
  have hsome : ∀ i p, (fun i => if i < n then μ i else none) i = some p → i < n ∧ μ i = some p := fun i p hp => by
    by_cases hi : i < n
    · simp only [hi, if_true] at hp; exact ⟨hi, hp⟩
    · simp only [hi, if_false] at hp; cases hp
  refine ⟨M, fun i => if i < n then μ i else none, h1, fun i p hp => ?_, ⟨h3.below, h3.imm, h3.glob, fun i p hp => ?_, fun i o p hio hp => ?_, ?_, fun i hi => ?_⟩, h4.only he ht⟩
  · have := hE.dom i p hp
    obtain ⟨p', g1, g2⟩ := h2 i p hp
    exact ⟨p', by rw [he i (by omega)]; exact g1, g2⟩
  · obtain ⟨hi, hp⟩ := hsome i p hp
    have := h3.dom i p hp; simp; omega
  · obtain ⟨hi, hp⟩ := hsome i p hp
    rw [List.getElem?_take, if_pos hi] at hio
    have hob := h3.obj i o p hio hp
    rcases ho i o hi hio with h0 | h0
    · obtain ⟨q, hq⟩ := hE.tot i (List.getElem?_eq_some_iff.1 h0).1
      exact hob.only (n := E.H0.length) (fun j hj => he j (by omega)) (hE.ob i o q h0 hq)
    · exact hob.only he h0
  · intro i j oi oj pi pj hij hi hj di dj hpi hpj
    obtain ⟨hin, hpi⟩ := hsome i pi hpi
    obtain ⟨hjn, hpj⟩ := hsome j pj hpj
    rw [List.getElem?_take, if_pos hin] at hi
    rw [List.getElem?_take, if_pos hjn] at hj
    exact h3.sep i j oi oj pi pj hij hi hj di dj hpi hpj
  · have hi' : i < n ∧ i < H.length := by rw [List.length_take] at hi; omega
    obtain ⟨p, hp⟩ := h3.tot i hi'.2
    exact ⟨p, (he i hi'.1).trans hp⟩

/-- An array is told to stay as it is. -/
theorem R.publish {E : Env} {M : Mem} {μ : Mu} {H : List Ob} {w : World} (h : R E M μ H w) {b ver sz esc : Nat} {xs : List (List D)} {p : Pt} (hb : H[b]? = some (.arr ver sz xs esc)) (hp : μ b = some p) (he : esc ≤ xs.length) :
    ∃ M', M.le M' ∧ R E M' μ (H.set b (.arr ver sz xs xs.length)) w ∧ ∃ vs : List Value, Rows M' μ sz xs vs ∧ xs.length * sz ≤ vs.length ∧ ∀ j, j < xs.length * sz → M' p.blk j = vs[j]? := by
  obtain ⟨hbase, hver, hv1, himm, hcap, vs, tt, hbl, hvl, hv⟩ := h.obj b _ p hb hp
  have hlt := h.dom b p hp
  have hfit : xs.length * sz ≤ vs.length := by rw [hvl]; exact Nat.mul_le_mul_right _ hcap
  have hnew : ∀ b' o, b' = p.blk → o < xs.length * sz → (fun b' o => if b' = p.blk ∧ o < xs.length * sz then vs[o]? else M b' o) b' o = vs[o]? := fun b' o e ho => by simp [e, ho]
  have hold : ∀ b' o, ¬ (b' = p.blk ∧ o < xs.length * sz) → (fun b' o => if b' = p.blk ∧ o < xs.length * sz then vs[o]? else M b' o) b' o = M b' o := fun b' o e => by simp only [if_neg e]
  generalize hM : (fun b' o => if b' = p.blk ∧ o < xs.length * sz then vs[o]? else M b' o) = M' at hnew hold
  have hle : M.le M' := fun b' o y hy => by
    by_cases e : b' = p.blk ∧ o < xs.length * sz
    · rw [hnew b' o e.1 e.2]
      have := h.imm b' o y hy
      rw [e.1, cell?_block hbl] at this
      exact this
    · rw [hold b' o e]; exact hy
  have hne : ∀ b' o, b' ≠ p.blk → M' b' o = M b' o := fun b' o e => hold b' o (fun x => e x.1)
  refine ⟨M', hle, ⟨h.below, fun b' o y hy => ?_, fun g cs hg => (h.glob g cs hg).mono hle, fun i q hq => by simpa using h.dom i q hq, fun i o q hi hq => ?_, ?_, fun i hi => h.tot i (by simpa using hi)⟩, vs, hv.mono hle (.refl _), hfit, fun j hj => hnew _ j rfl hj⟩
  · by_cases e : b' = p.blk ∧ o < xs.length * sz
    · rw [hnew b' o e.1 e.2] at hy
      rw [e.1, cell?_block hbl]; exact hy
    · rw [hold b' o e] at hy; exact h.imm b' o y hy
  · by_cases e : i = b
    · subst e
      rw [hp] at hq; cases hq
      rw [List.getElem?_set_self hlt] at hi; cases hi
      refine ⟨hbase, hver, hv1, fun o y hy => ?_, hcap, vs, tt, hbl, hvl, hv.mono hle (.refl _)⟩
      by_cases ho : o < xs.length * sz
      · exact ho
      · rw [hold _ o (fun x => ho x.2)] at hy
        have := himm o y hy
        have : esc * sz ≤ xs.length * sz := Nat.mul_le_mul_right _ he
        omega
    · rw [List.getElem?_set_ne (fun x => e x.symm)] at hi
      have hob := h.obj i o q hi hq
      cases o with
      | dead => trivial
      | box cs =>
        have hs := h.sep i b _ _ q p e hi hb (by simp) (by simp) hq hp
        obtain ⟨h1, h2, h3, vs', t, hb', hr⟩ := hob
        exact ⟨h1, h2, fun o => by rw [hne _ o hs]; exact h3 o, vs', t, hb', hr.mono hle (.refl _)⟩
      | arr ver' sz' xs' esc' =>
        have hs := h.sep i b _ _ q p e hi hb (by simp) (by simp) hq hp
        obtain ⟨h1, h2, h3, h4, h5, vs', t, hb', h6, hr⟩ := hob
        exact ⟨h1, h2, h3, fun o y hy => h4 o y (by rw [hne _ o hs] at hy; exact hy), h5, vs', t, hb', h6, hr.mono hle (.refl _)⟩
      | mp es =>
        have hs := h.sep i b _ _ q p e hi hb (by simp) (by simp) hq hp
        obtain ⟨h1, h2, h3, ents, c, hb', hr, h5⟩ := hob
        exact ⟨h1, h2, fun o => by rw [hne _ o hs]; exact h3 o, ents, c, hb', hr.mono hle (.refl _), h5⟩
  · intro i j oi oj pi pj hij hi hj di dj hpi hpj
    have back : ∀ (j : Nat) (oj : Ob), (H.set b (.arr ver sz xs xs.length))[j]? = some oj → oj ≠ .dead → ∃ oj', H[j]? = some oj' ∧ oj' ≠ .dead := fun j oj hj dj => by
      by_cases e : j = b
      · subst e; exact ⟨_, hb, by simp⟩
      · rw [List.getElem?_set_ne (fun x => e x.symm)] at hj; exact ⟨oj, hj, dj⟩
    obtain ⟨oi', hi', di'⟩ := back i oi hi di
    obtain ⟨oj', hj', dj'⟩ := back j oj hj dj
    exact h.sep i j oi' oj' pi pj hij hi' hj' di' dj' hpi hpj

mutual
/-- A slot's content, where an array is told to stay as it is. -/
def D.conv (b ver sz : Nat) (ys : List (List V)) : D → D
  | .own b' ver' len => if b' = b ∧ ver' = ver ∧ len ≤ ys.length then .v (.list sz (ys.take len)) else .own b' ver' len
  | .agg cs => .agg (D.convL b ver sz ys cs)
  | .tup cs => .tup (D.convL b ver sz ys cs)
  | .fn f cs => .fn f (D.convL b ver sz ys cs)
  | .v x => .v x
  | .nils => .nils
  | .ptr b o => .ptr b o
  | .eptr b vv s i o => .eptr b vv s i o
  | .rptr cs => .rptr cs
  | .nilp => .nilp
  | .map m => .map m
  | .nilm => .nilm
  | .nilf => .nilf
  | .any => .any
def D.convL (b ver sz : Nat) (ys : List (List V)) : List D → List D
  | [] => []
  | d :: ds => D.conv b ver sz ys d :: D.convL b ver sz ys ds
end

theorem rows_of_pub {M : Mem} {μ : Mu} {sz blk : Nat} {ys : List (List V)} {vs : List Value} (hr : Rows M μ sz (ys.map (·.map .v)) vs) (hl : ys.length * sz ≤ vs.length) (hM : ∀ j, j < ys.length * sz → M blk j = vs[j]?) : RelRows M sz blk 0 ys := by
  refine RelRows.of_get fun i x hx => ?_
  have hil : i < ys.length := (List.getElem?_eq_some_iff.1 hx).1
  obtain ⟨h1, h2⟩ := hr i (x.map .v) (by rw [List.getElem?_map, hx]; rfl)
  refine ⟨by simpa using h1, RelRow.of_get fun j d hj => ?_⟩
  have hjl : j < sz := by have := (List.getElem?_eq_some_iff.1 hj).1; simp at h1; omega
  obtain ⟨y, g1, g2⟩ := h2.get j (.v d) (by rw [List.getElem?_map, hj]; rfl)
  rw [List.getElem?_take, if_pos hjl, List.getElem?_drop] at g1
  simp only [Rel] at g2
  refine ⟨y, ?_, g2⟩
  have : (i + 1) * sz ≤ ys.length * sz := Nat.mul_le_mul_right _ hil
  rw [Nat.add_mul, Nat.one_mul] at this
  rw [Nat.zero_add, hM _ (by omega), g1]

mutual
theorem Rel.conv {M : Mem} {μ : Mu} {b ver sz : Nat} {ys : List (List V)} {p : Pt} (hp : μ b = some p) (hv : p.ver = ver) (hr : RelRows M sz p.blk 0 ys) : ∀ {d : D} {y : Value}, Rel M μ d y → Rel M μ (D.conv b ver sz ys d) y
  | .own b' ver' len, y, r => by
    simp only [D.conv]
    split
    · rename_i hc
      obtain ⟨rfl, rfl, hl⟩ := hc
      simp only [Rel, RelV] at r ⊢
      obtain ⟨_, q, hq, _, _, g⟩ := r
      rw [hp] at hq; cases hq
      obtain ⟨g1, rfl⟩ := g hv
      have hlen : (ys.take len).length = len := by simp; omega
      exact ⟨_, _, by rw [hlen], by rw [hlen]; exact g1, .inr ⟨_, 0, rfl, hr.take len⟩⟩
    · exact r
  | .agg cs, _, r => by simp only [Rel, D.conv] at r ⊢; obtain ⟨vs, e, r⟩ := r; exact ⟨vs, e, RelL.conv hp hv hr r⟩
  | .tup cs, _, r => by simp only [Rel, D.conv] at r ⊢; obtain ⟨vs, e, r⟩ := r; exact ⟨vs, e, RelL.conv hp hv hr r⟩
  | .fn f cs, _, r => by simp only [Rel, D.conv] at r ⊢; obtain ⟨vs, e, r⟩ := r; exact ⟨vs, e, RelL.conv hp hv hr r⟩
  | .v _, _, r => by simp only [D.conv]; exact r
  | .nils, _, r => by simp only [D.conv]; exact r
  | .ptr _ _, _, r => by simp only [D.conv]; exact r
  | .eptr _ _ _ _ _, _, r => by simp only [D.conv]; exact r
  | .rptr _, _, r => by simp only [D.conv]; exact r
  | .nilp, _, r => by simp only [D.conv]; exact r
  | .map _, _, r => by simp only [D.conv]; exact r
  | .nilm, _, r => by simp only [D.conv]; exact r
  | .nilf, _, r => by simp only [D.conv]; exact r
  | .any, _, r => by simp only [D.conv]; exact r
theorem RelL.conv {M : Mem} {μ : Mu} {b ver sz : Nat} {ys : List (List V)} {p : Pt} (hp : μ b = some p) (hv : p.ver = ver) (hr : RelRows M sz p.blk 0 ys) : ∀ {ds : List D} {vs : List Value}, RelL M μ ds vs → RelL M μ (D.convL b ver sz ys ds) vs
  | [], _, r => by simp only [D.convL]; exact r
  | d :: ds, _, r => by
    simp only [RelL, D.convL] at r ⊢
    obtain ⟨v, vs, e, r1, r2⟩ := r
    exact ⟨v, vs, e, Rel.conv hp hv hr r1, RelL.conv hp hv hr r2⟩
end

/-- An array's rows are told, by value. -/
theorem Ent.pub {E : Env} {ts : List D} {H : List Ob} (b : Nat) {ver sz esc : Nat} {xs : List (List D)} (ys : List (List V)) (hb : H[b]? = some (.arr ver sz xs esc)) (he : esc ≤ xs.length) (hx : xs = ys.map (·.map .v)) :
    Ent E ts H (D.convL b ver sz ys ts) (H.set b (.arr ver sz xs ys.length)) := by
  intro M μ w vs h1 h2 h3 h4
  subst hx
  obtain ⟨p, hp⟩ := h3.tot b (List.getElem?_eq_some_iff.1 hb).1
  obtain ⟨M', g1, g2, vs', g3, g4, g5⟩ := h3.publish hb hp he
  have hver := (h3.obj b _ p hb hp).2.1
  rw [List.length_map] at g2 g4 g5
  exact ⟨M', μ, h1.trans g1, h2, g2, RelL.conv hp hver (rows_of_pub g3 g4 g5) (RelL.mono g1 (.refl _) h4)⟩

theorem sat_ent {E : Env} {c : Code} {ts ts' : List D} {H H' : List Ob} {Q : Exit → List D → List Ob → Prop} (h : Ent E ts H ts' H') (k : Sat E c ts' H' Q) : Sat E c ts H Q := by
  intro M μ w a h1 h2 h3 h4 h5
  obtain ⟨M', μ', g1, g2, g3, g4⟩ := h M μ w _ h1 h2 h3 h4
  exact k M' μ' w a g1 g2 g3 g4 h5

/-- A loop whose rounds end in a state that tells the next round's head. -/
theorem sat_loop_ent {E : Env} {c : Code} {ts : List D} {H : List Ob} {Q : Exit → List D → List Ob → Prop} (I : Nat → List D → List Ob → Prop) (n : Nat) {ts0 : List D} {H0 : List Ob} (h0 : Ent E ts H ts0 H0) (hi : I n ts0 H0)
    (hr : ∀ n ts H, I n ts H → Sat E c ts H (Th (fun ts' H' => ∃ m ts2 H2, m < n ∧ Ent E ts' H' ts2 H2 ∧ I m ts2 H2) Q)) : Sat E (.loop c) ts H Q := by
  refine sat_ent h0 (sat_loop (fun n ts H => ∃ ts2 H2, Ent E ts H ts2 H2 ∧ I n ts2 H2) n ⟨_, _, .refl _ _, hi⟩ ?_)
  rintro n ts H ⟨ts2, H2, he, hI⟩
  refine sat_ent he ((hr n ts2 H2 hI).mono ?_)
  intro e ts' H' hq
  cases e with
  | normal => obtain ⟨m, ts3, H3, g1, g2, g3⟩ := hq; exact ⟨m, g1, ts3, H3, g2, g3⟩
  | _ => exact hq

def retD (slots : List Tmp) (ts : List D) : D :=
  match slots with
  | [s] => ts.getD s (.tup [])
  | _ => .tup (slots.map fun s => ts.getD s (.tup []))

theorem getD_rel {M : Mem} {μ : Mu} {ts : List D} {a : Array Value} (ht : RelL M μ ts a.toList) (s : Nat) : Rel M μ (ts.getD s (.tup [])) (a.getD s undef) := by
  have hl : a.size = ts.length := by have := ht.length; rwa [show a.toList.length = a.size from Array.length_toList] at this
  rw [List.getD_eq_getElem?_getD, Array.getD_eq_getD_getElem?]
  by_cases hlt : s < ts.length
  · obtain ⟨y, h1, h2⟩ := ht.get s _ (List.getElem?_eq_getElem hlt)
    rw [List.getElem?_eq_getElem hlt]
    have h3 : a[s]? = some y := by simpa using h1
    rw [h3]; exact h2
  · rw [List.getElem?_eq_none (Nat.le_of_not_lt hlt), Array.getElem?_eq_none (by omega)]
    simp only [Option.getD_none, Rel, RelL]
    exact ⟨[], rfl, rfl⟩

def retV (slots : List Tmp) (a : Array Value) : Value :=
  match slots with
  | [s] => a.getD s undef
  | _ => .tuple (slots.map fun s => a.getD s undef).toArray
theorem results_run {P : Program} {w : World} {fn : Func} {slots : List Tmp} (hr : fn.results.toList = slots.map ResultVar.tmp) (a : Array Value) :
    (results fn a).run P w = Result.ok (retV slots a) w := by
  have hm : ∀ ss : List Tmp, ((ss.map ResultVar.tmp).mapM (fun x => match x with | ResultVar.tmp t => (pure (a.getD t undef) : Sem Value) | ResultVar.cell ad t => (do loadVar t (← asAddr (a.getD ad undef)) : Sem Value))).run P w = Result.ok (ss.map fun s => a.getD s undef) w := by
    intro ss
    induction ss with
    | nil => simp
    | cons s ss ih => simp only [List.map_cons, List.mapM_cons, Sem.run_bind, Sem.run_pure, Result.andThen_ok, ih]
  have hres : fn.results = (slots.map ResultVar.tmp).toArray := by apply Array.toList_inj.1; simpa using hr
  unfold results
  rw [hres, Array.mapM_eq_mapM_toList]
  simp only [Sem.run_bind, Sem.run_map, List.toList_toArray, hm, Result.andThen_ok, Sem.run_pure]
  match slots with
  | [] => rfl
  | [s] => rfl
  | s :: s' :: ss => exact (congrArg (fun r : Result (List Value) => (r.andThen fun a w' => Result.ok a.toArray w').andThen fun a w' => Result.ok (if h : a.size = 1 then a[0] else Value.tuple a) w') (hm (s :: s' :: ss))).trans rfl

theorem relL_slots {M : Mem} {μ : Mu} {ts : List D} {a : Array Value} (ht : RelL M μ ts a.toList) : ∀ ss : List Tmp, RelL M μ (ss.map fun s => ts.getD s (.tup [])) (ss.map fun s => a.getD s undef)
  | [] => by simp [RelL]
  | s :: ss => by rw [List.map_cons, List.map_cons, RelL.cons_iff]; exact ⟨getD_rel ht s, relL_slots ht ss⟩

/-- **A function, from its body.** -/
theorem ACalls.body {P : Program} {G : Nat → Option (List V)} {f : FuncId} {args : List D} {H : List Ob} {K : D → List Ob → Prop} (fn : Func) (c : Code) (slots : List Tmp) (hf : P.funcs[f]? = some fn) (hb : fn.body = some c) (hc : callB P f = true) (hr : fn.results.toList = slots.map .tmp)
    (h : ∀ E : Env, E.P = P → E.G = G → E.H0 = H → E.Closed → Sat E c (args ++ List.replicate (fn.ntmps - args.length) (.tup [])) H fun e ts H' => (e = .normal ∨ e = .ret) ∧ ∃ ts' H'', Ent E ts H' ts' H'' ∧ K (retD slots ts') H'') : ACalls P G f args H K := by
  refine ⟨hc, ?_⟩
  rintro ⟨P', G', w0, M0, μ0, H0⟩ e1 e2 M μ w vs h1 h2
  simp only at e1 e2
  subst e1; subst e2
  have hcl : Env.Closed ⟨P', G', w0, M, μ, H⟩ := ⟨h1.tot, h1.dom, fun i o p ho hp => (h1.obj i o p ho hp).olt h1.dom⟩
  have hR : R ⟨P', G', w0, M, μ, H⟩ M μ H w := ⟨h1.below, h1.imm, h1.glob, h1.dom, h1.obj, h1.sep, h1.tot⟩
  have hl := h2.length
  refine calls_of_wp hf hb (wp_mono (h ⟨P', G', w0, M, μ, H⟩ rfl rfl rfl hcl M μ w ⟨vs.toArray ++ Array.replicate (fn.ntmps - vs.toArray.size) undef, []⟩ (Mem.le.refl _) (Mu.le.refl _) hR ?_ rfl) ?_)
  · simp only [Array.toList_append, List.toList_toArray, Array.toList_replicate, List.size_toArray, hl]
    refine h2.append ?_
    generalize fn.ntmps - args.length = n
    induction n with
    | zero => simp [RelL]
    | succ n ih => rw [List.replicate_succ, List.replicate_succ, RelL.cons_iff]; exact ⟨by simp only [Rel, RelL]; exact ⟨[], rfl, rfl⟩, ih⟩
  · rintro e a' w' ⟨M', μ', ts', H', g1, g2, g3, g4, g5, g6, ts2, H2, g7, g8⟩
    obtain ⟨M2, μ2, k1, k2, k3, k4⟩ := g7 M' μ' w' _ g1 g2 g3 g4
    have hval : Rel M2 μ2 (retD slots ts2) (retV slots a'.tmps) := by
      match slots with
      | [] => simp only [retD, Rel]; exact ⟨[], rfl, by simp [RelL]⟩
      | [s] => exact getD_rel k4 s
      | s :: s' :: ss => simp only [retD, Rel]; exact ⟨_, rfl, relL_slots k4 _⟩
    have hfin : ∃ v, (results fn a'.tmps).run P' w' = .ok v w' ∧ ∃ v_1 d M' μ' H', Ending.returned v = .returned v_1 ∧ M.le M' ∧ μ.le μ' ∧ R ⟨P', G', w0, M0, μ0, H0⟩ M' μ' H' w' ∧ Rel M' μ' d v_1 ∧ K d H' :=
      ⟨_, results_run hr _, _, _, M2, μ2, H2, rfl, k1, k2, ⟨k3.below, k3.imm, k3.glob, k3.dom, k3.obj, k3.sep, k3.tot⟩, hval, g8⟩
    rcases g6 with rfl | rfl
    · exact ⟨g5, hfin⟩
    · exact ⟨g5, hfin⟩

end Go.Ag
