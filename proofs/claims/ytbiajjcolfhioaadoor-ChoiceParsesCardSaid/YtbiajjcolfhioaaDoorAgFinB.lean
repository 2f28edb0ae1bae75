/- AGo, part 20: more ends of calls. -/
import Derived.Test.YtbiajjcolfhioaaDoorAgAcc
import Derived.Test.YtbiajjcolfhioaaDoorAgPl0
set_option linter.all false
namespace Go.Ag
open Go Go.RowKit

theorem Fin.le {E : Env} {n : Nat} {l : List (Nat × D)} {H : List Ob} {s : Tmp} {K : D → List Ob → Prop} (d : D) (hs : s < n) (hd : D.le (look l s) d) (h : K d H) : Fin E (fr n l) H [s] K :=
  Fin.ent (Ent.weakFr (l' := [(s, d)]) ⟨hd, trivial⟩) (Fin.is d hs (by simp only [look_cons, ↓reduceIte, if_true]) h)
theorem Fin.le2 {E : Env} {n : Nat} {l : List (Nat × D)} {H : List Ob} {s t : Tmp} {K : D → List Ob → Prop} (d e : D) (hs : s < n) (ht : t < n) (hst : s ≠ t) (hd : D.le (look l s) d) (he : D.le (look l t) e) (h : K (.tup [d, e]) H) : Fin E (fr n l) H [s, t] K :=
  Fin.ent (Ent.weakFr (l' := [(s, d), (t, e)]) ⟨hd, he, trivial⟩) (Fin.is2 d e hs ht (by simp only [look_cons, ↓reduceIte, if_true]) (by simp only [look_cons, hst.symm, ↓reduceIte, if_true]) h)
theorem Fin.gcle {E : Env} {n : Nat} {l : List (Nat × D)} {L : List Ob} {s : Tmp} {K : D → List Ob → Prop} (d : D) (hE : E.Closed) (hs : s < n) (hd : D.le (look l s) d) (hl : D.lt E.H0.length d) (h : K d E.H0) : Fin E (fr n l) (E.H0 ++ L) [s] K :=
  Fin.ent (Ent.weakFr (l' := [(s, d)]) ⟨hd, trivial⟩) (Fin.gc d hE hs (by simp only [look_cons, ↓reduceIte, if_true]) hl h)
theorem Fin.gcle2 {E : Env} {n : Nat} {l : List (Nat × D)} {L : List Ob} {s t : Tmp} {K : D → List Ob → Prop} (d e : D) (hE : E.Closed) (hs : s < n) (ht : t < n) (hst : s ≠ t) (hd : D.le (look l s) d) (he : D.le (look l t) e) (hl : D.lt E.H0.length d) (hm : D.lt E.H0.length e) (h : K (.tup [d, e]) E.H0) : Fin E (fr n l) (E.H0 ++ L) [s, t] K :=
  Fin.ent (Ent.weakFr (l' := [(s, d), (t, e)]) ⟨hd, he, trivial⟩) (Fin.gc2 d e hE hs ht hst (by simp only [look_cons, ↓reduceIte, if_true]) (by simp only [look_cons, hst.symm, ↓reduceIte, if_true]) hl hm h)

theorem Fin.acs {E : Env} {n m sz : Nat} {l : List (Nat × D)} {L : List Ob} {s : Tmp} {ys : List (List V)} {d : D} {K : D → List Ob → Prop} (hE : E.Closed) (hA : Acs E m sz ys d L) (hs : s < n) (hd : look l s = d) (h : K (.v (.list sz ys)) E.H0) : Fin E (fr n l) (E.H0 ++ L) [s] K :=
  Fin.ent (Ent.acs s [] hE hA hd trivial trivial) (Fin.is _ hs (by simp only [look_cons, ↓reduceIte, if_true]) h)

/-! ### plain -/
theorem byteEq (b : UInt8) (n : Nat) (h : n < 256) : ((b.toNat : Int) == (n : Int)) = (b == UInt8.ofNat n) := by
  rw [Bool.eq_iff_iff, beq_iff_eq, beq_iff_eq]
  constructor
  · intro e
    have e : b.toNat = n := Int.ofNat.inj e
    rw [← e]; simp
  · rintro rfl
    simp; omega
theorem len3 {α : Type} : ∀ {l : List α}, l.length = 3 → ∃ a b c, l = [a, b, c]
  | [a, b, c], _ => ⟨a, b, c, rfl⟩
theorem mem_lined (c : UInt8) : ∀ {l : List Str} {x : Str}, x ∈ l → x.length + 1 ≤ (lined c l).length
  | [], x, h => by cases h
  | y :: l, x, h => by
    have e : (lined c (y :: l)).length = y.length + 1 + (lined c l).length := by simp [lined]; omega
    rw [e]
    rcases List.mem_cons.1 h with rfl | h
    · omega
    · have := mem_lined c h; omega
theorem split_mem {c : UInt8} {s x : Str} (h : x ∈ splitC c s) : x.length ≤ s.length := by
  have h1 := mem_lined c h
  rw [lined_split] at h1; simp at h1; omega
theorem lines_mem {s : Str} {l : List Str} (h : linesP s = some l) : (∀ x ∈ l, x.length ≤ s.length) ∧ l.length ≤ s.length := by
  have h1 := lines_eq s
  rw [h] at h1
  obtain ⟨_, h2, _⟩ := h1
  refine ⟨fun x hx => by have := mem_lined 10 hx; rw [← h2] at this; omega, ?_⟩
  have : ∀ l : List Str, l.length ≤ (lined 10 l).length := by
    intro l
    induction l with
    | nil => exact Nat.zero_le _
    | cons x l ih => simp only [lined, List.map_cons, List.flatten_cons, List.length_append, List.length_cons] at ih ⊢; omega
  rw [h2]; exact this l
theorem mapM_snoc {α β : Type} {f : α → Option β} (a : List α) (x : α) : (a ++ [x]).mapM f = (a.mapM f).bind fun r => (f x).bind fun y => some (r ++ [y]) := by
  rw [List.mapM_append]
  cases a.mapM f <;> cases h : f x <;> simp [h]
theorem mapM_take {α β : Type} {f : α → Option β} {l : List α} {i : Nat} {x : α} {r : List β} (hx : l[i]? = some x) (h : (l.take i).mapM f = some r) : (l.take (i + 1)).mapM f = (f x).bind fun y => some (r ++ [y]) := by
  rw [List.take_add_one, hx, Option.toList_some, mapM_snoc, h]; rfl
theorem mapM_none {α β : Type} {f : α → Option β} {l : List α} (i : Nat) (h : (l.take i).mapM f = none) : l.mapM f = none := by
  rw [← List.take_append_drop i l, List.mapM_append, h]; rfl
theorem mapM_len {α β : Type} {f : α → Option β} : ∀ {l : List α} {r : List β}, l.mapM f = some r → r.length = l.length
  | [], r, h => by simp at h; subst h; rfl
  | a :: l, r, h => by
    simp only [List.mapM_cons, Option.bind_eq_bind, Option.pure_def, Option.bind_eq_some_iff, Option.some.injEq] at h
    obtain ⟨b, hb, bs, hbs, rfl⟩ := h
    simp [mapM_len hbs]
theorem mapM_all {α β : Type} {f : α → Option β} (p : β → Prop) : ∀ {l : List α} {r : List β}, l.mapM f = some r → (∀ x ∈ l, ∀ y, f x = some y → p y) → ∀ y ∈ r, p y
  | [], r, h, _ => by simp at h; subst h; simp
  | a :: l, r, h, hp => by
    simp only [List.mapM_cons, Option.bind_eq_bind, Option.pure_def, Option.bind_eq_some_iff, Option.some.injEq] at h
    obtain ⟨b, hb, bs, hbs, rfl⟩ := h
    intro y hy
    rcases List.mem_cons.1 hy with rfl | hy
    · exact hp a (by simp) _ hb
    · exact mapM_all p hbs (fun x hx => hp x (by simp [hx])) y hy
theorem selP_len {l : Str} {x : Sel} (h : selP l = some x) : x.1.length ≤ l.length ∧ x.2.2.length ≤ l.length := by
  have h1 := (selP_some h).1
  rw [h1]; simp [selBody]; omega
end Go.Ag
