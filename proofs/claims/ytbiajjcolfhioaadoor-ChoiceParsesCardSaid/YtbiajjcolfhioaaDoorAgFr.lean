/- AGo, part 12: frames told by the slots that matter. -/
import Derived.Test.YtbiajjcolfhioaaDoorAgEnt
set_option linter.all false
namespace Go.Ag
open Go Go.RowKit

def look : List (Nat × D) → Nat → D
  | [], _ => .any
  | (j, d) :: l, i => if i = j then d else look l i
def fr (n : Nat) (l : List (Nat × D)) : List D := (List.range n).map (look l)

theorem fr_get {n : Nat} {l : List (Nat × D)} {i : Nat} (h : i < n) : (fr n l)[i]? = some (look l i) := by
  unfold fr; rw [List.getElem?_map, List.getElem?_range h]; rfl
theorem fr_set (n : Nat) (l : List (Nat × D)) (i : Nat) (d : D) : (fr n l).set i d = fr n ((i, d) :: l) := by
  apply List.ext_getElem?
  intro j
  rw [List.getElem?_set]
  by_cases hj : j < n
  · rw [fr_get hj]
    by_cases e : i = j
    · subst e
      rw [if_pos rfl, if_pos (by simp [fr, hj]), fr_get hj]
      simp [look]
    · rw [if_neg e, fr_get hj]
      simp only [look]
      rw [if_neg (fun x => e x.symm)]
  · rw [List.getElem?_eq_none (by simp [fr]; omega), List.getElem?_eq_none (by simp [fr]; omega)]
    split
    · split
      · rename_i h; simp [fr] at h; omega
      · rfl
    · rfl
theorem putD_some (n : Nat) (l : List (Nat × D)) (i : Nat) (d : D) : putD (fr n l) (some i) d = fr n ((i, d) :: l) := fr_set n l i d
theorem putD_none (ts : List D) (d : D) : putD ts none d = ts := rfl
theorem ev_tmp {E : Env} {n : Nat} {l : List (Nat × D)} {t : Nat} (h : t < n) : ev E (fr n l) (.tmp t) = look l t := by
  simp only [ev, List.getD_eq_getElem?_getD, fr_get h, Option.getD_some]
theorem getD_fr {n : Nat} {l : List (Nat × D)} {t : Nat} (h : t < n) (d : D) : (fr n l).getD t d = look l t := by
  simp only [List.getD_eq_getElem?_getD, fr_get h, Option.getD_some]

def leAll (l : List (Nat × D)) : List (Nat × D) → Prop
  | [] => True
  | (i, d) :: r => D.le (look l i) d ∧ leAll l r
theorem leAll_look {l : List (Nat × D)} : ∀ {r : List (Nat × D)}, leAll l r → ∀ i, D.le (look l i) (look r i)
  | [], _, i => D.le_any _
  | (j, d) :: r, h, i => by
    simp only [leAll] at h
    simp only [look]
    split
    · rename_i e; subst e; exact h.1
    · exact leAll_look h.2 i
theorem leL_map (f g : Nat → D) : ∀ (l : List Nat), (∀ i, D.le (f i) (g i)) → leL (l.map f) (l.map g)
  | [], _ => by simp [leL]
  | i :: l, h => by simp only [List.map_cons, leL]; exact ⟨h i, leL_map f g l h⟩
theorem Ent.weakFr {E : Env} {n : Nat} {l l' : List (Nat × D)} {H : List Ob} (h : leAll l l') : Ent E (fr n l) H (fr n l') H := Ent.weak (leL_map _ _ _ (leAll_look h))

def ltAll (n : Nat) : List (Nat × D) → Prop
  | [] => True
  | (_, d) :: r => D.lt n d ∧ ltAll n r
theorem ltAll_look {n : Nat} : ∀ {r : List (Nat × D)}, ltAll n r → ∀ i, D.lt n (look r i)
  | [], _, i => by simp only [look, D.lt]
  | (j, d) :: r, h, i => by
    simp only [ltAll] at h
    simp only [look]
    split
    · exact h.1
    · exact ltAll_look h.2 i
theorem ltL_map {n : Nat} (f : Nat → D) (h : ∀ i, D.lt n (f i)) : ∀ (l : List Nat), D.ltL n (l.map f)
  | [] => by simp only [List.map_nil, D.ltL]
  | i :: l => by simp only [List.map_cons, D.ltL]; exact ⟨h i, ltL_map f h l⟩
theorem ltL_fr {n m : Nat} {l : List (Nat × D)} (h : ltAll m l) : D.ltL m (fr n l) := ltL_map _ (ltAll_look h) _

def ltObs (n : Nat) : List Ob → Prop
  | [] => True
  | o :: os => o.lt n ∧ ltObs n os
theorem ltObs_get {n : Nat} : ∀ {L : List Ob}, ltObs n L → ∀ (i : Nat) (o : Ob), L[i]? = some o → o.lt n
  | [], _, i, o, h => by simp at h
  | a :: L, hl, i, o, h => by
    cases i with
    | zero => simp at h; subst h; exact hl.1
    | succ i => exact ltObs_get hl.2 i o (by simpa using h)

/-- Of what was made here only the first objects stay. -/
theorem Ent.gcFr {E : Env} {n : Nat} {l : List (Nat × D)} (L G : List Ob) (hE : E.Closed) (ht : ltAll (E.H0.length + L.length) l) (ho : ltObs (E.H0.length + L.length) L) : Ent E (fr n l) (E.H0 ++ (L ++ G)) (fr n l) (E.H0 ++ L) := by
  have h := Ent.gc (E := E) (ts := fr n l) (H := E.H0 ++ (L ++ G)) (E.H0.length + L.length) hE (by omega) (ltL_fr ht) (fun i o hi hio => by
    by_cases h0 : i < E.H0.length
    · rw [List.getElem?_append_left h0] at hio; exact .inl hio
    · right
      rw [List.getElem?_append_right (by omega), List.getElem?_append_left (by omega)] at hio
      exact ltObs_get ho _ _ hio)
  have e : (E.H0 ++ (L ++ G)).take (E.H0.length + L.length) = E.H0 ++ L := by
    rw [List.take_append, List.take_of_length_le (by omega)]
    congr 1
    rw [show E.H0.length + L.length - E.H0.length = L.length from by omega, List.take_left]
  rwa [e] at h

theorem convL_map {b ver sz : Nat} {ys : List (List V)} (f : Nat → D) : ∀ l : List Nat, D.convL b ver sz ys (l.map f) = l.map fun i => D.conv b ver sz ys (f i)
  | [] => by simp only [List.map_nil, D.convL]
  | i :: l => by simp only [List.map_cons, D.convL, convL_map f l]
def convFr (b ver sz : Nat) (ys : List (List V)) : List (Nat × D) → List (Nat × D)
  | [] => []
  | (i, d) :: l => (i, D.conv b ver sz ys d) :: convFr b ver sz ys l
theorem look_conv {b ver sz : Nat} {ys : List (List V)} : ∀ (l : List (Nat × D)) (i : Nat), look (convFr b ver sz ys l) i = D.conv b ver sz ys (look l i)
  | [], i => by simp only [convFr, look, D.conv]
  | (j, d) :: l, i => by
    simp only [convFr, look]
    split
    · rfl
    · exact look_conv l i
theorem Ent.pubFr {E : Env} {n : Nat} {l : List (Nat × D)} {H : List Ob} (b : Nat) {ver sz esc : Nat} {xs : List (List D)} (ys : List (List V)) (hb : H[b]? = some (.arr ver sz xs esc)) (he : esc ≤ xs.length) (hx : xs = ys.map (·.map .v)) :
    Ent E (fr n l) H (fr n (convFr b ver sz ys l)) (H.set b (.arr ver sz xs ys.length)) := by
  have h := Ent.pub (E := E) (ts := fr n l) b ys hb he hx
  have e : D.convL b ver sz ys (fr n l) = fr n (convFr b ver sz ys l) := by
    unfold fr
    rw [convL_map]
    apply List.map_congr_left
    intro i _
    exact (look_conv l i).symm
  rwa [e] at h

/-- The frame at a function's entry. -/
def args0 : Nat → List D → List (Nat × D)
  | _, [] => []
  | i, d :: ds => (i, d) :: args0 (i + 1) ds
theorem look_args (ds : List D) : ∀ (k i : Nat) (d : D), ds[i]? = some d → look (args0 k ds) (k + i) = d := by
  induction ds with
  | nil => intro k i d h; simp at h
  | cons a ds ih =>
    intro k i d h
    simp only [args0, look]
    cases i with
    | zero => simp at h; simp [h]
    | succ i =>
      rw [if_neg (by omega), show k + (i + 1) = (k + 1) + i from by omega]
      exact ih (k + 1) i d (by simpa using h)
theorem look_args_none (ds : List D) : ∀ (k i : Nat), ds.length ≤ i → look (args0 k ds) (k + i) = .any := by
  induction ds with
  | nil => intro k i _; rfl
  | cons a ds ih =>
    intro k i h
    simp only [args0, look]
    simp at h
    rw [if_neg (by omega), show k + i = (k + 1) + (i - 1) from by omega]
    exact ih (k + 1) (i - 1) (by omega)

/-- **A function, from its body**, its frame told by slots. -/
theorem ACalls.fn {P : Program} {G : Nat → Option (List V)} {f : FuncId} {args : List D} {H : List Ob} {K : D → List Ob → Prop} (fn : Func) (c : Code) (n : Nat) (slots : List Tmp) (hf : P.funcs[f]? = some fn) (hb : fn.body = some c) (hn : fn.ntmps = n) (hc : callB P f = true) (hr : fn.results.toList = slots.map .tmp) (hl : args.length ≤ n)
    (h : ∀ w0 M0 μ0, Env.Closed ⟨P, G, w0, M0, μ0, H⟩ → Sat ⟨P, G, w0, M0, μ0, H⟩ c (fr n (args0 0 args)) H fun e ts H' => (e = .normal ∨ e = .ret) ∧ ∃ ts' H'', Ent ⟨P, G, w0, M0, μ0, H⟩ ts H' ts' H'' ∧ K (retD slots ts') H'') : ACalls P G f args H K := by
  refine ACalls.body fn c slots hf hb hc hr ?_
  rintro ⟨P', G', w0, M0, μ0, H0⟩ e1 e2 e3 hcl
  simp only at e1 e2 e3
  subst e1; subst e2; subst e3
  refine sat_ent (Ent.weak ?_) (h w0 M0 μ0 hcl)
  rw [hn]
  have hlen : (args ++ List.replicate (n - args.length) (D.tup [])).length = n := by simp; omega
  have e : args ++ List.replicate (n - args.length) (D.tup []) = (List.range n).map fun i => (args ++ List.replicate (n - args.length) (D.tup [])).getD i (.tup []) := by
    apply List.ext_getElem?
    intro i
    rw [List.getElem?_map]
    by_cases hi : i < n
    · rw [List.getElem?_range hi, List.getElem?_eq_getElem (by omega)]
      simp only [Option.map_some, List.getD_eq_getElem?_getD]
      rw [List.getElem?_eq_getElem (by omega)]; rfl
    · rw [List.getElem?_eq_none (by omega), List.getElem?_eq_none (by simp; omega)]; rfl
  rw [e]
  refine leL_map _ _ _ fun i => ?_
  by_cases hi : i < args.length
  · have h1 := look_args args 0 i args[i] (List.getElem?_eq_getElem hi)
    rw [Nat.zero_add] at h1
    rw [h1, List.getD_eq_getElem?_getD, List.getElem?_append_left hi, List.getElem?_eq_getElem hi]
    exact D.le_refl _
  · have h1 := look_args_none args 0 i (by omega)
    rw [Nat.zero_add] at h1
    rw [h1]; exact D.le_any _

end Go.Ag
