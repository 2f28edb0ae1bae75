/- AGo, part 16: how a call ends. -/
import Derived.Test.YtbiajjcolfhioaaDoorAgSimp
import Derived.IntWalk
set_option linter.all false
namespace Go.Ag
open Go Go.RowKit

theorem ev_const {E : Env} {ts : List D} {v : Value} : ev E ts (.const v) = ofConst v := rfl
theorem ev_func {E : Env} {ts : List D} {f : FuncId} : ev E ts (.func f) = .fn f [] := rfl
theorem ev_glob {E : Env} {ts : List D} {g : Nat} : ev E ts (.global g) = match E.G g with | some cs => .rptr cs | none => .any := rfl

/-- What a call's end asks. -/
def Fin (E : Env) (ts : List D) (H : List Ob) (slots : List Tmp) (K : D → List Ob → Prop) : Prop := ∃ ts' H'', Ent E ts H ts' H'' ∧ K (retD slots ts') H''
@[congr] theorem Fin_cg {E : Env} {ts ts' : List D} {H H' : List Ob} {s : List Tmp} {K : D → List Ob → Prop} (h1 : ts = ts') (h2 : H = H') : Fin E ts H s K = Fin E ts' H' s K := by subst h1 h2; rfl

/-- What a body's end asks. -/
def Out (E : Env) (slots : List Tmp) (K : D → List Ob → Prop) : Exit → List D → List Ob → Prop
  | .normal, ts, H => Fin E ts H slots K
  | .ret, ts, H => Fin E ts H slots K
  | _, _, _ => False
theorem Out_normal {E : Env} {slots : List Tmp} {K : D → List Ob → Prop} {ts : List D} {H : List Ob} : Out E slots K .normal ts H = Fin E ts H slots K := rfl
theorem Out_ret {E : Env} {slots : List Tmp} {K : D → List Ob → Prop} {ts : List D} {H : List Ob} : Out E slots K .ret ts H = Fin E ts H slots K := rfl
theorem Out_exit {E : Env} {slots : List Tmp} {K : D → List Ob → Prop} {ts : List D} {H : List Ob} {i : Nat} : Out E slots K (.exit i) ts H = False := rfl

theorem ACalls.go {P : Program} {G : Nat → Option (List V)} {f : FuncId} {args : List D} {H : List Ob} {K : D → List Ob → Prop} (fn : Func) (c : Code) (n : Nat) (slots : List Tmp) (hf : P.funcs[f]? = some fn) (hb : fn.body = some c) (hn : fn.ntmps = n) (hc : callB P f = true) (hr : fn.results.toList = slots.map .tmp) (hl : args.length ≤ n)
    (h : ∀ E : Env, E.Closed → E.P = P → E.G = G → E.H0 = H → Sat E c (fr n (args0 0 args)) H (Out E slots K)) : ACalls P G f args H K := by
  refine ACalls.fn fn c n slots hf hb hn hc hr hl (fun w0 M0 μ0 hcl => (h ⟨P, G, w0, M0, μ0, H⟩ hcl rfl rfl rfl).mono ?_)
  intro e ts H' hq
  cases e with
  | normal => exact ⟨.inl rfl, hq⟩
  | ret => exact ⟨.inr rfl, hq⟩
  | exit i => exact hq.elim
  | _ => exact hq.elim

theorem Fin.here {E : Env} {ts : List D} {H : List Ob} {slots : List Tmp} {K : D → List Ob → Prop} (h : K (retD slots ts) H) : Fin E ts H slots K := ⟨ts, H, .refl _ _, h⟩
theorem Fin.ent {E : Env} {ts ts' : List D} {H H' : List Ob} {slots : List Tmp} {K : D → List Ob → Prop} (e : Ent E ts H ts' H') (h : Fin E ts' H' slots K) : Fin E ts H slots K := by
  obtain ⟨a, b, c, d⟩ := h; exact ⟨a, b, e.trans c, d⟩
theorem Fin.of {E : Env} {ts ts' : List D} {H H' : List Ob} {slots : List Tmp} {K : D → List Ob → Prop} (e : Ent E ts H ts' H') (h : K (retD slots ts') H') : Fin E ts H slots K := ⟨_, _, e, h⟩
/-- One result; all that was made here is forgotten. -/
theorem Fin.gc {E : Env} {n : Nat} {l : List (Nat × D)} {G : List Ob} {s : Tmp} {K : D → List Ob → Prop} (d : D) (hE : E.Closed) (hs : s < n) (hd : look l s = d) (hl : D.lt E.H0.length d) (h : K d E.H0) : Fin E (fr n l) (E.H0 ++ G) [s] K := by
  subst hd
  refine Fin.of ((Ent.weakFr (l' := [(s, look l s)]) ⟨D.le_refl _, trivial⟩).trans (Ent.gcFr [] G hE (by simpa [ltAll] using hl) trivial)) ?_
  simpa only [retD, getD_fr hs, look, ↓reduceIte, if_true, List.append_nil] using h
/-- Two results; all that was made here is forgotten. -/
theorem Fin.gc2 {E : Env} {n : Nat} {l : List (Nat × D)} {G : List Ob} {s t : Tmp} {K : D → List Ob → Prop} (d e : D) (hE : E.Closed) (hs : s < n) (ht : t < n) (hst : s ≠ t) (hd : look l s = d) (he : look l t = e) (hl : D.lt E.H0.length d) (hm : D.lt E.H0.length e) (h : K (.tup [d, e]) E.H0) : Fin E (fr n l) (E.H0 ++ G) [s, t] K := by
  subst hd; subst he
  refine Fin.of ((Ent.weakFr (l' := [(s, look l s), (t, look l t)]) ⟨D.le_refl _, D.le_refl _, trivial⟩).trans (Ent.gcFr [] G hE (by simpa [ltAll] using ⟨hl, hm⟩) trivial)) ?_
  simpa only [retD, List.map, getD_fr hs, getD_fr ht, look, hst.symm, ↓reduceIte, if_true, List.append_nil] using h
/-- One result, an array that was made here: told by value. -/
theorem Fin.pub {E : Env} {n : Nat} {l : List (Nat × D)} {L : List Ob} {s : Tmp} {K : D → List Ob → Prop} (k ver sz esc len : Nat) (ys : List (List V)) (hE : E.Closed) (hs : s < n) (hd : look l s = .own (E.H0.length + k) ver len)
    (hL : L[k]? = some (.arr ver sz (ys.map (·.map .v)) esc)) (he : esc ≤ ys.length) (hl : len ≤ ys.length) (h : K (.v (.list sz (ys.take len))) E.H0) : Fin E (fr n l) (E.H0 ++ L) [s] K := by
  refine Fin.of (ts' := fr n [(s, .v (.list sz (ys.take len)))]) (H' := E.H0) ((Ent.weakFr (l' := [(s, .own (E.H0.length + k) ver len)]) ⟨hd ▸ D.le_refl _, trivial⟩).trans
    ((Ent.pubFr (sz := sz) (esc := esc) (E.H0.length + k) ys (by rw [hp_get]; exact hL) (by simpa using he) rfl).trans ?_)) ?_
  · rw [hp_set]
    have e : convFr (E.H0.length + k) ver sz ys [(s, .own (E.H0.length + k) ver len)] = [(s, .v (.list sz (ys.take len)))] := by simp [convFr, D.conv, hl]
    rw [e]
    have g := Ent.gcFr (n := n) (l := [(s, .v (.list sz (ys.take len)))]) [] (L.set k (.arr ver sz (ys.map (·.map .v)) ys.length)) hE (by simp [ltAll, D.lt]) trivial
    rwa [List.append_nil] at g
  · simpa only [retD, getD_fr hs, look, ↓reduceIte, if_true, List.append_nil] using h
/-- Two results, the first an array that was made here. -/
theorem Fin.pub2 {E : Env} {n : Nat} {l : List (Nat × D)} {L : List Ob} {s t : Tmp} {K : D → List Ob → Prop} (k ver sz esc len : Nat) (ys : List (List V)) (d : V) (hE : E.Closed) (hs : s < n) (ht : t < n) (hst : s ≠ t) (hd : look l s = .own (E.H0.length + k) ver len) (hd2 : look l t = .v d)
    (hL : L[k]? = some (.arr ver sz (ys.map (·.map .v)) esc)) (he : esc ≤ ys.length) (hl : len ≤ ys.length) (h : K (.tup [.v (.list sz (ys.take len)), .v d]) E.H0) : Fin E (fr n l) (E.H0 ++ L) [s, t] K := by
  refine Fin.of (ts' := fr n [(s, .v (.list sz (ys.take len))), (t, .v d)]) (H' := E.H0) ((Ent.weakFr (l' := [(s, .own (E.H0.length + k) ver len), (t, .v d)]) ⟨hd ▸ D.le_refl _, hd2 ▸ D.le_refl _, trivial⟩).trans
    ((Ent.pubFr (sz := sz) (esc := esc) (E.H0.length + k) ys (by rw [hp_get]; exact hL) (by simpa using he) rfl).trans ?_)) ?_
  · rw [hp_set]
    have e : convFr (E.H0.length + k) ver sz ys [(s, .own (E.H0.length + k) ver len), (t, .v d)] = [(s, .v (.list sz (ys.take len))), (t, .v d)] := by simp [convFr, D.conv, hl]
    rw [e]
    have g := Ent.gcFr (n := n) (l := [(s, .v (.list sz (ys.take len))), (t, .v d)]) [] (L.set k (.arr ver sz (ys.map (·.map .v)) ys.length)) hE (by simp [ltAll, D.lt]) trivial
    rwa [List.append_nil] at g
  · simpa only [retD, List.map, getD_fr hs, getD_fr ht, look, hst.symm, ↓reduceIte, if_true, List.append_nil] using h

theorem Fin.is {E : Env} {n : Nat} {l : List (Nat × D)} {H : List Ob} {s : Tmp} {K : D → List Ob → Prop} (d : D) (hs : s < n) (hd : look l s = d) (h : K d H) : Fin E (fr n l) H [s] K := by
  refine Fin.here ?_
  subst hd
  simpa only [retD, getD_fr hs] using h
theorem Fin.is2 {E : Env} {n : Nat} {l : List (Nat × D)} {H : List Ob} {s t : Tmp} {K : D → List Ob → Prop} (d e : D) (hs : s < n) (ht : t < n) (hd : look l s = d) (he : look l t = e) (h : K (.tup [d, e]) H) : Fin E (fr n l) H [s, t] K := by
  refine Fin.here ?_
  subst hd; subst he
  simpa only [retD, List.map, getD_fr hs, getD_fr ht] using h
theorem Ent.round {E : Env} {n : Nat} {l l' : List (Nat × D)} {L L' : List Ob} (G : List Ob) (hE : E.Closed) (hL : L = L' ++ G) (h1 : leAll l l') (h2 : ltAll (E.H0.length + L'.length) l') (h3 : ltObs (E.H0.length + L'.length) L') : Ent E (fr n l) (E.H0 ++ L) (fr n l') (E.H0 ++ L') := by
  subst hL
  exact (Ent.weakFr h1).trans (Ent.gcFr L' G hE h2 h3)
theorem Ent.rnd {E : Env} {n : Nat} {l l' : List (Nat × D)} {L L' : List Ob} (hE : E.Closed) (h1 : leAll l l') (hL : L.take L'.length = L') (h2 : ltAll (E.H0.length + L'.length) l') (h3 : ltObs (E.H0.length + L'.length) L') : Ent E (fr n l) (E.H0 ++ L) (fr n l') (E.H0 ++ L') :=
  Ent.round (L.drop L'.length) hE (by rw [← hL, List.length_take, Nat.min_eq_left (by have := congrArg List.length hL; simp at this; omega)]; exact (List.take_append_drop _ _).symm) h1 h2 h3
theorem Ent.round0 {E : Env} {n : Nat} {l l' : List (Nat × D)} {L : List Ob} (hE : E.Closed) (h1 : leAll l l') (h2 : ltAll E.H0.length l') : Ent E (fr n l) (E.H0 ++ L) (fr n l') E.H0 := by
  have h := Ent.round (n := n) (l := l) (l' := l') (L := L) (L' := []) L hE rfl h1 h2 trivial
  rwa [List.append_nil] at h
theorem wrap_succ {i : Nat} (h : i < 9223372036854775807) : IntKind.i64.wrap ((i : Int) + 1) = ((i + 1 : Nat) : Int) := by
  rw [IntKind.wrap_i64]; omega
theorem wrap_nat {i : Nat} (h : i ≤ 9223372036854775807) : IntKind.i64.wrap (i : Int) = (i : Int) := by
  rw [IntKind.wrap_i64]; omega
theorem wrap_int {n : Int} (h0 : -9223372036854775808 ≤ n) (h : n ≤ 9223372036854775807) : IntKind.i64.wrap n = n := by
  rw [IntKind.wrap_i64]; omega
theorem take_len_map {α β : Type} (f : α → β) (l : List α) : (l.map f).take l.length = l.map f := List.take_of_length_le (by simp)
theorem take_len {α : Type} (l : List α) : l.take l.length = l := List.take_of_length_le (by simp)
theorem look_cons (j : Nat) (d : D) (l : List (Nat × D)) (i : Nat) : look ((j, d) :: l) i = if i = j then d else look l i := by simp only [look]
theorem look_nil (i : Nat) : look [] i = .any := by simp only [look]
theorem leAll_cons (l : List (Nat × D)) (i : Nat) (d : D) (r : List (Nat × D)) : leAll l ((i, d) :: r) = (D.le (look l i) d ∧ leAll l r) := by simp only [leAll]
theorem leAll_nil (l : List (Nat × D)) : leAll l [] = True := by simp only [leAll]
theorem D.le_eq {a b : D} (h : a = b) : D.le a b := h ▸ D.le_refl _

/-! ### objects that are told no more -/
def leObs : List Ob → List Ob → Prop
  | _, [] => True
  | o :: L, o' :: L' => (o = o' ∨ o' = .dead) ∧ leObs L L'
  | [], _ :: _ => False
theorem leObs_cons (o : Ob) (L : List Ob) (o' : Ob) (L' : List Ob) : leObs (o :: L) (o' :: L') = ((o = o' ∨ o' = .dead) ∧ leObs L L') := rfl
theorem leObs_nil (L : List Ob) : leObs L [] = True := by cases L <;> rfl
theorem leObs.get {L L' : List Ob} (h : leObs L L') : L'.length ≤ L.length ∧ ∀ (i : Nat) (o' : Ob), L'[i]? = some o' → o' = Ob.dead ∨ L[i]? = some o' := by
  induction L' generalizing L with
  | nil => exact ⟨Nat.zero_le _, fun i o' h => by simp at h⟩
  | cons a L' ih =>
    cases L with
    | nil => exact h.elim
    | cons b L =>
      obtain ⟨h1, h2⟩ := h
      obtain ⟨g1, g2⟩ := ih h2
      refine ⟨by simp; omega, fun i o' hi => ?_⟩
      cases i with
      | zero => simp at hi; subst hi; rcases h1 with rfl | rfl <;> simp
      | succ i => simpa using g2 i o' (by simpa using hi)
/-- Some objects are told no more. -/
theorem Ent.die {E : Env} {ts : List D} {H H' : List Ob} (hl : H'.length = H.length) (h : ∀ (i : Nat) (o' : Ob), H'[i]? = some o' → o' = Ob.dead ∨ H[i]? = some o') : Ent E ts H ts H' := fun M μ w vs h1 h2 hr ht => by
  refine ⟨M, μ, h1, h2, ⟨hr.below, hr.imm, hr.glob, fun i p hp => hl ▸ hr.dom i p hp, fun i o p ho hp => ?_, ?_, fun i hi => hr.tot i (hl ▸ hi)⟩, ht⟩
  · rcases h i o ho with rfl | g
    · trivial
    · exact hr.obj i o p g hp
  · intro i j oi oj pi pj hij hi hj di dj hpi hpj
    rcases h i oi hi with rfl | gi
    · exact absurd rfl di
    · rcases h j oj hj with rfl | gj
      · exact absurd rfl dj
      · exact hr.sep i j oi oj pi pj hij gi gj di dj hpi hpj
/-- A round's end: slots are forgotten, objects die, garbage goes. -/
theorem Ent.trip {E : Env} {n : Nat} {l l' : List (Nat × D)} {L L' : List Ob} (hE : E.Closed) (h1 : leAll l l') (hL : leObs L L') (h2 : ltAll (E.H0.length + L'.length) l') (h3 : ltObs (E.H0.length + L'.length) L') : Ent E (fr n l) (E.H0 ++ L) (fr n l') (E.H0 ++ L') := by
  obtain ⟨g1, g2⟩ := hL.get
  refine (Ent.weakFr h1).trans ((Ent.die (H' := E.H0 ++ (L' ++ L.drop L'.length)) ?_ ?_).trans (Ent.gcFr L' _ hE h2 h3))
  · simp; omega
  · intro i o' hi
    by_cases h0 : i < E.H0.length
    · right; rw [List.getElem?_append_left h0] at hi ⊢; exact hi
    · rw [List.getElem?_append_right (by omega)] at hi ⊢
      by_cases hk : i - E.H0.length < L'.length
      · rw [List.getElem?_append_left hk] at hi; exact g2 _ _ hi
      · right
        rw [List.getElem?_append_right (by omega), List.getElem?_drop] at hi
        rwa [show L'.length + (i - E.H0.length - L'.length) = i - E.H0.length from by omega] at hi

/-- A slice that is being gathered: nil, or an array of one's own behind m objects that are told no more. -/
def Acc (E : Env) (m sz : Nat) (ys : List (List V)) (d : D) (L : List Ob) : Prop :=
  (ys = [] ∧ d = .nils ∧ L = []) ∨ ∃ ver, 1 ≤ ver ∧ d = .own (E.H0.length + m) ver ys.length ∧ L = List.replicate m .dead ++ [.arr ver sz (ys.map (·.map .v)) 0]

theorem Acc.start {E : Env} (m sz : Nat) : Acc E m sz [] .nils [] := .inl ⟨rfl, rfl, rfl⟩
theorem Fin.acc {E : Env} {n m sz : Nat} {l : List (Nat × D)} {L : List Ob} {s : Tmp} {K : D → List Ob → Prop} {ys : List (List V)} (d : D) (hA : Acc E m sz ys d L) (hE : E.Closed) (hs : s < n) (hd : look l s = d) (h : K (.v (.list sz ys)) E.H0) : Fin E (fr n l) (E.H0 ++ L) [s] K := by
  subst hd
  rcases hA with ⟨rfl, hd, rfl⟩ | ⟨ver, _, hd, rfl⟩
  · refine Fin.of (ts' := fr n [(s, .v (.list sz []))]) (H' := E.H0) ?_ (by simpa only [retD, getD_fr hs, look, ↓reduceIte, if_true] using h)
    rw [List.append_nil]
    exact Ent.weakFr ⟨hd ▸ D.le_nils sz, trivial⟩
  · refine Fin.pub m ver sz 0 ys.length ys hE hs hd ?_ (Nat.zero_le _) (Nat.le_refl _) (by rwa [take_len])
    rw [List.getElem?_append_right (by simp)]; simp
theorem Fin.acc2 {E : Env} {n m sz : Nat} {l : List (Nat × D)} {L : List Ob} {s t : Tmp} {K : D → List Ob → Prop} {ys : List (List V)} (d : D) (e : V) (hA : Acc E m sz ys d L) (hE : E.Closed) (hs : s < n) (ht : t < n) (hst : s ≠ t) (hd : look l s = d) (he : look l t = .v e) (h : K (.tup [.v (.list sz ys), .v e]) E.H0) : Fin E (fr n l) (E.H0 ++ L) [s, t] K := by
  subst hd
  rcases hA with ⟨rfl, hd, rfl⟩ | ⟨ver, _, hd, rfl⟩
  · refine Fin.of (ts' := fr n [(s, .v (.list sz [])), (t, .v e)]) (H' := E.H0) ?_ (by simpa only [retD, List.map, getD_fr hs, getD_fr ht, look, hst.symm, ↓reduceIte, if_true] using h)
    rw [List.append_nil]
    exact Ent.weakFr ⟨hd ▸ D.le_nils sz, he ▸ D.le_refl _, trivial⟩
  · refine Fin.pub2 m ver sz 0 ys.length ys e hE hs ht hst hd he ?_ (Nat.zero_le _) (Nat.le_refl _) (by rwa [take_len])
    rw [List.getElem?_append_right (by simp)]; simp

/-! ### a state between -/
def Via (E : Env) (ts' : List D) (H' : List Ob) : Exit → List D → List Ob → Prop
  | .normal, ts, H => Ent E ts H ts' H'
  | _, _, _ => False
theorem Via_normal {E : Env} {ts' ts : List D} {H' H : List Ob} : Via E ts' H' .normal ts H = Ent E ts H ts' H' := rfl
theorem sat_via {E : Env} {x y : Code} {ts : List D} {H : List Ob} {Q : Exit → List D → List Ob → Prop} (ts' : List D) (H' : List Ob) (h1 : Sat E x ts H (Via E ts' H')) (h2 : Sat E y ts' H' Q) : Sat E (.seq x y) ts H Q :=
  sat_seq' (h1.mono fun e ts1 H1 h => by
    cases e with
    | normal => exact sat_ent h h2
    | _ => exact h.elim)
@[congr] theorem Ent_cg {E : Env} {a a' b b' : List D} {A A' B B' : List Ob} (h1 : a = a') (h2 : A = A') (h3 : b = b') (h4 : B = B') : Ent E a A b B = Ent E a' A' b' B' := by subst h1 h2 h3 h4; rfl
@[congr] theorem Via_cg {E : Env} {a b b' : List D} {A B B' : List Ob} {e : Exit} (h3 : b = b') (h4 : B = B') : Via E a A e b B = Via E a A e b' B' := by subst h3 h4; rfl

/-- Arguments may be told less of. -/
theorem ACalls.args {P : Program} {G : Nat → Option (List V)} {f : FuncId} {args args' : List D} {H : List Ob} {K : D → List Ob → Prop} (h : leL args args') (k : ACalls P G f args' H K) : ACalls P G f args H K :=
  ⟨k.1, fun E e1 e2 M μ w vs hr hv => k.2 E e1 e2 M μ w vs hr (h.rel hv)⟩

theorem sat_thru {E : Env} {x y : Code} {ts : List D} {H : List Ob} {Q : Exit → List D → List Ob → Prop} (ts' : List D) (H' : List Ob) (h1 : Sat E x ts H (Via E ts' H')) (h2 : Sat E y ts' H' Q) : Sat E x ts H (Th (fun ts H => Sat E y ts H Q) Q) :=
  h1.mono fun e ts1 H1 h => by
    cases e with
    | normal => exact sat_ent h h2
    | _ => exact h.elim
theorem sat_plain {E : Env} {ts : List D} {H : List Ob} {Q : Exit → List D → List Ob → Prop} {id : Nat} {l : List Oper} (hg : l.all (fun o => o.guard.isNone) = true) (h : aops E l.toArray l ts H fun ts' H' => Q .normal ts' H') : Sat E (.region id l.toArray false) ts H Q := sat_region h
theorem sat_calm {E : Env} {ts : List D} {H : List Ob} {Q : Exit → List D → List Ob → Prop} {id : Nat} {l : List Oper} (hg : l.all (fun o => o.guard.isNone) = true) (hm : E.P.follows .mixedOrders = true) (hB : Region.lexB .any l.toArray = true)
    (h : qops E l.toArray H l ts fun ts' => Q .normal ts' H) : Sat E (.region id l.toArray true) ts H Q := sat_quiet hm hB h

/-! ### numbers that are none below nothing -/
theorem lit_le (n m : Nat) : ((n : Int) ≤ @OfNat.ofNat Int m _) = (n ≤ @OfNat.ofNat Nat m _) := propext ⟨fun h => Int.ofNat_le.1 h, fun h => Int.ofNat_le.2 h⟩
theorem lit_lt (n m : Nat) : ((n : Int) < @OfNat.ofNat Int m _) = (n < @OfNat.ofNat Nat m _) := propext ⟨fun h => Int.ofNat_lt.1 h, fun h => Int.ofNat_lt.2 h⟩
theorem lit_ge (n m : Nat) : ((n : Int) ≥ @OfNat.ofNat Int m _) = (n ≥ @OfNat.ofNat Nat m _) := propext ⟨fun h => Int.ofNat_le.1 h, fun h => Int.ofNat_le.2 h⟩
theorem lit_gt (n m : Nat) : ((n : Int) > @OfNat.ofNat Int m _) = (n > @OfNat.ofNat Nat m _) := propext ⟨fun h => Int.ofNat_lt.1 h, fun h => Int.ofNat_lt.2 h⟩
theorem lit_beq (n m : Nat) : ((n : Int) == @OfNat.ofNat Int m _) = (n == @OfNat.ofNat Nat m _) := by
  rw [Bool.eq_iff_iff, beq_iff_eq, beq_iff_eq]; exact ⟨fun h => Int.ofNat.inj h, fun h => by rw [h]; rfl⟩
theorem nat_beq (n m : Nat) : ((n : Int) == (m : Int)) = (n == m) := by
  rw [Bool.eq_iff_iff, beq_iff_eq, beq_iff_eq]; exact ⟨fun h => Int.ofNat.inj h, fun h => by rw [h]⟩
theorem nat_ge (n m : Nat) : ((n : Int) ≥ (m : Int)) = (n ≥ m) := propext Int.ofNat_le
theorem nat_gt (n m : Nat) : ((n : Int) > (m : Int)) = (n > m) := propext Int.ofNat_lt

/-! ### one operation after another -/
theorem fr_same {n : Nat} {l : List (Nat × D)} {s : Nat} {d : D} (h : look l s = d) : fr n ((s, d) :: l) = fr n l := by
  unfold fr
  apply List.map_congr_left
  intro i _
  rw [look_cons]
  split
  · rename_i e; rw [e, h]
  · rfl
section
variable {E : Env} {all : Array Oper} {os : List Oper} {ts : List D} {H : List Ob} {Q : List D → List Ob → Prop} {Qq : List D → Prop}
theorem st_nil (h : Q ts H) : aops E all [] ts H Q := h
theorem sq_nil (h : Qq ts) : qops E all H [] ts Qq := h
variable {n : Nat} {l : List (Nat × D)} {o : Oper} {g : Nat} {want : Bool} {s : Tmp}
theorem st_op (hg : o.guard = none) (h : ∀ K : D → List Ob → Prop, (∀ d H', aops E all os (putD ts o.dst d) H' Q → K d H') → aop E o ts H K) : aops E all (o :: os) ts H Q := by
  simp only [aops, hg]; exact h _ fun _ _ h => h
theorem sq_op (hg : o.guard = none) (h : ∀ K : D → Prop, (∀ d, qops E all H os (putD ts o.dst d) Qq → K d) → Ex (fun d => aop E o ts H fun d' H' => d' = d ∧ H' = H) K) : qops E all H (o :: os) ts Qq := by
  simp only [qops, hg]; exact h _ fun _ h => h
theorem st_split {b : Bool} (hg : o.guard = some (g, want)) (hs : (all[g]?).bind (·.dst) = some s) (hn : s < n) (hl : look l s = .v (.bool b))
    (h1 : b = want → ∀ K : D → List Ob → Prop, (∀ d H', aops E all os (putD (fr n ((s, .v (.bool want)) :: l)) o.dst d) H' Q → K d H') → aop E o (fr n ((s, .v (.bool want)) :: l)) H K)
    (h2 : b = !want → aops E all os (putD (fr n ((s, .v (.bool !want)) :: l)) o.dst (.tup [])) H Q) : aops E all (o :: os) (fr n l) H Q := by
  simp only [aops, hg, hs, fr_get hn, hl, fr_set]
  exact ⟨fun e => h1 e _ fun _ _ h => h, h2⟩
theorem st_go (hg : o.guard = some (g, want)) (hs : (all[g]?).bind (·.dst) = some s) (hn : s < n) (hl : look l s = .v (.bool want))
    (h1 : ∀ K : D → List Ob → Prop, (∀ d H', aops E all os (putD (fr n l) o.dst d) H' Q → K d H') → aop E o (fr n l) H K) : aops E all (o :: os) (fr n l) H Q :=
  st_split hg hs hn hl (fun _ => by rw [fr_same hl]; exact h1) (fun h => by cases want <;> cases h)
theorem st_not (hg : o.guard = some (g, want)) (hs : (all[g]?).bind (·.dst) = some s) (hn : s < n) (hl : look l s = .v (.bool !want))
    (h1 : aops E all os (putD (fr n l) o.dst (.tup [])) H Q) : aops E all (o :: os) (fr n l) H Q :=
  st_split hg hs hn hl (fun h => by cases want <;> cases h) (fun _ => by rw [fr_same hl]; exact h1)
theorem st_out (hg : o.guard = some (g, want)) (hs : (all[g]?).bind (·.dst) = some s) (hn : s < n) (hl : look l s = .tup [])
    (h1 : aops E all os (putD (fr n l) o.dst (.tup [])) H Q) : aops E all (o :: os) (fr n l) H Q := by
  simp only [aops, hg, hs, fr_get hn, hl]
  exact h1
theorem sq_split {b : Bool} (hg : o.guard = some (g, want)) (hs : (all[g]?).bind (·.dst) = some s) (hn : s < n) (hl : look l s = .v (.bool b))
    (h1 : b = want → ∀ K : D → Prop, (∀ d, qops E all H os (putD (fr n ((s, .v (.bool want)) :: l)) o.dst d) Qq → K d) → Ex (fun d => aop E o (fr n ((s, .v (.bool want)) :: l)) H fun d' H' => d' = d ∧ H' = H) K)
    (h2 : b = !want → qops E all H os (putD (fr n ((s, .v (.bool !want)) :: l)) o.dst (.tup [])) Qq) : qops E all H (o :: os) (fr n l) Qq := by
  simp only [qops, hg, hs, fr_get hn, hl, fr_set]
  exact ⟨fun e => h1 e _ fun _ h => h, h2⟩
theorem sq_go (hg : o.guard = some (g, want)) (hs : (all[g]?).bind (·.dst) = some s) (hn : s < n) (hl : look l s = .v (.bool want))
    (h1 : ∀ K : D → Prop, (∀ d, qops E all H os (putD (fr n l) o.dst d) Qq → K d) → Ex (fun d => aop E o (fr n l) H fun d' H' => d' = d ∧ H' = H) K) : qops E all H (o :: os) (fr n l) Qq :=
  sq_split hg hs hn hl (fun _ => by rw [fr_same hl]; exact h1) (fun h => by cases want <;> cases h)
theorem sq_not (hg : o.guard = some (g, want)) (hs : (all[g]?).bind (·.dst) = some s) (hn : s < n) (hl : look l s = .v (.bool !want))
    (h1 : qops E all H os (putD (fr n l) o.dst (.tup [])) Qq) : qops E all H (o :: os) (fr n l) Qq :=
  sq_split hg hs hn hl (fun h => by cases want <;> cases h) (fun _ => by rw [fr_same hl]; exact h1)
theorem sq_out (hg : o.guard = some (g, want)) (hs : (all[g]?).bind (·.dst) = some s) (hn : s < n) (hl : look l s = .tup [])
    (h1 : qops E all H os (putD (fr n l) o.dst (.tup [])) Qq) : qops E all H (o :: os) (fr n l) Qq := by
  simp only [qops, hg, hs, fr_get hn, hl]
  exact h1
end
end Go.Ag
