import Derived.Test.YtgnojlbihhnphaaGreatDoorAgSe
import Derived.Lib.Overlaps
import Derived.Sort.OwnSorted
import Derived.Lib.SlicesCompact
set_option linter.all false
/- AGo, part 28: regions that draw their order, change the heap, and look into boxes. -/
namespace Go.Ag
open Go Go.RowKit

/-- A heap, with that box in it. -/
def putB (H : List Ob) (b : Nat) (cs : List D) : List Ob := (H ++ List.replicate (b + 1 - H.length) Ob.dead).set b (.box cs)
theorem putB_get (H : List Ob) (b : Nat) (cs : List D) : (putB H b cs)[b]? = some (.box cs) := by
  unfold putB
  rw [List.getElem?_set_self]
  simp; omega
theorem putB_ne (H : List Ob) {b c : Nat} (cs : List D) (h : b ≠ c) (hl : c < H.length) : (putB H b cs)[c]? = H[c]? := by
  unfold putB
  rw [List.getElem?_set_ne h, List.getElem?_append_left hl]
theorem putB_id {H : List Ob} {b : Nat} {cs : List D} (h : H[b]? = some (.box cs)) : putB H b cs = H := by
  have hl := (List.getElem?_eq_some_iff.1 h).1
  unfold putB
  rw [show b + 1 - H.length = 0 from by omega]
  simp only [List.replicate_zero, List.append_nil]
  apply List.ext_getElem?
  intro i
  by_cases e : i = b
  · subst e; rw [List.getElem?_set_self hl, h]
  · rw [List.getElem?_set_ne (fun x => e x.symm)]
/-- Two boxes. -/
def put2 (H : List Ob) (b : Nat) (cs : List D) (c : Nat) (ds : List D) : List Ob := putB (putB H b cs) c ds
theorem putB_len (H : List Ob) (b : Nat) (cs : List D) : b < (putB H b cs).length := by
  unfold putB; simp; omega
theorem put2_get1 (H : List Ob) {b c : Nat} (cs ds : List D) (h : c ≠ b) : (put2 H b cs c ds)[b]? = some (.box cs) := by
  unfold put2
  rw [putB_ne _ _ h (putB_len _ _ _), putB_get]
theorem put2_get2 (H : List Ob) (b c : Nat) (cs ds : List D) : (put2 H b cs c ds)[c]? = some (.box ds) := putB_get _ _ _
def boxS (b : Nat) (cs : List D) (H : List Ob) : Prop := H[b]? = some (.box cs)

section
variable {E : Env} {all : Array Oper} {os : List Oper} {ts : List D} {H : List Ob} {Q : List D → List Ob → Prop} {b : Nat} {cs : List D} {o : Oper}
theorem vb (b : Nat) (cs : List D) {Q : Exit → List D → List Ob → Prop} {id : Nat} {l : List Oper} (hm : E.P.follows .mixedOrders = true) (hS : H[b]? = some (.box cs))
    (h : hops E (boxS b cs) .any l.toArray l ts H fun ts' H' => Q .normal ts' H') (hB : mixB l = true := by kernel_rfl) : Sat E (.region id l.toArray true) ts H Q := sat_mixS _ hm hB hS h
theorem vk (h : Q ts H) : hops E (boxS b cs) .any all [] ts H Q := h
theorem vg (hv : heavyB o = false) (hg : o.guard = none)
    (h : ∀ K : D → Prop, (∀ d, hops E (boxS b cs) .any all os (putD ts o.dst d) H Q → K d) → Ex (fun d => ∀ H, aop E o ts (putB H b cs) fun d' H' => d' = d ∧ H' = putB H b cs) K) : hops E (boxS b cs) .any all (o :: os) ts H Q := by
  simp only [hops, hv, hg, Bool.false_eq_true, if_false]
  obtain ⟨d, h1, h2⟩ := h _ fun _ h => h
  refine ⟨d, fun H hS => ?_, h2⟩
  have := h1 H
  rwa [putB_id hS] at this
theorem vf (hv : heavyB o = true) (hg : o.guard = none) (h : ∀ K : D → List Ob → Prop, (∀ d H', H'[b]? = some (.box cs) → hops E (boxS b cs) .any all os (putD ts o.dst d) H' Q → K d H') → aop E o ts H K) : hops E (boxS b cs) .any all (o :: os) ts H Q := by
  simp only [hops, hv, hg, if_true]
  exact ⟨trivial, h _ fun _ _ h1 h2 => ⟨.inr h1, h2⟩⟩
theorem vl (hv : heavyB o = true) (hg : o.guard = none) (h : ∀ K : D → List Ob → Prop, (∀ d H', hops E (boxS b cs) .any all [] (putD ts o.dst d) H' Q → K d H') → aop E o ts H K) (hc : clo .any all o = true := by kernel_rfl) : hops E (boxS b cs) .any all [o] ts H Q := by
  simp only [hops, hv, hg, if_true]
  exact ⟨trivial, h _ fun _ _ h => ⟨.inl hc, h⟩⟩
theorem vx {ts : List D} {o : Oper} {K : D → Prop} {cs : List D} {b : Nat} (h : Ex (fun d => ∀ H, aop E o ts (putB H b cs) fun d' H' => d' = d ∧ H' = putB H b cs) K) : Ex (fun d => ∀ H, aop E o ts (putB H b cs) fun d' H' => d' = d ∧ H' = putB H b cs) K := h
end
section
variable {E : Env} {all : Array Oper} {os : List Oper} {ts : List D} {H : List Ob} {Q : List D → List Ob → Prop} {S : List Ob → Prop} {o : Oper}
/-! over any kind of heaps -/
theorem ub (S : List Ob → Prop) {Q : Exit → List D → List Ob → Prop} {id : Nat} {l : List Oper} (hm : E.P.follows .mixedOrders = true) (hS : S H)
    (h : hops E S .any l.toArray l ts H fun ts' H' => Q .normal ts' H') (hB : mixB l = true := by kernel_rfl) : Sat E (.region id l.toArray true) ts H Q := sat_mixS _ hm hB hS h
theorem uk (h : Q ts H) : hops E S .any all [] ts H Q := h
theorem ug (hv : heavyB o = false) (hg : o.guard = none)
    (h : ∀ K : D → Prop, (∀ d, hops E S .any all os (putD ts o.dst d) H Q → K d) → Ex (fun d => ∀ H, S H → aop E o ts H fun d' H' => d' = d ∧ H' = H) K) : hops E S .any all (o :: os) ts H Q := by
  simp only [hops, hv, hg, Bool.false_eq_true, if_false]
  obtain ⟨d, h1, h2⟩ := h _ fun _ h => h
  exact ⟨d, h1, h2⟩
theorem uf (hv : heavyB o = true) (hg : o.guard = none) (h : ∀ K : D → List Ob → Prop, (∀ d H', S H' → hops E S .any all os (putD ts o.dst d) H' Q → K d H') → aop E o ts H K) : hops E S .any all (o :: os) ts H Q := by
  simp only [hops, hv, hg, if_true]
  exact ⟨trivial, h _ fun _ _ h1 h2 => ⟨.inr h1, h2⟩⟩
theorem ul (hv : heavyB o = true) (hg : o.guard = none) (h : ∀ K : D → List Ob → Prop, (∀ d H', hops E S .any all [] (putD ts o.dst d) H' Q → K d H') → aop E o ts H K) (hc : clo .any all o = true := by kernel_rfl) : hops E S .any all [o] ts H Q := by
  simp only [hops, hv, hg, if_true]
  exact ⟨trivial, h _ fun _ _ h => ⟨.inl hc, h⟩⟩
end
end Go.Ag
namespace Go.Ag
open Go Go.Proofs
variable {G : Nat → Option (List V)}
attribute [local irreducible] aops qops Sat aop

theorem ckS : ckOf Tryz.prog 20 37 = some [.s, .s] := by kernel_rfl
theorem egS : Tryz.prog.eqGuardType Tryz.prog.depth 37 = false := by kernel_rfl
theorem ftS (a b : Str) : fits [.s, .s] [.str a, .str b] = true := rfl
theorem evS (a b c d : Str) : eqVs [.str a, .str b] [.str c, .str d] = (a == c && b == d) := by simp [eqVs, eqV]
def okS (x : Alt) (s : Slv) : Bool := match x.slaves.findIdx? (fun t => t.name == s.name) with
  | none => true
  | some i => (x.slaves[i]?.map fun t => (t.name == s.name && t.link == s.link)).getD false
def okJ (x y : Alt) : Bool := (x.link == y.link) && y.slaves.all (okS x)
def newS (x : Alt) (s : Slv) : Bool := (x.slaves.findIdx? (fun t => t.name == s.name)).isNone
def allJ (x y : Alt) : List Slv := x.slaves ++ y.slaves.filter (newS x)
def outJ (x : Alt) (c : Cho) (all : List Slv) : List Cho := c :: (x.choices.filter (fun o => o.path != c.path)).map (fun o => sprA o x.slaves all)
def joinS (x y : Alt) : List Slv := stab (fun a b : Slv => Lib.compareBytes a.name b.name) (allJ x y)
def joinF (x y : Alt) (c0 : Cho) : Alt := { x with slaves := joinS x y, choices := stab (fun a b : Cho => Lib.compareBytes a.path b.path) (outJ x (sprA c0 y.slaves (joinS x y)) (joinS x y)) }
def altZ : Alt := ⟨[], [], false, [], [], []⟩
def Good (E : Env) (H : List Ob) : Prop := ∀ (i : Nat) (o : Ob), H[i]? = some o → E.H0[i]? = some o ∨ o.lt H.length
theorem Good.set {E : Env} {H : List Ob} {b : Nat} {o : Ob} (h : Good E H) (ho : o.lt H.length) : Good E (H.set b o) := fun i o' hi => by
  rw [List.length_set]
  by_cases e : b = i
  · subst e
    have hl := (List.getElem?_eq_some_iff.1 hi).1
    rw [List.length_set] at hl
    rw [List.getElem?_set_self hl] at hi; cases hi
    exact .inr ho
  · rw [List.getElem?_set_ne e] at hi
    exact h i o' hi
theorem good_app {E : Env} {L : List Ob} (h : ltObs (E.H0.length + L.length) L) : Good E (E.H0 ++ L) := fun i o hi => by
  rw [List.length_append]
  by_cases hl : i < E.H0.length
  · rw [List.getElem?_append_left hl] at hi; exact .inl hi
  · rw [List.getElem?_append_right (by omega)] at hi
    exact .inr (ltObs_get h _ _ hi)
/-- Garbage goes, behind a heap of which one knows no more than that nobody in it leads there. -/
theorem Ent.gcOp {E : Env} {n : Nat} {l l' : List (Nat × D)} {H L : List Ob} (hE : E.Closed) (hlen : E.H0.length ≤ H.length) (hg : Good E H) (h1 : leAll l l') (h2 : ltAll H.length l') : Ent E (fr n l) (H ++ L) (fr n l') H := by
  refine (Ent.weakFr h1).trans ?_
  have h := Ent.gc (E := E) (ts := fr n l') (H := H ++ L) H.length hE hlen (ltL_fr h2) (fun i o hi ho => by
    rw [List.getElem?_append_left hi] at ho
    exact hg i o ho)
  rwa [List.take_left] at h
theorem Ent.gcTo {E : Env} {n m : Nat} {l l' : List (Nat × D)} {H : List Ob} (hE : E.Closed) (hm : E.H0.length ≤ m) (hg : ∀ (i : Nat) (o : Ob), i < m → H[i]? = some o → E.H0[i]? = some o ∨ o.lt m) (h1 : leAll l l') (h2 : ltAll m l') : Ent E (fr n l) H (fr n l') (H.take m) :=
  (Ent.weakFr h1).trans (Ent.gc (E := E) (ts := fr n l') (H := H) m hE hm (ltL_fr h2) hg)
theorem lt_arrS (n ver : Nat) (l : List Slv) : Ob.lt n (.arr ver 2 (l.map fun s => [.v (.str s.name), .v (.str s.link)]) 0) := by
  simp only [Ob.lt]
  intro x hx
  obtain ⟨s, _, rfl⟩ := List.mem_map.1 hx
  simp only [D.ltL, D.lt, and_self]
theorem Fin.cellD {E : Env} {n : Nat} {l : List (Nat × D)} {L : List Ob} {x : Tmp} {t : TypeId} {s : Tmp} {K : D → List Ob → Prop} (k : Nat) (ds : List D) (cs : List V) (e : V) (hE : E.Closed) (hx : x < n) (hs : s < n) (hdx : look l x = .ptr (E.H0.length + k) 0) (hds : look l s = .v e)
    (hL : L[k]? = some (.box ds)) (ht : (tk E.P t).row = some ds.length) (hle : leL ds (cs.map .v)) (h : K (.tup [.agg (cs.map .v), .v e]) E.H0) : Fin E (fr n l) (E.H0 ++ L) [x, s] (KC E t K) := by
  refine Fin.here ⟨E.H0.length + k, .v e, ?_, ?_⟩
  · simp only [retD, List.map, getD_fr hx, getD_fr hs, hdx, hds]
  · unfold aLoad
    rw [ht]
    simp only [hp_get, hL]
    refine ⟨by simp, _, _, _, ?_, h⟩
    have e1 : (ds.drop 0).take ds.length = ds := by rw [List.drop_zero]; exact List.take_length
    rw [e1]
    have := Ent.gc (E := E) (ts := [D.agg (cs.map .v), .v e]) (H := E.H0 ++ L) E.H0.length hE (Nat.le_refl _) (by simp only [D.ltL, D.lt, and_true]; exact ltL_v _ _) (fun i o hi ho => by
      rw [List.getElem?_append_left hi] at ho; exact .inl ho)
    rw [List.take_left] at this
    exact (Ent.weak (ts := [D.agg ds, .v e]) (ts' := [D.agg (cs.map .v), .v e]) ⟨D.le_agg hle, D.le_refl _, trivial⟩).trans this
set_option maxRecDepth 20000 in
set_option maxHeartbeats 32000000 in
theorem spec_joined (x y : Alt) (c0 : Cho) (cr : List Cho) (hy : y.choices = c0 :: cr) (hxs : x.slaves.length ≤ 400000) (hys : y.slaves.length ≤ 400000) (hxc : x.choices.length ≤ 400000) (hc0 : c0.slaves.length ≤ 1099511627) (hcs : ∀ o ∈ x.choices, o.slaves.length ≤ 1099511627) (H : List Ob) (K : D → List Ob → Prop)
    (hF : okJ x y = false → K (.tup [altd altZ, .v (.bool false)]) H)
    (hT : okJ x y = true → K (.tup [altd (joinF x y c0), .v (.bool true)]) H) :
    ACalls Tryz.prog G 64 [altd x, altd y] H K := by
  refine ACalls.goC Tryz.f64 _ 91 4 26 5 Tryz.func64 rfl Tryz.ntmps64 (by kernel_rfl) rfl (by simp) (fun E hE hP hG hH => ?_)
  have hM : E.P.follows .mixedOrders = true := hP ▸ mixed
  subst hH
  have hrow : (tk E.P 26).row = some 6 := by rw [hP, tk_26]; rfl
  have e0 : altd x = .agg ((altV x).map .v) := rfl
  have e1 : altd y = .agg ((altV y).map .v) := rfl
  have hno : okJ x y = false → ∀ (l : List (Nat × D)) (L : List Ob), look l 4 = .ptr (E.H0.length + 2) 0 → look l 5 = .v (.bool false) → L[2]? = some (.box [.v (.str []), .v (.str []), .v (.bool false), .v (.str []), .nils, .nils]) → Fin E (fr 91 l) (E.H0 ++ L) [4, 5] (KC E 26 K) := fun h l L h1 h2 h3 =>
    Fin.cellD 2 _ (altV altZ) (.bool false) hE (by decide) (by decide) h1 h2 h3 hrow ⟨D.le_refl _, D.le_refl _, D.le_refl _, D.le_refl _, D.le_nils 2, D.le_nils 3, trivial⟩ (hF h)
  simp only [args0, e0, e1]
  (refine W0 (c10 @altV.eq_def t9 t3 t4 t37 t23 t46 t44 t26 t24) ?_; try with_reducible intro K hK)
  refine sat_cond rfl (fun hd => ?_) (fun hd => ?_)
  · (refine W0 (c9 t9 t3 t4 t37 t23 t46 t44 t26 t24) ?_; try with_reducible intro K hK)
    refine hno ?_ _ _ rfl rfl rfl
    rw [okJ]; simp at hd ⊢; intro h; exact absurd h hd
  have hlk : (x.link == y.link) = true := by simpa using hd
  (refine W0 (c10 @altV.eq_def t9 t3 t4 t37 t23 t46 t44 t26 t24) ?_; try with_reducible intro K hK)
  refine spec_CloneSlv slvV (fun _ => rfl) x.slaves (by omega) _ _ (fun d L hd2 => hK _ _ ?_)
  clear hK K; simp only [lp]
  rw [List.append_assoc]
  simp only [List.cons_append, List.nil_append]
  (refine W0 (c9 t9 t3 t4 t37 t23 t46 t44 t26 t24) ?_; try with_reducible intro K hK)
  refine sat_blF (ι := Unit) (fun _ => okJ x y = true) (fun _ => fr 91 [(6, .v (slvs (allJ x y))), (4, .ptr (E.H0.length + 2) 0), (3, .ptr (E.H0.length + 1) 0), (2, .ptr E.H0.length 0)]) (fun _ => E.H0 ++ [(.box [.v (.str x.name), .v (.str x.link), .v (.bool x.manual), .v (.str x.cur), .v (slvs x.slaves), .v (chos x.choices)]), (.box [.v (.str y.name), .v (.str y.link), .v (.bool y.manual), .v (.str y.cur), .v (slvs y.slaves), .v (chos y.choices)]), (.box [.v (.str []), .v (.str []), .v (.bool false), .v (.str []), .nils, .nils])]) ?_ ?_
  · have htk : ∀ L, (E.H0 ++ Ob.box [.v (.str x.name), .v (.str x.link), .v (.bool x.manual), .v (.str x.cur), .v (slvs x.slaves), .v (chos x.choices)] :: Ob.box [.v (.str y.name), .v (.str y.link), .v (.bool y.manual), .v (.str y.cur), .v (slvs y.slaves), .v (chos y.choices)] :: Ob.box [.v (.str []), .v (.str []), .v (.bool false), .v (.str []), .nils, .nils] :: L).take (E.H0.length + 3) = E.H0 ++ [(.box [.v (.str x.name), .v (.str x.link), .v (.bool x.manual), .v (.str x.cur), .v (slvs x.slaves), .v (chos x.choices)]), (.box [.v (.str y.name), .v (.str y.link), .v (.bool y.manual), .v (.str y.cur), .v (slvs y.slaves), .v (chos y.choices)]), (.box [.v (.str []), .v (.str []), .v (.bool false), .v (.str []), .nils, .nils])] := fun L => by
      rw [List.take_length_add_append]; rfl
    refine sat_loop_ent (fun n t H => ∃ (i : Nat) (all : List Slv), n = y.slaves.length - i ∧ i ≤ y.slaves.length ∧ all = x.slaves ++ (y.slaves.take i).filter (newS x) ∧ (∀ s ∈ y.slaves.take i, okS x s = true) ∧
      (all = [] ∧ t = fr 91 [(26, .v (.int .i64 i)), (6, .nils), (25, .v (.int .i64 y.slaves.length)), (24, .v (slvs y.slaves)), (4, .ptr (E.H0.length + 2) 0), (3, .ptr (E.H0.length + 1) 0), (2, .ptr E.H0.length 0)] ∧ H = E.H0 ++ [(.box [.v (.str x.name), .v (.str x.link), .v (.bool x.manual), .v (.str x.cur), .v (slvs x.slaves), .v (chos x.choices)]), (.box [.v (.str y.name), .v (.str y.link), .v (.bool y.manual), .v (.str y.cur), .v (slvs y.slaves), .v (chos y.choices)]), (.box [.v (.str []), .v (.str []), .v (.bool false), .v (.str []), .nils, .nils])] ∨ ∃ b ver, E.H0.length + 3 ≤ b ∧ 1 ≤ ver ∧ t = fr 91 [(26, .v (.int .i64 i)), (6, .own b ver all.length), (25, .v (.int .i64 y.slaves.length)), (24, .v (slvs y.slaves)), (4, .ptr (E.H0.length + 2) 0), (3, .ptr (E.H0.length + 1) 0), (2, .ptr E.H0.length 0)] ∧ H.take (E.H0.length + 3) = E.H0 ++ [(.box [.v (.str x.name), .v (.str x.link), .v (.bool x.manual), .v (.str x.cur), .v (slvs x.slaves), .v (chos x.choices)]), (.box [.v (.str y.name), .v (.str y.link), .v (.bool y.manual), .v (.str y.cur), .v (slvs y.slaves), .v (chos y.choices)]), (.box [.v (.str []), .v (.str []), .v (.bool false), .v (.str []), .nils, .nils])] ∧ Good E H ∧ H[b]? = some (.arr ver 2 (all.map fun s => [.v (.str s.name), .v (.str s.link)]) 0))) (y.slaves.length) (.weakFr ?_) (ts0 := fr 91 [(26, .v (.int .i64 (0 : Nat))), (6, d), (25, .v (.int .i64 y.slaves.length)), (24, .v (slvs y.slaves)), (4, .ptr (E.H0.length + 2) 0), (3, .ptr (E.H0.length + 1) 0), (2, .ptr E.H0.length 0)]) (H0 := E.H0 ++ (.box [.v (.str x.name), .v (.str x.link), .v (.bool x.manual), .v (.str x.cur), .v (slvs x.slaves), .v (chos x.choices)]) :: (.box [.v (.str y.name), .v (.str y.link), .v (.bool y.manual), .v (.str y.cur), .v (slvs y.slaves), .v (chos y.choices)]) :: (.box [.v (.str []), .v (.str []), .v (.bool false), .v (.str []), .nils, .nils]) :: L) ⟨0, x.slaves, rfl, Nat.zero_le _, by simp, by simp, ?_⟩ ?_
    · simp only [List.length_map]; simp only [le, ↓reduceIte, Nat.reduceEqDiff, and_true]; repeat' (first | exact trivial | exact D.le_refl _ | exact D.le_any _ | with_reducible refine And.intro ?_ ?_)
    · rcases hd2 with ⟨h1, rfl, rfl⟩ | ⟨ver, hv, rfl, rfl⟩
      · exact .inl ⟨h1, rfl, rfl⟩
      · refine .inr ⟨E.H0.length + 3, ver, Nat.le_refl _, hv, by rw [hp_len]; rfl, htk _, good_app ?_, by rw [hp_get]; simp [slvV]⟩
        simp [ltAll, ltObs, Ob.lt, D.lt, D.ltL, or_imp, forall_and]
        exact fun a _ => ltL_v _ _
    rintro n t H ⟨i, all, rfl, hi, hall, hok, hH⟩
    have hdone : i = y.slaves.length → okJ x y = true ∧ all = allJ x y := fun e => by
      rw [e, List.take_length] at hall hok
      exact ⟨by rw [okJ, hlk]; simpa using hok, hall⟩
    rcases hH with ⟨ha0, rfl, rfl⟩ | ⟨b, ver, hb3, hv, rfl, hpre, hgood, hb⟩
    · (refine W0 (c9 t9 t3 t4 t37 t23 t46 t44 t26 t24) ?_; try with_reducible intro K hK)
      refine sat_cond rfl (fun hc => ?_) (fun hc => ?_)
      · simp at hc
        obtain ⟨s, hs⟩ : ∃ s, y.slaves[i]? = some s := ⟨_, List.getElem?_eq_getElem hc⟩
        have hw := wrap_succ (i := i) (by omega)
        have hx0 : x.slaves = [] := (List.append_eq_nil_iff.1 (hall.symm.trans ha0)).1
        have hf0 : (y.slaves.take i).filter (newS x) = [] := (List.append_eq_nil_iff.1 (hall.symm.trans ha0)).2
        have hns : newS x s = true := by simp [newS, hx0]
        have hsl : slotA x.slaves s.name = -1 := by rw [hx0]; rfl
        (refine W0 (c12 @slvs.eq_def t9 t3 t4 t37 t23 t46 t44 t26 t24 @hs @hc) ?_; try with_reducible intro K hK)
        refine spec_slot x.slaves s.name (by omega) _ _ (hK _ _ ?_)
        clear hK K; simp only [lp]
        rw [hsl]
        (refine W0 (c9 t9 t3 t4 t37 t23 t46 t44 t26 t24) ?_; try with_reducible intro K hK)
        refine sat_cond rfl (fun hd => ?_) (fun hd => ?_)
        · (refine W0 (c10 t9 t3 t4 t37 t23 t46 t44 t26 t24 @hw) ?_; try with_reducible intro K hK)
          refine ⟨y.slaves.length - (i + 1), _, _, by omega, .weakFr ?_, i + 1, [s], rfl, by omega, ?_, ?_, .inr ⟨E.H0.length + 5, 1, by omega, Nat.le_refl _, rfl, htk _, good_app ?_, by rw [hp_get]; rfl⟩⟩
          · simp only [le, ↓reduceIte, Nat.reduceEqDiff, and_true]; repeat' (first | exact trivial | exact D.le_refl _ | exact D.le_any _ | with_reducible refine And.intro ?_ ?_)
          · rw [hx0, take_snoc hs, List.filter_append, hf0]; simp [hns]
          · exact all_snoc hok hs (by simp [okS, hx0])
          · simp [ltAll, ltObs, Ob.lt, D.lt, D.ltL, or_imp, forall_and]
        · exact absurd hd (by decide)
      · simp at hc
        obtain ⟨h1, h2⟩ := hdone (by omega)
        (refine W0 (c9 t9 t3 t4 t37 t23 t46 t44 t26 t24) ?_; try with_reducible intro K hK)
        refine ⟨(), h1, .weakFr ?_⟩
        rw [← h2, ha0]
        simp only [le, ↓reduceIte, Nat.reduceEqDiff, and_true]; repeat' (first | exact trivial | exact D.le_refl _ | exact D.le_any _ | with_reducible refine And.intro ?_ ?_)
        exact D.le_nils 2
    · obtain ⟨R, hR⟩ : ∃ R, H = E.H0 ++ Ob.box [.v (.str x.name), .v (.str x.link), .v (.bool x.manual), .v (.str x.cur), .v (slvs x.slaves), .v (chos x.choices)] :: Ob.box [.v (.str y.name), .v (.str y.link), .v (.bool y.manual), .v (.str y.cur), .v (slvs y.slaves), .v (chos y.choices)] :: Ob.box [.v (.str []), .v (.str []), .v (.bool false), .v (.str []), .nils, .nils] :: R := ⟨H.drop (E.H0.length + 3), by
        conv => lhs; rw [← List.take_append_drop (E.H0.length + 3) H, hpre]
        simp⟩
      have hbl := (List.getElem?_eq_some_iff.1 hb).1
      have hal : all.length ≤ 800000 := by
        have := List.length_filter_le (newS x) (y.slaves.take i)
        rw [hall, List.length_append]
        rw [List.length_take] at this
        omega
      have hbl32 : (all.length + 1) * 32 ≤ 140737488355328 := by omega
      have hbm : all.length + 1 ≤ 9223372036854775807 := by omega
      have hAx : ∀ L, (H ++ L)[E.H0.length]? = some (.box [.v (.str x.name), .v (.str x.link), .v (.bool x.manual), .v (.str x.cur), .v (slvs x.slaves), .v (chos x.choices)]) := fun L => hp_old (by rw [hR, hp_get0]; rfl)
      have hAz : ∀ L, (H ++ L)[E.H0.length + 2]? = some (.box [.v (.str []), .v (.str []), .v (.bool false), .v (.str []), .nils, .nils]) := fun L => hp_old (by rw [hR, hp_get]; rfl)
      have hbA : ∀ L, (H ++ L)[b]? = some (.arr ver 2 (all.map fun s => [.v (.str s.name), .v (.str s.link)]) 0) := fun L => hp_old hb
      have hbS : ∀ L o, (H ++ L).set b o = H.set b o ++ L := fun L o => List.set_append_left _ _ hbl
      (refine W0 (c9 t9 t3 t4 t37 t23 t46 t44 t26 t24) ?_; try with_reducible intro K hK)
      refine sat_cond rfl (fun hc => ?_) (fun hc => ?_)
      · simp at hc
        obtain ⟨s, hs⟩ : ∃ s, y.slaves[i]? = some s := ⟨_, List.getElem?_eq_getElem hc⟩
        have hw := wrap_succ (i := i) (by omega)
        (refine W0 (c13 @slvs.eq_def t9 t3 t4 t37 t23 t46 t44 t26 t24 @hs @hc @hAx) ?_; try with_reducible intro K hK)
        refine spec_slot x.slaves s.name (by omega) _ _ (hK _ _ ?_)
        clear hK K; simp only [lp]
        cases hf : x.slaves.findIdx? (fun t => t.name == s.name) with
        | none =>
          have hsl : slotA x.slaves s.name = -1 := by simp [slotA, hf]
          have hns : newS x s = true := by simp [newS, hf]
          rw [hsl]
          (refine W0 (c9 t9 t3 t4 t37 t23 t46 t44 t26 t24) ?_; try with_reducible intro K hK)
          refine sat_cond rfl (fun hd => ?_) (fun hd => ?_)
          · (refine W0 (c14 t9 t3 t4 t37 t23 t46 t44 t26 t24 @hbA @hbS @hbl32 @hbm @hw) ?_; try with_reducible intro K hK)
            refine ⟨y.slaves.length - (i + 1), _, H.set b (.arr (ver + 1) 2 ((all ++ [s]).map fun s => [.v (.str s.name), .v (.str s.link)]) 0), by omega, ?_, i + 1, all ++ [s], rfl, by omega, ?_, ?_, .inr ⟨b, ver + 1, hb3, by omega, rfl, by rw [List.take_set_of_le (by omega)]; exact hpre, hgood.set (lt_arrS _ _ _), List.getElem?_set_self hbl⟩⟩
            · simp only [List.length_append, List.length_cons, List.length_nil, List.map_append, List.map_cons, List.map_nil]
              refine Ent.gcOp hE (by simp; omega) (by simpa using hgood.set (lt_arrS _ (ver + 1) (all ++ [s]))) ?_ ?_
              · simp only [le, ↓reduceIte, Nat.reduceEqDiff, and_true]; repeat' (first | exact trivial | exact D.le_refl _ | exact D.le_any _ | with_reducible refine And.intro ?_ ?_)
              · simp [ltAll, ltObs, Ob.lt, D.lt, D.ltL, or_imp, forall_and]
                omega
            · rw [hall, take_snoc hs, List.filter_append]; simp [hns]
            · exact all_snoc hok hs (by simp [okS, hf])
          · exact absurd hd (by decide)
        | some k =>
          have hsl : slotA x.slaves s.name = (k : Int) := by simp [slotA, hf]
          have hns : newS x s = false := by simp [newS, hf]
          have hkl := idx_lt hf
          obtain ⟨t, ht⟩ : ∃ t, x.slaves[k]? = some t := ⟨_, List.getElem?_eq_getElem hkl⟩
          have hoks : okS x s = (t.name == s.name && t.link == s.link) := by simp [okS, hf, ht]
          rw [hsl]
          (refine W0 (c9 t9 t3 t4 t37 t23 t46 t44 t26 t24) ?_; try with_reducible intro K hK)
          refine sat_cond rfl (fun hd => ?_) (fun hd => ?_)
          · have := of_decide_eq_true hd; omega
          · (refine W0 (c19 @slvs.eq_def t9 t3 t4 t37 t23 t46 t44 t26 t24 @hAx @hkl @ht @aEq.eq_def @ckS @egS @ftS @evS @Option.isSome_some.{0}) ?_; try with_reducible intro K hK)
            refine sat_cond rfl (fun hq => ?_) (fun hq => ?_)
            · (refine W0 (c10 t9 t3 t4 t37 t23 t46 t44 t26 t24 @hAz) ?_; try with_reducible intro K hK)
              rw [hR, List.append_assoc, hp_set]
              refine hno ?_ _ _ rfl rfl rfl
              rw [Bool.eq_false_iff]
              intro h
              rw [okJ, Bool.and_eq_true, List.all_eq_true] at h
              have := h.2 s (List.mem_of_getElem? hs)
              rw [hoks] at this
              rw [this] at hq
              cases hq
            · (refine W0 (c10 t9 t3 t4 t37 t23 t46 t44 t26 t24 @hw) ?_; try with_reducible intro K hK)
              refine ⟨y.slaves.length - (i + 1), _, H, by omega, ?_, i + 1, all, rfl, by omega, ?_, ?_, .inr ⟨b, ver, hb3, hv, rfl, hpre, hgood, hb⟩⟩
              · refine Ent.gcOp hE (by omega) hgood ?_ ?_
                · simp only [le, ↓reduceIte, Nat.reduceEqDiff, and_true]; repeat' (first | exact trivial | exact D.le_refl _ | exact D.le_any _ | with_reducible refine And.intro ?_ ?_)
                · simp [ltAll, ltObs, Ob.lt, D.lt, D.ltL, or_imp, forall_and]
                  omega
              · rw [hall, take_snoc hs, List.filter_append]; simp [hns]
              · exact all_snoc hok hs (by rw [hoks]; simpa using hq)
      · simp at hc
        obtain ⟨h1, h2⟩ := hdone (by omega)
        subst h2
        (refine W0 (c9 t9 t3 t4 t37 t23 t46 t44 t26 t24) ?_; try with_reducible intro K hK)
        refine ⟨(), h1, ?_⟩
        refine (Ent.weakFr (l' := [(6, .own b ver (allJ x y).length), (4, .ptr (E.H0.length + 2) 0), (3, .ptr (E.H0.length + 1) 0), (2, .ptr E.H0.length 0)]) ?_).trans ((Ent.pubFr b (ver := ver) (sz := 2) (esc := 0) ((allJ x y).map slvV) (by rw [hb]; simp [slvV]) (Nat.zero_le _) rfl).trans ?_)
        · simp only [le, ↓reduceIte, Nat.reduceEqDiff, and_true]; repeat' (first | exact trivial | exact D.le_refl _ | exact D.le_any _ | with_reducible refine And.intro ?_ ?_)
        simp only [convFr, D.conv, List.length_map, Nat.le_refl, and_self, if_true, take_len_map]
        have hg := Ent.gcTo (E := E) (n := 91) (m := E.H0.length + 3) (l := [(4, .ptr (E.H0.length + 2) 0), (3, .ptr (E.H0.length + 1) 0), (2, .ptr E.H0.length 0), (6, .v (.list 2 ((allJ x y).map slvV)))]) (l' := [(6, .v (slvs (allJ x y))), (4, .ptr (E.H0.length + 2) 0), (3, .ptr (E.H0.length + 1) 0), (2, .ptr E.H0.length 0)]) (H := H.set b (.arr ver 2 (((allJ x y).map slvV).map fun x => x.map .v) (allJ x y).length)) hE (by omega) (fun i o hi ho => by
          rw [List.getElem?_set_ne (by omega)] at ho
          have h1 : (E.H0 ++ [(.box [.v (.str x.name), .v (.str x.link), .v (.bool x.manual), .v (.str x.cur), .v (slvs x.slaves), .v (chos x.choices)]), (.box [.v (.str y.name), .v (.str y.link), .v (.bool y.manual), .v (.str y.cur), .v (slvs y.slaves), .v (chos y.choices)]), (.box [.v (.str []), .v (.str []), .v (.bool false), .v (.str []), .nils, .nils])])[i]? = some o := by rw [← hpre, List.getElem?_take_of_lt hi]; exact ho
          have h2 := good_app (E := E) (L := [(.box [.v (.str x.name), .v (.str x.link), .v (.bool x.manual), .v (.str x.cur), .v (slvs x.slaves), .v (chos x.choices)]), (.box [.v (.str y.name), .v (.str y.link), .v (.bool y.manual), .v (.str y.cur), .v (slvs y.slaves), .v (chos y.choices)]), (.box [.v (.str []), .v (.str []), .v (.bool false), .v (.str []), .nils, .nils])]) (by simp [ltAll, ltObs, Ob.lt, D.lt, D.ltL, or_imp, forall_and]) i o h1
          simpa only [List.length_append, List.length_cons, List.length_nil, Nat.reduceAdd] using h2) ?_ ?_
        · rw [List.take_set_of_le (by omega), hpre] at hg
          exact hg
        · simp only [le, ↓reduceIte, Nat.reduceEqDiff, and_true]; repeat' (first | exact trivial | exact D.le_refl _ | exact D.le_any _ | with_reducible refine And.intro ?_ ?_)
        · simp [ltAll, ltObs, Ob.lt, D.lt, D.ltL, or_imp, forall_and]
  intro _ hj
  have hT := hT hj
  have hall8 : (allJ x y).length ≤ 800000 := by
    have := List.length_filter_le (newS x) y.slaves
    rw [allJ, List.length_append]; omega
  (refine Q0 (c9 t9 t3 t4 t37 t23 t46 t44 t26 t24) ?_; try with_reducible intro K hK)
  refine spec_bySlv slvV (fun _ => rfl) (fun s => s.name) _ spec_slvTxt (allJ x y) (by omega) _ _ (hK _ _ ?_)
  clear hK K; simp only [lp]
  obtain ⟨all, hall⟩ : ∃ all, all = joinS x y := ⟨_, rfl⟩
  rw [show stab (fun a b : Slv => Lib.compareBytes a.name b.name) (allJ x y) = all from hall.symm]
  have hal : all.length ≤ 800000 := by rw [hall, joinS, (stab_perm _ _).length_eq]; exact hall8
  rw [joinF, ← hall] at hT
  obtain ⟨c, hcd⟩ : ∃ c, c = sprA c0 y.slaves all := ⟨_, rfl⟩
  rw [← hcd] at hT
  (refine Q0 (c9 t9 t3 t4 t37 t23 t46 t44 t26 t24) ?_; try with_reducible intro K hK)
  refine vb (E.H0.length + 1) [.v (.str y.name), .v (.str y.link), .v (.bool y.manual), .v (.str y.cur), .v (slvs y.slaves), .v (chos y.choices)] hM (by rw [hp_get]; rfl) ?_
  have hg0 : ∀ (X : List V) (Y : List (List V)), ((X :: Y)[Int.toNat 0]?).getD [] = X := fun _ _ => rfl
  have ht3 : ∀ (a b c : V), [a, b, c].take 3 = [a, b, c] := fun _ _ _ => rfl
  repeat (first | refine wa ?_ | ((first | refine vl rfl rfl fun K hK => ?_ | refine vf rfl rfl fun K hK => ?_ | refine vg rfl rfl fun K hK => ?_); (simp only [lo, ld, ↓aop, ↓aCall, hP, hG, Nat.reduceLT, ↓reduceIte, Nat.reduceEqDiff, Nat.reduceAdd, Nat.reduceMul, Nat.reduceLeDiff, reduceCtorEq, D.cs, D.plain, fillD, chop, List.replicate, putB_get, chos, hy, tk_9, ze_9, sz_9, tk_3, ze_3, sz_3, tk_4, ze_4, sz_4, tk_37, ze_37, sz_37, kn_37, tk_23, ze_23, sz_23, tk_46, ze_46, sz_46, kn_46, tk_44, ze_44, sz_44, tk_26, ze_26, sz_26, kn_26, tk_24, ze_24, sz_24, List.map_cons, List.length_cons, hg0, ht3, List.length_nil, List.map_nil]; repeat (with_reducible refine And.intro ?_ ?_; focus (first | decide | omega | (simp only [ln]; omega)))); try ((first | refine hK _ _ (by first | (rw [hp_get]; rfl) | exact hp_old (by assumption)) ?_ | refine hK _ _ ?_ | refine hK _ ?_); clear hK K; simp only [lp])) | (refine vk ?_; simp only [lt, ↓reduceIte, Nat.reduceEqDiff]))
  refine ⟨_, fun H => spec_spread c0 y.slaves all hc0 (by omega) (by omega) _ _ ⟨rfl, rfl⟩, hK _ ?_⟩
  clear hK K; simp only [lp]
  rw [← hcd]
  repeat (first | refine wa ?_ | ((first | refine vl rfl rfl fun K hK => ?_ | refine vf rfl rfl fun K hK => ?_ | refine vg rfl rfl fun K hK => ?_); (simp only [lo, ld, ↓aop, ↓aCall, hP, hG, Nat.reduceLT, ↓reduceIte, Nat.reduceEqDiff, Nat.reduceAdd, Nat.reduceMul, Nat.reduceLeDiff, reduceCtorEq, D.cs, D.plain, fillD, chop, List.replicate, putB_get, choD, tk_9, ze_9, sz_9, tk_3, ze_3, sz_3, tk_4, ze_4, sz_4, tk_37, ze_37, sz_37, kn_37, tk_23, ze_23, sz_23, tk_46, ze_46, sz_46, kn_46, tk_44, ze_44, sz_44, tk_26, ze_26, sz_26, kn_26, tk_24, ze_24, sz_24]; repeat (with_reducible refine And.intro ?_ ?_; focus (first | decide | omega | (simp only [ln]; omega)))); try ((first | refine hK _ _ (by first | (rw [hp_get]; rfl) | exact hp_old (by assumption)) ?_ | refine hK _ _ ?_ | refine hK _ ?_); clear hK K; simp only [lp])) | (refine vk ?_; simp only [lt, ↓reduceIte, Nat.reduceEqDiff]))
  (refine W0 (c10 @choD.eq_def t9 t3 t4 t37 t23 t46 t44 t26 t24) ?_; try with_reducible intro K hK)
  refine sat_blF (ι := Unit) (fun _ => True) (fun _ => fr 91 [(11, .v (.list 3 ((outJ x c all).map cV))), (6, .v (slvs all)), (4, .ptr (E.H0.length + 2) 0), (3, .ptr (E.H0.length + 1) 0), (2, .ptr E.H0.length 0)]) (fun _ => E.H0 ++ [(.box [.v (.str x.name), .v (.str x.link), .v (.bool x.manual), .v (.str x.cur), .v (slvs x.slaves), .v (chos x.choices)]), .dead, (.box [.v (.str []), .v (.str []), .v (.bool false), .v (.str []), .nils, .nils])]) ?_ ?_
  · refine sat_loop_ent (fun n t H => ∃ (i ver : Nat) (out : List Cho), n = x.choices.length - i ∧ i ≤ x.choices.length ∧ 1 ≤ ver ∧ out = c :: ((x.choices.take i).filter (fun o => o.path != c.path)).map (fun o => sprA o x.slaves all) ∧
      t = fr 91 [(67, .v (.int .i64 i)), (11, .own (E.H0.length + 4) ver out.length), (66, .v (.int .i64 x.choices.length)), (65, .v (chos x.choices)), (10, .ptr (E.H0.length + 3) 0), (6, .v (slvs all)), (4, .ptr (E.H0.length + 2) 0), (3, .ptr (E.H0.length + 1) 0), (2, .ptr E.H0.length 0)] ∧ H = E.H0 ++ [(.box [.v (.str x.name), .v (.str x.link), .v (.bool x.manual), .v (.str x.cur), .v (slvs x.slaves), .v (chos x.choices)]), .dead, (.box [.v (.str []), .v (.str []), .v (.bool false), .v (.str []), .nils, .nils]), .box [.v (.str c.path), .v (.int .i64 c.prio), .v (strs c.slaves)], .arr ver 3 (out.map fun c => [.v (.str c.path), .v (.int .i64 c.prio), .v (strs c.slaves)]) 0]) (x.choices.length) (ts0 := fr 91 [(67, .v (.int .i64 (0 : Nat))), (11, .own (E.H0.length + 4) 1 1), (66, .v (.int .i64 x.choices.length)), (65, .v (chos x.choices)), (10, .ptr (E.H0.length + 3) 0), (6, .v (slvs all)), (4, .ptr (E.H0.length + 2) 0), (3, .ptr (E.H0.length + 1) 0), (2, .ptr E.H0.length 0)]) (H0 := E.H0 ++ [(.box [.v (.str x.name), .v (.str x.link), .v (.bool x.manual), .v (.str x.cur), .v (slvs x.slaves), .v (chos x.choices)]), .dead, (.box [.v (.str []), .v (.str []), .v (.bool false), .v (.str []), .nils, .nils]), .box [.v (.str c.path), .v (.int .i64 c.prio), .v (strs c.slaves)], .arr 1 3 [[.v (.str c.path), .v (.int .i64 c.prio), .v (strs c.slaves)]] 0]) ?_ ⟨0, 1, [c], rfl, Nat.zero_le _, Nat.le_refl _, by simp, rfl, rfl⟩ ?_
    · refine Ent.trip hE ?_ ?_ ?_ ?_
      · simp only [List.length_map]; simp only [le, ↓reduceIte, Nat.reduceEqDiff, and_true]; repeat' (first | exact trivial | exact D.le_refl _ | exact D.le_any _ | with_reducible refine And.intro ?_ ?_)
      · simp [leObs, strs, chos]
      · simp [ltAll, ltObs, Ob.lt, D.lt, D.ltL, or_imp, forall_and]
      · simp [ltAll, ltObs, Ob.lt, D.lt, D.ltL, or_imp, forall_and]
    rintro n t H ⟨i, ver, out, rfl, hi, hv, ho, rfl, rfl⟩
    have hol : out.length ≤ i + 1 := by
      have := List.length_filter_le (fun o => o.path != c.path) (x.choices.take i)
      rw [List.length_take] at this
      rw [ho, List.length_cons, List.length_map]; omega
    (refine W0 (c10 @chos.eq_def t9 t3 t4 t37 t23 t46 t44 t26 t24) ?_; try with_reducible intro K hK)
    refine sat_cond rfl (fun hd => ?_) (fun hd => ?_)
    · simp at hd
      obtain ⟨o, hoo⟩ : ∃ o, x.choices[i]? = some o := ⟨_, List.getElem?_eq_getElem hd⟩
      have hw := wrap_succ (i := i) (by omega)
      (refine W0 (c12 @chos.eq_def t9 t3 t4 t37 t23 t46 t44 t26 t24 @hoo @hd) ?_; try with_reducible intro K hK)
      refine sat_cond rfl (fun hq => ?_) (fun hq => ?_)
      · (refine W0 (c9 t9 t3 t4 t37 t23 t46 t44 t26 t24) ?_; try with_reducible intro K hK)
        refine spec_spread o x.slaves all (hcs o (List.mem_of_getElem? hoo)) (by omega) (by omega) _ _ (hK _ _ ?_)
        clear hK K; simp only [lp]
        (refine W0 (c11 @choD.eq_def t9 t3 t4 t37 t23 t46 t44 t26 t24 @hw) ?_; try with_reducible intro K hK)
        refine ⟨x.choices.length - (i + 1), _, _, by omega, ?_, i + 1, ver + 1, out ++ [sprA o x.slaves all], rfl, by omega, by omega, ?_, rfl, rfl⟩
        · simp only [List.length_append, List.length_cons, List.length_nil]
          refine Ent.rnd hE ?_ ?_ ?_ ?_
          · simp only [le, ↓reduceIte, Nat.reduceEqDiff, and_true]; repeat' (first | exact trivial | exact D.le_refl _ | exact D.le_any _ | with_reducible refine And.intro ?_ ?_)
          · simp [chos]
          · simp [ltAll, ltObs, Ob.lt, D.lt, D.ltL, or_imp, forall_and]
          · simp [ltAll, ltObs, Ob.lt, D.lt, D.ltL, or_imp, forall_and]
        · rw [ho, take_snoc hoo, List.filter_append]
          have hq2 : (o.path != c.path) = true := by simpa using hq
          simp [hq2]
      · (refine W0 (c10 t9 t3 t4 t37 t23 t46 t44 t26 t24 @hw) ?_; try with_reducible intro K hK)
        refine ⟨x.choices.length - (i + 1), _, _, by omega, ?_, i + 1, ver, out, rfl, by omega, hv, ?_, rfl, rfl⟩
        · refine Ent.rnd hE ?_ ?_ ?_ ?_
          · simp only [le, ↓reduceIte, Nat.reduceEqDiff, and_true]; repeat' (first | exact trivial | exact D.le_refl _ | exact D.le_any _ | with_reducible refine And.intro ?_ ?_)
          · simp [chos]
          · simp [ltAll, ltObs, Ob.lt, D.lt, D.ltL, or_imp, forall_and]
          · simp [ltAll, ltObs, Ob.lt, D.lt, D.ltL, or_imp, forall_and]
        · rw [ho, take_snoc hoo, List.filter_append]
          have hq2 : (o.path != c.path) = false := by simpa using hq
          simp [hq2]
    · simp at hd
      have he : out = outJ x c all := by rw [ho, List.take_of_length_le (by omega)]; rfl
      (refine W0 (c9 t9 t3 t4 t37 t23 t46 t44 t26 t24) ?_; try with_reducible intro K hK)
      refine ⟨(), trivial, ?_⟩
      refine (Ent.weakFr (l' := [(11, .own (E.H0.length + 4) ver out.length), (6, .v (slvs all)), (4, .ptr (E.H0.length + 2) 0), (3, .ptr (E.H0.length + 1) 0), (2, .ptr E.H0.length 0)]) ?_).trans ((Ent.pubFr (E.H0.length + 4) (ver := ver) (sz := 3) (esc := 0) (out.map cV) (by rw [hp_get]; simp [cV]) (Nat.zero_le _) rfl).trans ?_)
      · simp only [le, ↓reduceIte, Nat.reduceEqDiff, and_true]; repeat' (first | exact trivial | exact D.le_refl _ | exact D.le_any _ | with_reducible refine And.intro ?_ ?_)
      rw [hp_set]
      simp only [convFr, D.conv, List.length_map, Nat.le_refl, and_self, if_true, take_len_map, he]
      refine Ent.trip hE ?_ ?_ ?_ ?_
      · simp only [le, ↓reduceIte, Nat.reduceEqDiff, and_true]; repeat' (first | exact trivial | exact D.le_refl _ | exact D.le_any _ | with_reducible refine And.intro ?_ ?_)
      · simp [leObs, chos]
      · simp [ltAll, ltObs, Ob.lt, D.lt, D.ltL, or_imp, forall_and]
      · simp [ltAll, ltObs, Ob.lt, D.lt, D.ltL, or_imp, forall_and]
  intro _ _
  have houl : (outJ x c all).length ≤ 1000000 := by
    have := List.length_filter_le (fun o => o.path != c.path) x.choices
    rw [outJ, List.length_cons, List.length_map]; omega
  (refine W0 (c9 t9 t3 t4 t37 t23 t46 t44 t26 t24) ?_; try with_reducible intro K hK)
  refine spec_byCho cV (fun _ => rfl) (fun c => c.path) _ spec_choTxt (outJ x c all) houl _ _ (hK _ _ ?_)
  clear hK K; simp only [lp]
  (refine W0 (c9 t9 t3 t4 t37 t23 t46 t44 t26 t24) ?_; try with_reducible intro K hK)
  exact Fin.cell 2 (altV { x with slaves := all, choices := stab (fun a b : Cho => Lib.compareBytes a.path b.path) (outJ x c all) }) (.bool true) hE (by decide) (by decide) rfl rfl rfl hrow hT
end Go.Ag
namespace Go.Ag
open Go Go.Proofs
variable {G : Nat → Option (List V)}
attribute [local irreducible] aops qops Sat aop

def rowsA (l : List Alt) : List (List D) := l.map fun x => (altV x).map .v
theorem rowsA_len (l : List Alt) : (rowsA l).length = l.length := by simp [rowsA]
theorem rowsA_v (l : List Alt) : rowsA l = (l.map altV).map (·.map .v) := by simp [rowsA]
set_option maxHeartbeats 4000000 in
theorem spec_CloneA (l : List Alt) (hl : l.length ≤ 1000000) (H : List Ob) (K : D → List Ob → Prop) (hK : ∀ d L, (l = [] ∧ L = [] ∧ d = .nils ∨ ∃ ver, 1 ≤ ver ∧ d = .own H.length ver l.length ∧ L = [.arr ver 6 (rowsA l) 0]) → K d (H ++ L)) : ACalls Tryz.prog G 29 [.v (altsV l)] H K := by
  refine ACalls.go Tryz.f29 _ 8 [2] Tryz.func29 rfl Tryz.ntmps29 (by kernel_rfl) rfl (by simp) (fun E hE hP hG hH => ?_)
  have hM : E.P.follows .mixedOrders = true := hP ▸ mixed
  subst hH
  simp only [args0]
  (refine W0 (c5 @altsV.eq_def t3 t9 t22 t26) ?_; try with_reducible intro K hK)
  refine ⟨fun hne => hK _ _ ?_, fun he => ⟨hK _ _ ?_, hK _ _ ?_⟩⟩
  · clear hK K; simp only [lp]
    (refine W0 trivial ?_; try with_reducible intro K hK)
    refine sat_cond rfl (fun hb => ?_) (fun hb => ?_)
    · exact absurd hb (by decide)
    (refine W0 (c4 @altsV.eq_def t3 t22 t26) ?_; try with_reducible intro K hK)
    refine Fin.is _ (by decide) rfl (hK _ _ (.inr ⟨2, by omega, rfl, by rw [rowsA_v]⟩))
  · clear hK K; simp only [lp]
    (refine W0 trivial ?_; try with_reducible intro K hK)
    refine sat_cond rfl (fun hb => ?_) (fun hb => ?_)
    · (refine W0 t22 ?_; try with_reducible intro K hK)
      refine Fin.is .nils (by decide) rfl ?_
      have := hK .nils [] (.inl ⟨by simpa using he, rfl, rfl⟩)
      rwa [List.append_nil] at this
    · exact absurd hb (by decide)
  · clear hK K; simp only [lp]
    (refine W0 trivial ?_; try with_reducible intro K hK)
    refine sat_cond rfl (fun hb => ?_) (fun hb => ?_)
    · exact absurd hb (by decide)
    (refine W0 (c4 @altsV.eq_def t3 t22 t26) ?_; try with_reducible intro K hK)
    refine Fin.is _ (by decide) rfl (hK _ _ (.inr ⟨2, by omega, rfl, by rw [rowsA_v]⟩))
end Go.Ag
namespace Go.Ag
open Go Go.Proofs
variable {G : Nat → Option (List V)}
attribute [local irreducible] aops qops Sat aop

set_option maxHeartbeats 4000000 in
theorem spec_IndexFuncO (l : List Alt) (b ver : Nat) (f : FuncId) (caps : List D) (q : Alt → Bool) (hl : l.length ≤ 1099511627776) (H : List Ob) (hb : H[b]? = some (.arr ver 6 (rowsA l) 0))
    (hq : ∀ c ∈ l, ∀ (K : D → List Ob → Prop), K (.v (.bool (q c))) H → ACalls Tryz.prog G f (altd c :: caps) H K)
    (K : D → List Ob → Prop) (hK : K (.v (.int .i64 (idxA l q))) H) : ACalls Tryz.prog G 30 [.own b ver l.length, .fn f caps] H K := by
  refine ACalls.go Tryz.f30 _ 19 [4] Tryz.func30 rfl Tryz.ntmps30 (by kernel_rfl) rfl (by simp) (fun E hE hP hG hH => ?_)
  have hM : E.P.follows .mixedOrders = true := hP ▸ mixed
  subst hH
  simp only [args0]
  (refine W0 (c5 t3 t9 t22 t26 @hb) ?_; try with_reducible intro K hK)
  refine sat_loop_ent (fun n ts H => ∃ (i : Nat), n = l.length - i ∧ i ≤ l.length ∧ (l.take i).any q = false ∧
    ts = fr 19 [(8, .v (.int .i64 i)), (7, .v (.int .i64 l.length)), (1, .fn f caps), (0, .own b ver l.length)] ∧ H = E.H0) (l.length) (.weakFr ?_) ⟨0, rfl, Nat.zero_le _, rfl, rfl, rfl⟩ ?_
  · simp only [le, ↓reduceIte, Nat.reduceEqDiff, and_true]; repeat' (first | exact trivial | exact D.le_refl _ | exact D.le_any _ | with_reducible refine And.intro ?_ ?_)
  rintro n ts H ⟨i, rfl, hi, hall, rfl, rfl⟩
  (refine W0 (c5 t3 t9 t22 t26 @hb) ?_; try with_reducible intro K hK)
  refine sat_cond rfl (fun hc => ?_) (fun hc => ?_)
  · simp at hc
    obtain ⟨x, hx⟩ : ∃ x, l[i]? = some x := ⟨_, List.getElem?_eq_getElem hc⟩
    have hw := wrap_succ (i := i) (by omega)
    have hr : (rowsA l)[i]? = some ((altV x).map .v) := by simp [rowsA, hx]
    (refine W0 (c8 @altV.eq_def t3 t9 t22 t26 @hb @hc @hr) ?_; try with_reducible intro K hK)
    refine hq x (List.mem_of_getElem? hx) _ (hK _ _ ?_)
    clear hK K; simp only [lp]
    (refine W0 trivial ?_; try with_reducible intro K hK)
    refine sat_cond rfl (fun hb => ?_) (fun hb => ?_)
    · (refine W0 trivial ?_; try with_reducible intro K hK)
      refine Fin.is (.v (.int .i64 i)) (by decide) rfl ?_
      rwa [idxA, findIdx_hit hx hb hall] at hK
    · (refine W0 @hw ?_; try with_reducible intro K hK)
      refine ⟨l.length - (i + 1), _, _, by omega, .weakFr ?_, i + 1, rfl, by omega, ?_, rfl, rfl⟩
      · simp only [le, ↓reduceIte, Nat.reduceEqDiff, and_true]; repeat' (first | exact trivial | exact D.le_refl _ | exact D.le_any _ | with_reducible refine And.intro ?_ ?_)
      · rw [take_snoc hx, List.any_append, hall]; simp [hb]
  · simp at hc
    have e : l.take i = l := List.take_of_length_le (by omega)
    rw [e] at hall
    (refine W0 trivial ?_; try with_reducible intro K hK)
    refine Fin.is (.v (.int .i64 (-1))) (by decide) rfl ?_
    rwa [idxA, findIdx_miss hall] at hK

end Go.Ag
namespace Go.Ag
open Go Go.Proofs
variable {G : Nat → Option (List V)}
attribute [local irreducible] aops qops Sat aop

theorem rowsA_set (l : List Alt) (i : Nat) (x : Alt) : (rowsA l).set i ((altV x).map .v) = rowsA (l.set i x) := by simp [rowsA, List.map_set]
theorem rowsA_lt (n v : Nat) (l : List Alt) : Ob.lt n (.arr v 6 (rowsA l) 0) := by
  rw [rowsA_v]; exact ltRows n _
/-- Garbage goes, where an object of the caller's was changed. -/
theorem Ent.gcSet {E : Env} {n b : Nat} {l l' : List (Nat × D)} {o : Ob} (G : List Ob) (hE : E.Closed) (ho : o.lt E.H0.length) (h1 : leAll l l') (h2 : ltAll E.H0.length l') : Ent E (fr n l) (E.H0.set b o ++ G) (fr n l') (E.H0.set b o) := by
  refine (Ent.weakFr h1).trans ?_
  have h := Ent.gc (E := E) (ts := fr n l') (H := E.H0.set b o ++ G) E.H0.length hE (Nat.le_refl _) (ltL_fr h2) (fun i o' hi ho' => by
    rw [List.getElem?_append_left (by simpa using hi)] at ho'
    by_cases e : b = i
    · subst e
      rw [List.getElem?_set_self hi] at ho'; cases ho'
      exact .inr ho
    · rw [List.getElem?_set_ne e] at ho'
      exact .inl ho')
  have e : (E.H0.set b o ++ G).take E.H0.length = E.H0.set b o := by
    rw [List.take_append_of_le_length (by simp)]
    exact List.take_of_length_le (by simp)
  rwa [e] at h
theorem idx_split {l : List Alt} {q : Alt → Bool} {i : Nat} (h : l.findIdx? q = some i) : i < l.length ∧ l.take i = (l.take (i + 1)).filter (fun x => !q x) := by
  rw [List.findIdx?_eq_some_iff_getElem] at h
  obtain ⟨hi, hq, hno⟩ := h
  refine ⟨hi, ?_⟩
  rw [List.take_succ_eq_append_getElem hi, List.filter_append]
  have e1 : (l.take i).filter (fun x => !q x) = l.take i := by
    rw [List.filter_eq_self]
    intro x hx
    obtain ⟨j, hj, rfl⟩ := List.getElem_of_mem hx
    rw [List.getElem_take]
    have := hno j (by simp at hj; omega)
    simpa using this
  rw [e1]; simp [hq]
set_option maxRecDepth 20000 in
set_option maxHeartbeats 16000000 in
theorem spec_DeleteFunc (l : List Alt) (b ver : Nat) (f : FuncId) (caps : List D) (q : Alt → Bool) (hl : l.length ≤ 1099511627) (H : List Ob) (hb : H[b]? = some (.arr ver 6 (rowsA l) 0))
    (hq : ∀ c ∈ l, ∀ (H' : List Ob) (K : D → List Ob → Prop), (∀ j, j < H.length → j ≠ b → H'[j]? = H[j]?) → K (.v (.bool (q c))) H' → ACalls Tryz.prog G f (altd c :: caps) H' K)
    (hcaps : D.ltL H.length caps) (K : D → List Ob → Prop) (hK : ∀ H', H'.length = H.length → (∀ j, j ≠ b → H'[j]? = H[j]?) → K (.v (altsV (l.filter fun x => !q x))) H') : ACalls Tryz.prog G 33 [.own b ver l.length, .fn f caps] H K := by
  have hlt := (List.getElem?_eq_some_iff.1 hb).1
  refine ACalls.go Tryz.f33 _ 42 [4] Tryz.func33 rfl Tryz.ntmps33 (by kernel_rfl) rfl (by simp) (fun E hE hP hG hH => ?_)
  have hM : E.P.follows .mixedOrders = true := hP ▸ mixed
  subst hH
  simp only [args0]
  (refine W0 (c4 t3 t9 t22 t26) ?_; try with_reducible intro K hK)
  refine spec_IndexFuncO l b ver f caps q (by omega) _ hb (fun c hc K hK => hq c hc _ _ (fun j _ _ => rfl) hK) _ (hK _ _ ?_)
  clear hK K; simp only [lp]
  (refine W0 (c4 t3 t9 t22 t26) ?_; try with_reducible intro K hK)
  cases hx : l.findIdx? q with
  | none =>
    have e0 : idxA l q = -1 := by simp [idxA, hx]
    have e1 : l.filter (fun x => !q x) = l := by
      rw [List.filter_eq_self]
      intro x hxl
      have := List.findIdx?_eq_none_iff.1 hx x hxl
      simpa using this
    rw [e0]
    refine sat_cond rfl (fun hc => ?_) (fun hc => ?_)
    · (refine W0 trivial ?_; try with_reducible intro K hK)
      rw [e1] at hK
      exact Fin.pubAt b ver 6 l.length (l.map altV) (by decide) rfl hb (by rw [← rowsA_v, List.take_of_length_le (by rw [rowsA_len]; exact Nat.le_refl _)]) (by simp) hK
    · exact absurd hc (by decide)
  | some i0 =>
    have e0 : idxA l q = i0 := by simp [idxA, hx]
    obtain ⟨hi0, hsp⟩ := idx_split hx
    rw [e0]
    refine sat_cond rfl (fun hc => ?_) (fun hc => ?_)
    · simp at hc
    have hw := wrap_succ (i := i0) (by omega)
    (refine W0 (c2 t3 @hw) ?_; try with_reducible intro K hK)
    refine sat_loop_ent (fun n ts H => ∃ (i j : Nat) (xs : List Alt), n = l.length - j ∧ j ≤ l.length ∧ i < j ∧ xs.length = l.length ∧ xs.take i = (l.take j).filter (fun x => !q x) ∧ xs.drop j = l.drop j ∧
      ts = fr 42 [(6, .v (.int .i64 j)), (5, .v (.int .i64 i)), (1, .fn f caps), (0, .own b ver l.length)] ∧ H = E.H0.set b (.arr ver 6 (rowsA xs) 0)) (l.length - (i0 + 1)) (ts0 := fr 42 [(6, .v (.int .i64 (i0 + 1 : Nat))), (5, .v (.int .i64 i0)), (1, .fn f caps), (0, .own b ver l.length)]) (H0 := E.H0) (.weakFr ?_) ⟨i0, i0 + 1, l, rfl, by omega, by omega, rfl, hsp, rfl, rfl, (set_same hb).symm⟩ ?_
    · simp only [le, ↓reduceIte, Nat.reduceEqDiff, and_true]; repeat' (first | exact trivial | exact D.le_refl _ | exact D.le_any _ | with_reducible refine And.intro ?_ ?_)
    rintro n ts H ⟨i, j, xs, rfl, hj, hij, hxl, hxt, hxd, rfl, hHH⟩
    have hl1 : H.length = E.H0.length := by rw [hHH]; simp
    have hb1 : H[b]? = some (.arr ver 6 (rowsA xs) 0) := by rw [hHH]; exact List.getElem?_set_self hlt
    have hoth : ∀ k, k ≠ b → H[k]? = E.H0[k]? := fun k hk => by rw [hHH, List.getElem?_set_ne (fun e => hk e.symm)]
    have hbA : ∀ L, (H ++ L)[b]? = some (.arr ver 6 (rowsA xs) 0) := fun L => by rw [List.getElem?_append_left (by omega)]; exact hb1
    have hbS : ∀ L o, (H ++ L).set b o = H.set b o ++ L := fun L o => List.set_append_left _ _ (by omega)
    (refine W0 (c3 t3 t22 @hb1) ?_; try with_reducible intro K hK)
    refine sat_cond rfl (fun hd => ?_) (fun hd => ?_)
    · simp at hd
      obtain ⟨x, hxj⟩ : ∃ x, l[j]? = some x := ⟨_, List.getElem?_eq_getElem hd⟩
      have hxx : xs[j]? = some x := by
        have := congrArg (fun l => l[0]?) hxd
        simpa [List.getElem?_drop, hxj] using this
      have hr : (rowsA xs)[j]? = some ((altV x).map .v) := by simp [rowsA, hxx]
      have hwj := wrap_succ (i := j) (by omega)
      have hwi := wrap_succ (i := i) (by omega)
      (refine W0 (c9 @altV.eq_def t3 t9 t22 t26 @hb1 @hbA @hd @hr) ?_; try with_reducible intro K hK)
      refine hq x (List.mem_of_getElem? hxj) _ _ (fun k hk hkb => by rw [List.getElem?_append_left (by omega)]; exact hoth k hkb) (hK _ _ ?_)
      clear hK K; simp only [lp]
      (refine W0 trivial ?_; try with_reducible intro K hK)
      have et : l.take (j + 1) = l.take j ++ [x] := take_snoc hxj
      refine sat_cond rfl (fun hb' => ?_) (fun hb' => ?_)
      · obtain ⟨y, hy⟩ : ∃ y, xs[i]? = some y := ⟨_, List.getElem?_eq_getElem (by omega)⟩
        have hil : i < l.length := by omega
        have hri : (rowsA xs)[i]? = some ((altV y).map .v) := by simp [rowsA, hy]
        (refine W0 (c11 @altV.eq_def t3 t9 t22 t26 @hbA @hil @hri @hbS @hwi @hwj) ?_; try with_reducible intro K hK)
        refine ⟨l.length - (j + 1), _, _, by omega, ?_, i + 1, j + 1, xs.set i x, rfl, by omega, by omega, by simp [hxl], ?_, ?_, rfl, rfl⟩
        · have e1 : (rowsA xs).set i [D.v (.str x.name), .v (.str x.link), .v (.bool x.manual), .v (.str x.cur), .v (slvs x.slaves), .v (chos x.choices)] = rowsA (xs.set i x) := rowsA_set xs i x
          rw [e1, hHH, List.set_set]
          refine Ent.gcSet _ hE (rowsA_lt _ _ _) ?_ ?_
          · simp only [le, ↓reduceIte, Nat.reduceEqDiff, and_true]; repeat' (first | exact trivial | exact D.le_refl _ | exact D.le_any _ | with_reducible refine And.intro ?_ ?_)
          · exact ⟨by simp only [D.lt], by simp only [D.lt], by simp only [D.lt]; exact hcaps, by simp only [D.lt]; exact hlt, trivial⟩
        · have e2 : (xs.set i x).take (i + 1) = xs.take i ++ [x] := by
            apply List.ext_getElem?
            intro k
            rw [List.getElem?_take]
            by_cases hk : k < i
            · rw [if_pos (by omega), List.getElem?_set_ne (by omega), List.getElem?_append_left (by simp; omega), List.getElem?_take_of_lt hk]
            · rw [List.getElem?_append_right (by simp; omega)]
              by_cases hk2 : k = i
              · subst hk2
                rw [if_pos (by omega), List.getElem?_set_self (by omega)]
                have : k - (xs.take k).length = 0 := by simp; omega
                rw [this]; rfl
              · rw [if_neg (by omega)]
                rw [List.getElem?_eq_none]
                simp; omega
          rw [e2, hxt, et, List.filter_append]
          simp [hb']
        · rw [List.drop_set_of_lt (by omega)]
          have := congrArg (List.drop 1) hxd
          simpa [List.drop_drop, Nat.add_comm] using this
      · (refine W0 (c4 t3 t22 t26 @hwj) ?_; try with_reducible intro K hK)
        refine ⟨l.length - (j + 1), _, _, by omega, ?_, i, j + 1, xs, rfl, by omega, by omega, hxl, ?_, ?_, rfl, hHH⟩
        · rw [hHH]
          refine Ent.gcSet _ hE (rowsA_lt _ _ _) ?_ ?_
          · simp only [le, ↓reduceIte, Nat.reduceEqDiff, and_true]; repeat' (first | exact trivial | exact D.le_refl _ | exact D.le_any _ | with_reducible refine And.intro ?_ ?_)
          · exact ⟨by simp only [D.lt], by simp only [D.lt], by simp only [D.lt]; exact hcaps, by simp only [D.lt]; exact hlt, trivial⟩
        · rw [et, List.filter_append, hxt]
          simp at hb'
          simp [hb']
        · have := congrArg (List.drop 1) hxd
          simpa [List.drop_drop, Nat.add_comm] using this
    simp at hd
    obtain rfl : j = l.length := by omega
    rw [List.take_length] at hxt
    have hlen : i = (l.filter fun x => !q x).length := by rw [← hxt]; simp; omega
    have hdone : ∀ (xs' : List (List D)), xs'.take i = ((l.filter fun x => !q x).map altV).map (·.map .v) → ∀ ts, look ts 4 = .own b ver i → Fin E (fr 42 ts) (H.set b (.arr ver 6 xs' 0)) [4] K := fun xs' hx' ts hts => by
      refine Fin.pubAt b ver 6 i ((l.filter fun x => !q x).map altV) (by decide) hts (List.getElem?_set_self (by omega)) hx' (by rw [List.length_map, ← hlen]) (fun H' h1 h2 => hK H' (by rw [h1]; simp [hl1]) (fun k hk => by rw [h2 k hk, List.getElem?_set_ne (fun e => hk e.symm)]; exact hoth k hk))
    have hrt : (rowsA xs).take i = ((l.filter fun x => !q x).map altV).map (·.map .v) := by
      rw [← hxt, ← rowsA_v, rowsA, rowsA, List.map_take]
    have gs : ∀ o, (H.set b o)[b]? = some o := fun o => List.getElem?_set_self (by omega)
    have hsg : ∀ rows : List (List D), (seg (rowsA xs) i rows).take i = (rowsA xs).take i := fun rows => by
      rw [seg, List.append_assoc, List.take_append_of_le_length (by simp [rowsA_len]; omega), List.take_take, Nat.min_self]
    by_cases hi1 : i = 0
    · (refine W0 (c4 t3 t22 t26 @hb1) ?_; try with_reducible intro K hK)
      rw [if_pos (by omega)]
      unfold aClear
      simp only [tk_22, ze_26, hb1]
      refine ⟨rfl, rfl, trivial, trivial, trivial, by rw [rowsA_len]; omega, hK _ _ ?_⟩
      clear hK K; simp only [lp]
      (refine W0 (c4 t3 t22 t26 @gs) ?_; try with_reducible intro K hK)
      rw [hi1] at hsg hdone ⊢
      exact hdone _ (by rw [hsg]; rw [hi1] at hrt; exact hrt) _ rfl
    · (refine W0 (c4 t3 t22 t26 @hb1) ?_; try with_reducible intro K hK)
      rw [if_neg (by omega)]
      unfold aClear
      simp only [tk_22, ze_26, hb1]
      refine ⟨rfl, rfl, trivial, trivial, trivial, Nat.zero_le _, by rw [rowsA_len]; omega, hK _ _ ?_⟩
      clear hK K; simp only [lp]
      (refine W0 (c4 t3 t22 t26 @gs) ?_; try with_reducible intro K hK)
      exact hdone _ (by rw [hsg]; exact hrt) _ rfl
end Go.Ag
namespace Go.Ag
open Go Go.Proofs
variable {G : Nat → Option (List V)}
attribute [local irreducible] aops qops Sat aop

def rowsK (l : List Cho) : List (List D) := l.map fun x => (cV x).map .v
theorem rowsK_len (l : List Cho) : (rowsK l).length = l.length := by simp [rowsK]
theorem rowsK_v (l : List Cho) : rowsK l = (l.map cV).map (·.map .v) := by simp [rowsK]
def idxK (l : List Cho) (q : Cho → Bool) : Int := match l.findIdx? q with | some i => i | none => -1
set_option maxHeartbeats 4000000 in
theorem spec_IndexFuncOK (l : List Cho) (b ver : Nat) (f : FuncId) (caps : List D) (q : Cho → Bool) (hl : l.length ≤ 1099511627776) (H : List Ob) (hb : H[b]? = some (.arr ver 3 (rowsK l) 0))
    (hq : ∀ c ∈ l, ∀ (K : D → List Ob → Prop), K (.v (.bool (q c))) H → ACalls Tryz.prog G f (choD c :: caps) H K)
    (K : D → List Ob → Prop) (hK : K (.v (.int .i64 (idxK l q))) H) : ACalls Tryz.prog G 36 [.own b ver l.length, .fn f caps] H K := by
  refine ACalls.go Tryz.f36 _ 19 [4] Tryz.func36 rfl Tryz.ntmps36 (by kernel_rfl) rfl (by simp) (fun E hE hP hG hH => ?_)
  have hM : E.P.follows .mixedOrders = true := hP ▸ mixed
  subst hH
  simp only [args0]
  (refine W0 (c5 t3 t9 t24 t46 @hb) ?_; try with_reducible intro K hK)
  refine sat_loop_ent (fun n ts H => ∃ (i : Nat), n = l.length - i ∧ i ≤ l.length ∧ (l.take i).any q = false ∧
    ts = fr 19 [(8, .v (.int .i64 i)), (7, .v (.int .i64 l.length)), (1, .fn f caps), (0, .own b ver l.length)] ∧ H = E.H0) (l.length) (.weakFr ?_) ⟨0, rfl, Nat.zero_le _, rfl, rfl, rfl⟩ ?_
  · simp only [le, ↓reduceIte, Nat.reduceEqDiff, and_true]; repeat' (first | exact trivial | exact D.le_refl _ | exact D.le_any _ | with_reducible refine And.intro ?_ ?_)
  rintro n ts H ⟨i, rfl, hi, hall, rfl, rfl⟩
  (refine W0 (c5 t3 t9 t24 t46 @hb) ?_; try with_reducible intro K hK)
  refine sat_cond rfl (fun hc => ?_) (fun hc => ?_)
  · simp at hc
    obtain ⟨x, hx⟩ : ∃ x, l[i]? = some x := ⟨_, List.getElem?_eq_getElem hc⟩
    have hw := wrap_succ (i := i) (by omega)
    have hr : (rowsK l)[i]? = some ((cV x).map .v) := by simp [rowsK, hx]
    (refine W0 (c8 @cV.eq_def t3 t9 t24 t46 @hb @hc @hr) ?_; try with_reducible intro K hK)
    refine hq x (List.mem_of_getElem? hx) _ (hK _ _ ?_)
    clear hK K; simp only [lp]
    (refine W0 trivial ?_; try with_reducible intro K hK)
    refine sat_cond rfl (fun hb => ?_) (fun hb => ?_)
    · (refine W0 trivial ?_; try with_reducible intro K hK)
      refine Fin.is (.v (.int .i64 i)) (by decide) rfl ?_
      rwa [idxK, findIdx_hit hx hb hall] at hK
    · (refine W0 @hw ?_; try with_reducible intro K hK)
      refine ⟨l.length - (i + 1), _, _, by omega, .weakFr ?_, i + 1, rfl, by omega, ?_, rfl, rfl⟩
      · simp only [le, ↓reduceIte, Nat.reduceEqDiff, and_true]; repeat' (first | exact trivial | exact D.le_refl _ | exact D.le_any _ | with_reducible refine And.intro ?_ ?_)
      · rw [take_snoc hx, List.any_append, hall]; simp [hb]
  · simp at hc
    have e : l.take i = l := List.take_of_length_le (by omega)
    rw [e] at hall
    (refine W0 trivial ?_; try with_reducible intro K hK)
    refine Fin.is (.v (.int .i64 (-1))) (by decide) rfl ?_
    rwa [idxK, findIdx_miss hall] at hK

theorem rowsK_set (l : List Cho) (i : Nat) (x : Cho) : (rowsK l).set i ((cV x).map .v) = rowsK (l.set i x) := by simp [rowsK, List.map_set]
theorem rowsK_lt (n v : Nat) (l : List Cho) : Ob.lt n (.arr v 3 (rowsK l) 0) := by
  rw [rowsK_v]; exact ltRows n _
theorem idxK_split {l : List Cho} {q : Cho → Bool} {i : Nat} (h : l.findIdx? q = some i) : i < l.length ∧ l.take i = (l.take (i + 1)).filter (fun x => !q x) := by
  rw [List.findIdx?_eq_some_iff_getElem] at h
  obtain ⟨hi, hq, hno⟩ := h
  refine ⟨hi, ?_⟩
  rw [List.take_succ_eq_append_getElem hi, List.filter_append]
  have e1 : (l.take i).filter (fun x => !q x) = l.take i := by
    rw [List.filter_eq_self]
    intro x hx
    obtain ⟨j, hj, rfl⟩ := List.getElem_of_mem hx
    rw [List.getElem_take]
    have := hno j (by simp at hj; omega)
    simpa using this
  rw [e1]; simp [hq]
set_option maxRecDepth 20000 in
set_option maxHeartbeats 16000000 in
theorem spec_DeleteFuncK (l : List Cho) (b ver : Nat) (f : FuncId) (caps : List D) (q : Cho → Bool) (hl : l.length ≤ 1099511627) (H : List Ob) (hb : H[b]? = some (.arr ver 3 (rowsK l) 0))
    (hq : ∀ c ∈ l, ∀ (H' : List Ob) (K : D → List Ob → Prop), (∀ j, j < H.length → j ≠ b → H'[j]? = H[j]?) → K (.v (.bool (q c))) H' → ACalls Tryz.prog G f (choD c :: caps) H' K)
    (hcaps : D.ltL H.length caps) (K : D → List Ob → Prop) (hK : ∀ H', H'.length = H.length → (∀ j, j ≠ b → H'[j]? = H[j]?) → K (.v (chos (l.filter fun x => !q x))) H') : ACalls Tryz.prog G 66 [.own b ver l.length, .fn f caps] H K := by
  have hlt := (List.getElem?_eq_some_iff.1 hb).1
  refine ACalls.go Tryz.f66 _ 42 [4] Tryz.func66 rfl Tryz.ntmps66 (by kernel_rfl) rfl (by simp) (fun E hE hP hG hH => ?_)
  have hM : E.P.follows .mixedOrders = true := hP ▸ mixed
  subst hH
  simp only [args0]
  (refine W0 (c4 t3 t9 t24 t46) ?_; try with_reducible intro K hK)
  refine spec_IndexFuncOK l b ver f caps q (by omega) _ hb (fun c hc K hK => hq c hc _ _ (fun j _ _ => rfl) hK) _ (hK _ _ ?_)
  clear hK K; simp only [lp]
  (refine W0 (c4 t3 t9 t24 t46) ?_; try with_reducible intro K hK)
  cases hx : l.findIdx? q with
  | none =>
    have e0 : idxK l q = -1 := by simp [idxK, hx]
    have e1 : l.filter (fun x => !q x) = l := by
      rw [List.filter_eq_self]
      intro x hxl
      have := List.findIdx?_eq_none_iff.1 hx x hxl
      simpa using this
    rw [e0]
    refine sat_cond rfl (fun hc => ?_) (fun hc => ?_)
    · (refine W0 trivial ?_; try with_reducible intro K hK)
      rw [e1] at hK
      exact Fin.pubAt b ver 3 l.length (l.map cV) (by decide) rfl hb (by rw [← rowsK_v, List.take_of_length_le (by rw [rowsK_len]; exact Nat.le_refl _)]) (by simp) hK
    · exact absurd hc (by decide)
  | some i0 =>
    have e0 : idxK l q = i0 := by simp [idxK, hx]
    obtain ⟨hi0, hsp⟩ := idxK_split hx
    rw [e0]
    refine sat_cond rfl (fun hc => ?_) (fun hc => ?_)
    · simp at hc
    have hw := wrap_succ (i := i0) (by omega)
    (refine W0 (c2 t3 @hw) ?_; try with_reducible intro K hK)
    refine sat_loop_ent (fun n ts H => ∃ (i j : Nat) (xs : List Cho), n = l.length - j ∧ j ≤ l.length ∧ i < j ∧ xs.length = l.length ∧ xs.take i = (l.take j).filter (fun x => !q x) ∧ xs.drop j = l.drop j ∧
      ts = fr 42 [(6, .v (.int .i64 j)), (5, .v (.int .i64 i)), (1, .fn f caps), (0, .own b ver l.length)] ∧ H = E.H0.set b (.arr ver 3 (rowsK xs) 0)) (l.length - (i0 + 1)) (ts0 := fr 42 [(6, .v (.int .i64 (i0 + 1 : Nat))), (5, .v (.int .i64 i0)), (1, .fn f caps), (0, .own b ver l.length)]) (H0 := E.H0) (.weakFr ?_) ⟨i0, i0 + 1, l, rfl, by omega, by omega, rfl, hsp, rfl, rfl, (set_same hb).symm⟩ ?_
    · simp only [le, ↓reduceIte, Nat.reduceEqDiff, and_true]; repeat' (first | exact trivial | exact D.le_refl _ | exact D.le_any _ | with_reducible refine And.intro ?_ ?_)
    rintro n ts H ⟨i, j, xs, rfl, hj, hij, hxl, hxt, hxd, rfl, hHH⟩
    have hl1 : H.length = E.H0.length := by rw [hHH]; simp
    have hb1 : H[b]? = some (.arr ver 3 (rowsK xs) 0) := by rw [hHH]; exact List.getElem?_set_self hlt
    have hoth : ∀ k, k ≠ b → H[k]? = E.H0[k]? := fun k hk => by rw [hHH, List.getElem?_set_ne (fun e => hk e.symm)]
    have hbA : ∀ L, (H ++ L)[b]? = some (.arr ver 3 (rowsK xs) 0) := fun L => by rw [List.getElem?_append_left (by omega)]; exact hb1
    have hbS : ∀ L o, (H ++ L).set b o = H.set b o ++ L := fun L o => List.set_append_left _ _ (by omega)
    (refine W0 (c3 t3 t24 @hb1) ?_; try with_reducible intro K hK)
    refine sat_cond rfl (fun hd => ?_) (fun hd => ?_)
    · simp at hd
      obtain ⟨x, hxj⟩ : ∃ x, l[j]? = some x := ⟨_, List.getElem?_eq_getElem hd⟩
      have hxx : xs[j]? = some x := by
        have := congrArg (fun l => l[0]?) hxd
        simpa [List.getElem?_drop, hxj] using this
      have hr : (rowsK xs)[j]? = some ((cV x).map .v) := by simp [rowsK, hxx]
      have hwj := wrap_succ (i := j) (by omega)
      have hwi := wrap_succ (i := i) (by omega)
      (refine W0 (c9 @cV.eq_def t3 t9 t24 t46 @hb1 @hbA @hd @hr) ?_; try with_reducible intro K hK)
      refine hq x (List.mem_of_getElem? hxj) _ _ (fun k hk hkb => by rw [List.getElem?_append_left (by omega)]; exact hoth k hkb) (hK _ _ ?_)
      clear hK K; simp only [lp]
      (refine W0 trivial ?_; try with_reducible intro K hK)
      have et : l.take (j + 1) = l.take j ++ [x] := take_snoc hxj
      refine sat_cond rfl (fun hb' => ?_) (fun hb' => ?_)
      · obtain ⟨y, hy⟩ : ∃ y, xs[i]? = some y := ⟨_, List.getElem?_eq_getElem (by omega)⟩
        have hil : i < l.length := by omega
        have hri : (rowsK xs)[i]? = some ((cV y).map .v) := by simp [rowsK, hy]
        (refine W0 (c11 @cV.eq_def t3 t9 t24 t46 @hbA @hil @hri @hbS @hwi @hwj) ?_; try with_reducible intro K hK)
        refine ⟨l.length - (j + 1), _, _, by omega, ?_, i + 1, j + 1, xs.set i x, rfl, by omega, by omega, by simp [hxl], ?_, ?_, rfl, rfl⟩
        · have e1 : (rowsK xs).set i [D.v (.str x.path), .v (.int .i64 x.prio), .v (strs x.slaves)] = rowsK (xs.set i x) := rowsK_set xs i x
          rw [e1, hHH, List.set_set]
          refine Ent.gcSet _ hE (rowsK_lt _ _ _) ?_ ?_
          · simp only [le, ↓reduceIte, Nat.reduceEqDiff, and_true]; repeat' (first | exact trivial | exact D.le_refl _ | exact D.le_any _ | with_reducible refine And.intro ?_ ?_)
          · exact ⟨by simp only [D.lt], by simp only [D.lt], by simp only [D.lt]; exact hcaps, by simp only [D.lt]; exact hlt, trivial⟩
        · have e2 : (xs.set i x).take (i + 1) = xs.take i ++ [x] := by
            apply List.ext_getElem?
            intro k
            rw [List.getElem?_take]
            by_cases hk : k < i
            · rw [if_pos (by omega), List.getElem?_set_ne (by omega), List.getElem?_append_left (by simp; omega), List.getElem?_take_of_lt hk]
            · rw [List.getElem?_append_right (by simp; omega)]
              by_cases hk2 : k = i
              · subst hk2
                rw [if_pos (by omega), List.getElem?_set_self (by omega)]
                have : k - (xs.take k).length = 0 := by simp; omega
                rw [this]; rfl
              · rw [if_neg (by omega)]
                rw [List.getElem?_eq_none]
                simp; omega
          rw [e2, hxt, et, List.filter_append]
          simp [hb']
        · rw [List.drop_set_of_lt (by omega)]
          have := congrArg (List.drop 1) hxd
          simpa [List.drop_drop, Nat.add_comm] using this
      · (refine W0 (c4 t3 t24 t46 @hwj) ?_; try with_reducible intro K hK)
        refine ⟨l.length - (j + 1), _, _, by omega, ?_, i, j + 1, xs, rfl, by omega, by omega, hxl, ?_, ?_, rfl, hHH⟩
        · rw [hHH]
          refine Ent.gcSet _ hE (rowsK_lt _ _ _) ?_ ?_
          · simp only [le, ↓reduceIte, Nat.reduceEqDiff, and_true]; repeat' (first | exact trivial | exact D.le_refl _ | exact D.le_any _ | with_reducible refine And.intro ?_ ?_)
          · exact ⟨by simp only [D.lt], by simp only [D.lt], by simp only [D.lt]; exact hcaps, by simp only [D.lt]; exact hlt, trivial⟩
        · rw [et, List.filter_append, hxt]
          simp at hb'
          simp [hb']
        · have := congrArg (List.drop 1) hxd
          simpa [List.drop_drop, Nat.add_comm] using this
    simp at hd
    obtain rfl : j = l.length := by omega
    rw [List.take_length] at hxt
    have hlen : i = (l.filter fun x => !q x).length := by rw [← hxt]; simp; omega
    have hdone : ∀ (xs' : List (List D)), xs'.take i = ((l.filter fun x => !q x).map cV).map (·.map .v) → ∀ ts, look ts 4 = .own b ver i → Fin E (fr 42 ts) (H.set b (.arr ver 3 xs' 0)) [4] K := fun xs' hx' ts hts => by
      refine Fin.pubAt b ver 3 i ((l.filter fun x => !q x).map cV) (by decide) hts (List.getElem?_set_self (by omega)) hx' (by rw [List.length_map, ← hlen]) (fun H' h1 h2 => hK H' (by rw [h1]; simp [hl1]) (fun k hk => by rw [h2 k hk, List.getElem?_set_ne (fun e => hk e.symm)]; exact hoth k hk))
    have hrt : (rowsK xs).take i = ((l.filter fun x => !q x).map cV).map (·.map .v) := by
      rw [← hxt, ← rowsK_v, rowsK, rowsK, List.map_take]
    have gs : ∀ o, (H.set b o)[b]? = some o := fun o => List.getElem?_set_self (by omega)
    have hsg : ∀ rows : List (List D), (seg (rowsK xs) i rows).take i = (rowsK xs).take i := fun rows => by
      rw [seg, List.append_assoc, List.take_append_of_le_length (by simp [rowsK_len]; omega), List.take_take, Nat.min_self]
    by_cases hi1 : i = 0
    · (refine W0 (c4 t3 t24 t46 @hb1) ?_; try with_reducible intro K hK)
      rw [if_pos (by omega)]
      unfold aClear
      simp only [tk_24, ze_46, hb1]
      refine ⟨rfl, rfl, trivial, trivial, trivial, by rw [rowsK_len]; omega, hK _ _ ?_⟩
      clear hK K; simp only [lp]
      (refine W0 (c4 t3 t24 t46 @gs) ?_; try with_reducible intro K hK)
      rw [hi1] at hsg hdone ⊢
      exact hdone _ (by rw [hsg]; rw [hi1] at hrt; exact hrt) _ rfl
    · (refine W0 (c4 t3 t24 t46 @hb1) ?_; try with_reducible intro K hK)
      rw [if_neg (by omega)]
      unfold aClear
      simp only [tk_24, ze_46, hb1]
      refine ⟨rfl, rfl, trivial, trivial, trivial, Nat.zero_le _, by rw [rowsK_len]; omega, hK _ _ ?_⟩
      clear hK K; simp only [lp]
      (refine W0 (c4 t3 t24 t46 @gs) ?_; try with_reducible intro K hK)
      exact hdone _ (by rw [hsg]; exact hrt) _ rfl
end Go.Ag
namespace Go.Ag
open Go Go.Proofs
variable {G : Nat → Option (List V)}
attribute [local irreducible] aops qops Sat aop

theorem ck73 : ckOf Tryz.prog 20 37 = some [.s, .s] := by kernel_rfl
theorem eg73 : Tryz.prog.eqGuardType Tryz.prog.depth 37 = false := by kernel_rfl
theorem ft73 (x : Slv) : fits [.s, .s] [.str x.name, .str x.link] = true := rfl
theorem ev73 (x : Slv) : eqVs [.str x.name, .str x.link] [.str x.name, .str x.link] = true := by simp [eqVs, eqV]

set_option maxHeartbeats 16000000 in
theorem spec_SameOne (x : Alt) (hs : x.slaves.length ≤ 1099511627776) (hl : x.choices.length ≤ 1099511627776) (hk : ∀ c ∈ x.choices, c.slaves.length ≤ 1099511627776) (H : List Ob) (K : D → List Ob → Prop) (hK : K (.v (.bool true)) H) : ACalls Tryz.prog G 27 [altd x, altd x] H K := by
  refine ACalls.go Tryz.f27 _ 120 [4] Tryz.func27 rfl Tryz.ntmps27 (by kernel_rfl) rfl (by simp) (fun E hE hP hG hH => ?_)
  have hM : E.P.follows .mixedOrders = true := hP ▸ mixed
  subst hH
  simp only [args0, altd]
  (refine W0 (c8 @altB.eq_def @altV.eq_def t3 t4 t9 t26 t23 t24) ?_; try with_reducible intro K hK)
  refine sat_thru (fr 120 [(50, .v (.bool false)), (4, .v (.bool false)), (3, .ptr (E.H0.length + 1) 0), (2, .ptr E.H0.length 0)]) (E.H0 ++ [altB x, altB x]) ?_ ?_
  · (first | refine wr ?_ | refine wp rfl hM ?_ | refine wq hM ?_); repeat' (first | (refine G0 (c11 @altB.eq_def @altV.eq_def @slvs.eq_def @chos.eq_def t3 t4 t9 t26 t23 t24 @bne_self_eq_false.{0}) ?_; try with_reducible intro K hK) | ((first | refine Xs rfl rfl (by decide) rfl (fun h => ?_) fun h => ?_ | refine Ys rfl rfl (by decide) rfl (fun h => ?_) fun h => ?_ | refine Zs rfl rfl rfl (by decide) rfl (fun h => ?_) fun h => ?_); rotate_left; (focus (simp only [Bool.not_true, Bool.not_false, lp])); rotate_left))
    refine .weakFr ?_
    simp only [le, ↓reduceIte, Nat.reduceEqDiff, and_true]; repeat' (first | exact trivial | exact D.le_refl _ | exact D.le_any _ | with_reducible refine And.intro ?_ ?_)
  refine sat_cond rfl (fun hb => ?_) (fun hb => ?_)
  · exact absurd hb (by decide)
  (refine W0 (c8 @altB.eq_def @altV.eq_def t3 t4 t9 t26 t23 t24) ?_; try with_reducible intro K hK)
  refine sat_loop_ent (fun n ts H => ∃ (i : Nat), n = x.slaves.length - i ∧ i ≤ x.slaves.length ∧
    ts = fr 120 [(5, .v (.int .i64 i)), (4, .v (.bool false)), (3, .ptr (E.H0.length + 1) 0), (2, .ptr E.H0.length 0)] ∧ H = E.H0 ++ [altB x, altB x]) (x.slaves.length) (.weakFr ?_) ⟨0, rfl, Nat.zero_le _, rfl, rfl⟩ ?_
  · simp only [le, ↓reduceIte, Nat.reduceEqDiff, and_true]; repeat' (first | exact trivial | exact D.le_refl _ | exact D.le_any _ | with_reducible refine And.intro ?_ ?_)
  rintro n ts H ⟨i, rfl, hi, rfl, rfl⟩
  (refine W0 (c9 @altB.eq_def @altV.eq_def @slvs.eq_def t3 t4 t9 t26 t23 t24) ?_; try with_reducible intro K hK)
  refine sat_cond rfl (fun hc => ?_) (fun hc => ?_)
  · simp at hc
    obtain ⟨s, hx⟩ : ∃ s, x.slaves[i]? = some s := ⟨_, List.getElem?_eq_getElem hc⟩
    have hw := wrap_succ (i := i) (by omega)
    (refine W0 (c16 @altB.eq_def @altV.eq_def @slvs.eq_def t3 t9 t26 t23 t37 @hc @hx @aEq.eq_def @ck73 @eg73 @ft73 @ev73 @Option.isSome_some.{0}) ?_; try with_reducible intro K hK)
    refine sat_cond rfl (fun hb => ?_) (fun hb => ?_)
    · exact absurd hb (by decide)
    (refine W0 @hw ?_; try with_reducible intro K hK)
    refine ⟨x.slaves.length - (i + 1), _, _, by omega, .weakFr ?_, i + 1, rfl, by omega, rfl, rfl⟩
    simp only [le, ↓reduceIte, Nat.reduceEqDiff, and_true]; repeat' (first | exact trivial | exact D.le_refl _ | exact D.le_any _ | with_reducible refine And.intro ?_ ?_)
  (refine W0 (c9 @altB.eq_def @altV.eq_def @chos.eq_def t3 t4 t9 t26 t23 t24) ?_; try with_reducible intro K hK)
  refine sat_loop_ent (fun n ts H => ∃ (i : Nat), n = x.choices.length - i ∧ i ≤ x.choices.length ∧
    ts = fr 120 [(6, .v (.int .i64 i)), (4, .v (.bool false)), (3, .ptr (E.H0.length + 1) 0), (2, .ptr E.H0.length 0)] ∧ H = E.H0 ++ [altB x, altB x]) (x.choices.length) (.weakFr ?_) ⟨0, rfl, Nat.zero_le _, rfl, rfl⟩ ?_
  · simp only [le, ↓reduceIte, Nat.reduceEqDiff, and_true]; repeat' (first | exact trivial | exact D.le_refl _ | exact D.le_any _ | with_reducible refine And.intro ?_ ?_)
  rintro n ts H ⟨i, rfl, hi, rfl, rfl⟩
  (refine W0 (c9 @altB.eq_def @altV.eq_def @chos.eq_def t3 t4 t9 t26 t23 t24) ?_; try with_reducible intro K hK)
  refine sat_cond rfl (fun hc => ?_) (fun hc => ?_)
  · simp at hc
    obtain ⟨c, hx⟩ : ∃ s, x.choices[i]? = some s := ⟨_, List.getElem?_eq_getElem hc⟩
    have hw := wrap_succ (i := i) (by omega)
    have hcs := hk c (List.mem_of_getElem? hx)
    (refine W0 trivial ?_; try with_reducible intro K hK)
    refine sat_thru (fr 120 [(119, .v (.bool false)), (6, .v (.int .i64 i)), (4, .v (.bool false)), (3, .ptr (E.H0.length + 1) 0), (2, .ptr E.H0.length 0)]) (E.H0 ++ [altB x, altB x]) ?_ ?_
    · (first | refine wr ?_ | refine wp rfl hM ?_ | refine wq hM ?_); repeat' (first | (refine G0 (c14 @altB.eq_def @altV.eq_def @chos.eq_def @strs.eq_def t3 t4 t9 t26 t24 t46 t44 @bne_self_eq_false.{0} @hc @hx) ?_; try with_reducible intro K hK) | ((first | refine Xs rfl rfl (by decide) rfl (fun h => ?_) fun h => ?_ | refine Ys rfl rfl (by decide) rfl (fun h => ?_) fun h => ?_ | refine Zs rfl rfl rfl (by decide) rfl (fun h => ?_) fun h => ?_); rotate_left; (focus (simp only [Bool.not_true, Bool.not_false, lp])); rotate_left))
      refine ⟨_, spec_Same2 c.slaves c.slaves hcs _ _ ⟨rfl, rfl⟩, hK _ ?_⟩
      clear hK K; simp only [lp]
      repeat' (first | (refine G0 (c11 @altB.eq_def @altV.eq_def @chos.eq_def t3 t4 t9 t26 t24 t46 t44 @beq_self_eq_true.{0}) ?_; try with_reducible intro K hK) | ((first | refine Xs rfl rfl (by decide) rfl (fun h => ?_) fun h => ?_ | refine Ys rfl rfl (by decide) rfl (fun h => ?_) fun h => ?_ | refine Zs rfl rfl rfl (by decide) rfl (fun h => ?_) fun h => ?_); rotate_left; (focus (simp only [Bool.not_true, Bool.not_false, lp])); rotate_left))
      refine .weakFr ?_
      simp only [le, ↓reduceIte, Nat.reduceEqDiff, and_true]; repeat' (first | exact trivial | exact D.le_refl _ | exact D.le_any _ | with_reducible refine And.intro ?_ ?_)
    refine sat_cond rfl (fun hb => ?_) (fun hb => ?_)
    · exact absurd hb (by decide)
    (refine W0 @hw ?_; try with_reducible intro K hK)
    refine ⟨x.choices.length - (i + 1), _, _, by omega, .weakFr ?_, i + 1, rfl, by omega, rfl, rfl⟩
    simp only [le, ↓reduceIte, Nat.reduceEqDiff, and_true]; repeat' (first | exact trivial | exact D.le_refl _ | exact D.le_any _ | with_reducible refine And.intro ?_ ?_)
  (refine W0 trivial ?_; try with_reducible intro K hK)
  exact Fin.gc _ hE (by decide) rfl trivial hK
end Go.Ag
namespace Go.Ag
open Go Go.Proofs
variable {G : Nat → Option (List V)}
attribute [local irreducible] aops qops Sat aop

set_option maxHeartbeats 4000000 in
theorem spec_DeleteFuncN (f : FuncId) (caps : List D) (H : List Ob) (K : D → List Ob → Prop) (hK : K .nils H) : ACalls Tryz.prog G 33 [.nils, .fn f caps] H K := by
  refine ACalls.go Tryz.f33 _ 42 [4] Tryz.func33 rfl Tryz.ntmps33 (by kernel_rfl) rfl (by simp) (fun E hE hP hG hH => ?_)
  have hM : E.P.follows .mixedOrders = true := hP ▸ mixed
  subst hH
  simp only [args0]
  (refine W0 (c4 t3 t9 t22 t26) ?_; try with_reducible intro K hK)
  refine ACalls.ent (args' := [.v (altsV []), .fn f caps]) (fun E' => Ent.weak ⟨D.le_nils 6, D.le_refl _, trivial⟩) (spec_IndexFuncA [] f caps (fun _ => false) (by decide) _ (fun c hc => by cases hc) _ (hK _ _ ?_))
  clear hK K; simp only [lp]
  have e0 : idxA [] (fun _ => false) = -1 := rfl
  rw [e0]
  (refine W0 (c4 t3 t9 t22 t26) ?_; try with_reducible intro K hK)
  refine sat_cond rfl (fun hc => ?_) (fun hc => ?_)
  · (refine W0 trivial ?_; try with_reducible intro K hK)
    exact Fin.is .nils (by decide) rfl hK
  · exact absurd hc (by decide)
def dropA (l : List Alt) (p : Str) : List Alt := l.filter fun x => !(x.name == p)
set_option maxHeartbeats 8000000 in
theorem spec_Drop (l : List Alt) (p : Str) (hl : l.length ≤ 1000000) (H : List Ob) (K : D → List Ob → Prop) (hK : K (.v (altsV (dropA l p))) H) : ACalls Tryz.prog G 10 [.v (altsV l), .v (.str p)] H K := by
  refine ACalls.go Tryz.f10 _ 9 [4] Tryz.func10 rfl Tryz.ntmps10 (by kernel_rfl) rfl (by simp) (fun E hE hP hG hH => ?_)
  have hM : E.P.follows .mixedOrders = true := hP ▸ mixed
  subst hH
  simp only [args0]
  (refine W0 (c2 t9 t22) ?_; try with_reducible intro K hK)
  refine spec_CloneA l hl _ _ (fun d L hd => hK _ _ ?_)
  clear hK K; simp only [lp]
  rcases hd with ⟨rfl, rfl, rfl⟩ | ⟨ver, hv, rfl, rfl⟩
  · (refine W0 (c2 t9 t22) ?_; try with_reducible intro K hK)
    refine spec_DeleteFuncN 34 _ _ _ (hK _ _ ?_)
    clear hK K; simp only [lp]
    (refine W0 trivial ?_; try with_reducible intro K hK)
    exact Fin.gcle (.v (altsV [])) hE (by decide) (D.le_nils 6) (by simp only [D.lt]) hK
  · (refine W0 (c2 t9 t22) ?_; try with_reducible intro K hK)
    refine spec_DeleteFunc l (E.H0.length + 1) ver 34 [.ptr E.H0.length 0] (fun c => c.name == p) (by omega) _ (by rw [hp_get]; rfl) (fun c hc H' K hfr hK => spec_dropIs c p _ _ (by rw [hfr E.H0.length (by simp) (by omega), hp_get0]; rfl) K hK) (by simp [D.ltL, D.lt]) _ (fun H' h1 h2 => hK _ _ ?_)
    clear hK K; simp only [lp]
    (refine W0 trivial ?_; try with_reducible intro K hK)
    exact Fin.gcAny (.v (altsV (dropA l p))) hE (by decide) rfl (by simp only [D.lt]) (by rw [h1]; simp) (fun i hi => by rw [h2 i (by omega), List.getElem?_append_left hi]) hK

set_option maxHeartbeats 8000000 in
theorem spec_rSameA (l : List Alt) (hl : l.length ≤ 1099511627) (hs : ∀ x ∈ l, x.slaves.length ≤ 1099511627776 ∧ x.choices.length ≤ 1099511627776 ∧ ∀ c ∈ x.choices, c.slaves.length ≤ 1099511627776) (H : List Ob) (K : D → List Ob → Prop) (hK : K (.v (.bool true)) H) : ACalls Tryz.prog G 11 [.v (altsV l), .v (altsV l)] H K := by
  refine ACalls.go Tryz.f11 _ 27 [4] Tryz.func11 rfl Tryz.ntmps11 (by kernel_rfl) rfl (by simp) (fun E hE hP hG hH => ?_)
  have hM : E.P.follows .mixedOrders = true := hP ▸ mixed
  subst hH
  simp only [args0]
  (refine W0 (c5 @altsV.eq_def t3 t9 t22 @bne_self_eq_false.{0}) ?_; try with_reducible intro K hK)
  refine sat_cond rfl (fun hc => ?_) (fun hc => ?_)
  · exact absurd hc (by decide)
  (refine W0 trivial ?_; try with_reducible intro K hK)
  refine sat_loop_ent (fun n ts H => ∃ (i : Nat), n = l.length - i ∧ i ≤ l.length ∧
    ts = fr 27 [(5, .v (.int .i64 i)), (4, .v (.bool false)), (1, .v (altsV l)), (0, .v (altsV l))] ∧ H = E.H0) (l.length) (.weakFr ?_) ⟨0, rfl, Nat.zero_le _, rfl, rfl⟩ ?_
  · simp only [le, ↓reduceIte, Nat.reduceEqDiff, and_true]; repeat' (first | exact trivial | exact D.le_refl _ | exact D.le_any _ | with_reducible refine And.intro ?_ ?_)
  rintro n ts H ⟨i, rfl, hi, rfl, rfl⟩
  (refine W0 (c4 @altsV.eq_def t3 t9 t22) ?_; try with_reducible intro K hK)
  refine sat_cond rfl (fun hc => ?_) (fun hc => ?_)
  · simp at hc
    obtain ⟨x, hx⟩ : ∃ x, l[i]? = some x := ⟨_, List.getElem?_eq_getElem hc⟩
    obtain ⟨s1, s2, s3⟩ := hs x (List.mem_of_getElem? hx)
    have hw := wrap_succ (i := i) (by omega)
    (refine W0 (c8 @altsV.eq_def @altV.eq_def t3 t9 t22 t26 @hc @hx) ?_; try with_reducible intro K hK)
    refine ⟨_, spec_SameOne x s1 s2 s3 _ _ ⟨rfl, rfl⟩, hK _ ?_⟩
    clear hK K; simp only [lp]
    (refine W0 trivial ?_; try with_reducible intro K hK)
    refine sat_cond rfl (fun hb => ?_) (fun hb => ?_)
    · exact absurd hb (by decide)
    (refine W0 (c2 t3 @hw) ?_; try with_reducible intro K hK)
    refine ⟨l.length - (i + 1), _, _, by omega, .weakFr ?_, i + 1, rfl, by omega, rfl, rfl⟩
    simp only [le, ↓reduceIte, Nat.reduceEqDiff, and_true]; repeat' (first | exact trivial | exact D.le_refl _ | exact D.le_any _ | with_reducible refine And.intro ?_ ?_)
  (refine W0 trivial ?_; try with_reducible intro K hK)
  exact Fin.is _ (by decide) rfl hK

set_option maxHeartbeats 8000000 in
theorem spec_rDrop (l : List Alt) (p : Str) (hl : l.length ≤ 1000000) (H : List Ob) (K : D → List Ob → Prop) (hK : K (.v (altsV (dropA l p))) H) : ACalls Tryz.prog G 13 [.v (altsV l), .v (.str p)] H K := by
  refine ACalls.go Tryz.f13 _ 28 [4] Tryz.func13 rfl Tryz.ntmps13 (by kernel_rfl) rfl (by simp) (fun E hE hP hG hH => ?_)
  have hM : E.P.follows .mixedOrders = true := hP ▸ mixed
  subst hH
  simp only [args0]
  (refine W0 (c4 @altsV.eq_def t3 t9 t22) ?_; try with_reducible intro K hK)
  refine sat_loop_ent (fun n ts H => ∃ (i : Nat) (d : D) (L : List Ob), n = l.length - i ∧ i ≤ l.length ∧ Acc E 1 6 ((dropA (l.take i) p).map altV) d L ∧
    ts = fr 28 [(6, .v (.int .i64 i)), (5, d), (1, .v (.str p)), (0, .v (altsV l))] ∧ H = E.H0 ++ L) (l.length) (.weakFr ?_) ⟨0, _, [], rfl, Nat.zero_le _, Acc.start 1 6, rfl, (List.append_nil _).symm⟩ ?_
  · simp only [le, ↓reduceIte, Nat.reduceEqDiff, and_true]; repeat' (first | exact trivial | exact D.le_refl _ | exact D.le_any _ | with_reducible refine And.intro ?_ ?_)
  rintro n ts H ⟨i, d, L, rfl, hi, hA, rfl, rfl⟩
  (refine W0 (c4 @altsV.eq_def t3 t9 t22) ?_; try with_reducible intro K hK)
  refine sat_cond rfl (fun hc => ?_) (fun hc => ?_)
  · simp at hc
    obtain ⟨x, hx⟩ : ∃ x, l[i]? = some x := ⟨_, List.getElem?_eq_getElem hc⟩
    have hw := wrap_succ (i := i) (by omega)
    (refine W0 (c8 @altsV.eq_def @altV.eq_def t3 t9 t22 t26 @hc @hx) ?_; try with_reducible intro K hK)
    have et : l.take (i + 1) = l.take i ++ [x] := take_snoc hx
    refine sat_cond rfl (fun hb => ?_) (fun hb => ?_)
    · have hlen : (dropA (l.take i) p).length ≤ i := Nat.le_trans (List.length_filter_le _ _) (by simp; omega)
      have e : (dropA (l.take (i + 1)) p).map altV = (dropA (l.take i) p).map altV ++ [altV x] := by
        rw [et, dropA, dropA, List.filter_append, List.map_append]
        simp at hb
        simp [hb]
      rcases hA with ⟨h0, rfl, rfl⟩ | ⟨ver, hv, rfl, rfl⟩
      · (refine W0 (c9 @altsV.eq_def @altV.eq_def t3 t9 t22 t26 @hc @hx @hw) ?_; try with_reducible intro K hK)
        refine ⟨l.length - (i + 1), _, _, by omega, ?_, i + 1, .own (E.H0.length + 1) 1 1, [.dead, .arr 1 6 [(altV x).map .v] 0], rfl, by omega, .inr ⟨1, Nat.le_refl _, by rw [e, h0]; rfl, by rw [e, h0]; rfl⟩, rfl, rfl⟩
        refine Ent.trip hE ?_ ?_ ?_ ?_
        · simp only [le, ↓reduceIte, Nat.reduceEqDiff, and_true]; repeat' (first | exact trivial | exact D.le_refl _ | exact D.le_any _ | with_reducible refine And.intro ?_ ?_)
        · simp [leObs_cons, leObs_nil, altV]
        · simp [ltAll, ltObs, Ob.lt, D.lt, D.ltL, or_imp, forall_and]
        · refine ⟨trivial, ?_, trivial⟩
          exact rowsA_lt _ _ [x]
      · (refine W0 (c9 @altsV.eq_def @altV.eq_def t3 t9 t22 t26 @hc @hx @hw) ?_; try with_reducible intro K hK)
        refine ⟨l.length - (i + 1), _, _, by omega, ?_, i + 1, .own (E.H0.length + 1) (ver + 1) ((dropA (l.take i) p).length + 1), [.dead, .arr (ver + 1) 6 (((dropA (l.take (i + 1)) p).map altV).map (·.map .v)) 0], rfl, by omega, .inr ⟨ver + 1, by omega, by rw [e]; simp, rfl⟩, rfl, rfl⟩
        refine Ent.trip hE ?_ ?_ ?_ ?_
        · simp only [le, ↓reduceIte, Nat.reduceEqDiff, and_true]; repeat' (first | exact trivial | exact D.le_refl _ | exact D.le_any _ | with_reducible refine And.intro ?_ ?_)
        · rw [e]; simp [leObs_cons, leObs_nil, altV]; exact List.take_of_length_le (by simp)
        · simp [ltAll, ltObs, Ob.lt, D.lt, D.ltL, or_imp, forall_and]
        · exact ⟨trivial, ltRows _ _, trivial⟩
    · (refine W0 (c2 @hw t3) ?_; try with_reducible intro K hK)
      have e : dropA (l.take (i + 1)) p = dropA (l.take i) p := by
        rw [et, dropA, dropA, List.filter_append]
        simp at hb
        simp [hb]
      refine ⟨l.length - (i + 1), _, _, by omega, .weakFr ?_, i + 1, d, L, rfl, by omega, by rw [e]; exact hA, rfl, rfl⟩
      simp only [le, ↓reduceIte, Nat.reduceEqDiff, and_true]; repeat' (first | exact trivial | exact D.le_refl _ | exact D.le_any _ | with_reducible refine And.intro ?_ ?_)
  · simp at hc
    (refine W0 trivial ?_; try with_reducible intro K hK)
    have e : l.take i = l := List.take_of_length_le (by omega)
    rw [e] at hA
    exact Fin.acc d hA hE (by decide) rfl hK
end Go.Ag
namespace Go.Ag
open Go Go.Proofs
variable {G : Nat → Option (List V)}
attribute [local irreducible] aops qops Sat aop

def gtA (x y : Alt) : Bool := gtS y.name x.name
def rPutStep (l : List Alt) (x : Alt) (i : Nat) (y : Alt) (s : List Alt × Bool) : List Alt × Bool :=
  ((if !s.2 && gtA x y then s.1 ++ [x] else s.1) ++ [if (i : Int) == findA l x.name then x else y], s.2 || gtA x y)
def rPutN (l : List Alt) (x : Alt) : Nat → List Alt × Bool
  | 0 => ([], decide (findA l x.name ≥ 0))
  | i + 1 => match l[i]? with
    | some y => rPutStep l x i y (rPutN l x i)
    | none => rPutN l x i
def rPutR (l : List Alt) (x : Alt) : List Alt := if !(rPutN l x l.length).2 then (rPutN l x l.length).1 ++ [x] else (rPutN l x l.length).1
theorem rPut_len (l : List Alt) (x : Alt) : ∀ i, (rPutN l x i).1.length ≤ 2 * i
  | 0 => by simp [rPutN]
  | i + 1 => by
    have := rPut_len l x i
    unfold rPutN
    split
    · simp only [rPutStep, List.length_append, List.length_cons, List.length_nil]
      split <;> simp <;> omega
    · omega
theorem rowsA_take (l : List Alt) : (rowsA l).take l.length = rowsA l := List.take_of_length_le (by simp [rowsA])
/-- A gathered list behind a box. -/
def AccB (E : Env) (out : List Alt) (d : D) (L : List Ob) : Prop := (out = [] ∧ d = .nils ∧ L = []) ∨ ∃ ver, 1 ≤ ver ∧ out ≠ [] ∧ d = .own (E.H0.length + 2) ver out.length ∧ L = [.dead, .arr ver 6 (rowsA out) 0]

set_option maxRecDepth 20000 in
set_option maxHeartbeats 16000000 in
theorem spec_rPut (l : List Alt) (x : Alt) (hl : l.length ≤ 1000000) (H : List Ob) (K : D → List Ob → Prop) (hK : K (.v (altsV (rPutR l x))) H) : ACalls Tryz.prog G 12 [.v (altsV l), altd x] H K := by
  refine ACalls.go Tryz.f12 _ 58 [4] Tryz.func12 rfl Tryz.ntmps12 (by kernel_rfl) rfl (by simp) (fun E hE hP hG hH => ?_)
  have hM : E.P.follows .mixedOrders = true := hP ▸ mixed
  subst hH
  simp only [args0, altd]
  (refine W0 (c6 @altB.eq_def @altV.eq_def t3 t9 t22 t26) ?_; try with_reducible intro K hK)
  refine spec_rFind l x.name (by omega) _ _ (hK _ _ ?_)
  clear hK K; simp only [lp]
  (refine W0 (c4 t3 t9 t22 t26) ?_; try with_reducible intro K hK)
  refine sat_loop_ent (fun n ts H => ∃ (i : Nat) (d : D) (L : List Ob), n = l.length - i ∧ i ≤ l.length ∧ AccB E (rPutN l x i).1 d L ∧
    ts = fr 58 [(8, .v (.int .i64 i)), (7, .v (.bool (rPutN l x i).2)), (6, .v (.int .i64 (findA l x.name))), (5, d), (3, .ptr E.H0.length 0), (0, .v (altsV l))] ∧ H = E.H0 ++ (altB x :: L)) (l.length) (.weakFr ?_) ⟨0, .nils, [], rfl, Nat.zero_le _, .inl ⟨rfl, rfl, rfl⟩, rfl, rfl⟩ ?_
  · simp only [le, ↓reduceIte, Nat.reduceEqDiff, and_true]; repeat' (first | exact trivial | exact D.le_refl _ | exact D.le_any _ | with_reducible refine And.intro ?_ ?_)
  rintro n ts H ⟨i, d, L, rfl, hi, hA, rfl, rfl⟩
  have hlen := rPut_len l x i
  (refine W0 (c4 @altsV.eq_def t3 t9 t22) ?_; try with_reducible intro K hK)
  refine sat_cond rfl (fun hc => ?_) (fun hc => ?_)
  · simp at hc
    obtain ⟨y, hy⟩ : ∃ y, l[i]? = some y := ⟨_, List.getElem?_eq_getElem hc⟩
    have hw := wrap_succ (i := i) (by omega)
    have hst : rPutN l x (i + 1) = rPutStep l x i y (rPutN l x i) := by rw [rPutN, hy]
    (refine W0 trivial ?_; try with_reducible intro K hK)
    refine sat_thru (fr 58 [(32, .v (.bool (!(rPutN l x i).2 && gtA x y))), (8, .v (.int .i64 i)), (7, .v (.bool (rPutN l x i).2)), (6, .v (.int .i64 (findA l x.name))), (5, d), (3, .ptr E.H0.length 0), (0, .v (altsV l))]) (E.H0 ++ (altB x :: L)) ?_ ?_
    · (first | refine wr ?_ | refine wp rfl hM ?_ | refine wq hM ?_); repeat' (first | (refine G0 (c10 @altB.eq_def @altV.eq_def @altsV.eq_def t3 t4 t9 t22 t26 @hc @hy) ?_; try with_reducible intro K hK) | ((first | refine Xs rfl rfl (by decide) rfl (fun h => ?_) fun h => ?_ | refine Ys rfl rfl (by decide) rfl (fun h => ?_) fun h => ?_ | refine Zs rfl rfl rfl (by decide) rfl (fun h => ?_) fun h => ?_); rotate_left; (focus (simp only [Bool.not_true, Bool.not_false, lp])); rotate_left))
      all_goals refine .weakFr ?_
      all_goals simp only [le, ↓reduceIte, Nat.reduceEqDiff, and_true]; repeat' (first | exact trivial | exact D.le_refl _ | exact D.le_any _ | with_reducible refine And.intro ?_ ?_)
      all_goals clear hA
      all_goals refine D.le_eq (congrArg D.v (congrArg V.bool ?_)); (try simp only [Bool.not_eq_eq_eq_not, Bool.not_true, Bool.not_false] at *); simp only [*, List.getD_eq_getElem?_getD, Bool.and_true, Bool.true_and, Bool.and_false, Bool.false_and, Bool.or_true, Bool.true_or, Bool.or_false, Bool.false_or, Bool.not_true, Bool.not_false, Bool.not_not, gtA, gtS]
    generalize hs : rPutN l x i = s at *
    obtain ⟨out, put⟩ := s
    simp only at hlen hA hst ⊢
    refine sat_cond rfl (fun hb => ?_) (fun hb => ?_)
    · have hp : (put || gtA x y) = true := by revert hb; cases put <;> cases gtA x y <;> simp
      rcases hA with ⟨rfl, rfl, rfl⟩ | ⟨ver, hv, hne, rfl, rfl⟩
      · (refine W0 (c10 @altB.eq_def @altV.eq_def @altsV.eq_def t3 t4 t9 t22 t26 @rowsA_len @rowsA_take) ?_; try with_reducible intro K hK)
        refine sat_cond rfl (fun he => ?_) (fun he => ?_)
        · (refine W0 (c13 @altB.eq_def @altV.eq_def @altsV.eq_def t3 t4 t9 t22 t26 @rowsA_len @rowsA_take @hc @hy @hw) ?_; try with_reducible intro K hK)
          have e1 : rPutN l x (i + 1) = (([] : List Alt) ++ [x] ++ [x], put || gtA x y) := by rw [hst, rPutStep]; simp only [hb, he, if_true, if_false, Bool.false_eq_true]
          rw [hp] at e1
          refine ⟨l.length - (i + 1), _, _, by omega, ?_, i + 1, .own (E.H0.length + 2) 2 (([] : List Alt) ++ [x] ++ [x]).length, [.dead, .arr 2 6 (rowsA (([] : List Alt) ++ [x] ++ [x])) 0], rfl, by omega, .inr ⟨2, by omega, by rw [e1]; simp, by rw [e1], by rw [e1]⟩, by rw [e1], rfl⟩
          refine Ent.trip hE ?_ ?_ ?_ ?_
          · simp only [le, ↓reduceIte, Nat.reduceEqDiff, and_true]; repeat' (first | exact trivial | exact D.le_refl _ | exact D.le_any _ | with_reducible refine And.intro ?_ ?_)
            all_goals simp [D.le_refl]
          · simp [leObs_cons, leObs_nil, rowsA, altB, altV]
            try (rw [List.take_of_length_le (by simp)]; simp)
          · simp [ltAll, ltObs, Ob.lt, D.lt, D.ltL, or_imp, forall_and]
          · exact ⟨(altB_lt _ _).1, trivial, rowsA_lt _ _ _, trivial⟩
        · (refine W0 (c13 @altB.eq_def @altV.eq_def @altsV.eq_def t3 t4 t9 t22 t26 @rowsA_len @rowsA_take @hc @hy @hw) ?_; try with_reducible intro K hK)
          have e1 : rPutN l x (i + 1) = (([] : List Alt) ++ [x] ++ [y], put || gtA x y) := by rw [hst, rPutStep]; simp only [hb, he, if_true, if_false, Bool.false_eq_true]
          rw [hp] at e1
          refine ⟨l.length - (i + 1), _, _, by omega, ?_, i + 1, .own (E.H0.length + 2) 2 (([] : List Alt) ++ [x] ++ [y]).length, [.dead, .arr 2 6 (rowsA (([] : List Alt) ++ [x] ++ [y])) 0], rfl, by omega, .inr ⟨2, by omega, by rw [e1]; simp, by rw [e1], by rw [e1]⟩, by rw [e1], rfl⟩
          refine Ent.trip hE ?_ ?_ ?_ ?_
          · simp only [le, ↓reduceIte, Nat.reduceEqDiff, and_true]; repeat' (first | exact trivial | exact D.le_refl _ | exact D.le_any _ | with_reducible refine And.intro ?_ ?_)
            all_goals simp [D.le_refl]
          · simp [leObs_cons, leObs_nil, rowsA, altB, altV]
            try (rw [List.take_of_length_le (by simp)]; simp)
          · simp [ltAll, ltObs, Ob.lt, D.lt, D.ltL, or_imp, forall_and]
          · exact ⟨(altB_lt _ _).1, trivial, rowsA_lt _ _ _, trivial⟩
      · (refine W0 (c10 @altB.eq_def @altV.eq_def @altsV.eq_def t3 t4 t9 t22 t26 @rowsA_len @rowsA_take) ?_; try with_reducible intro K hK)
        refine sat_cond rfl (fun he => ?_) (fun he => ?_)
        · (refine W0 (c13 @altB.eq_def @altV.eq_def @altsV.eq_def t3 t4 t9 t22 t26 @rowsA_len @rowsA_take @hc @hy @hw) ?_; try with_reducible intro K hK)
          have e1 : rPutN l x (i + 1) = (out ++ [x] ++ [x], put || gtA x y) := by rw [hst, rPutStep]; simp only [hb, he, if_true, if_false, Bool.false_eq_true]
          rw [hp] at e1
          refine ⟨l.length - (i + 1), _, _, by omega, ?_, i + 1, .own (E.H0.length + 2) (ver + 1 + 1) (out ++ [x] ++ [x]).length, [.dead, .arr (ver + 1 + 1) 6 (rowsA (out ++ [x] ++ [x])) 0], rfl, by omega, .inr ⟨(ver + 1 + 1), by omega, by rw [e1]; simp, by rw [e1], by rw [e1]⟩, by rw [e1], rfl⟩
          refine Ent.trip hE ?_ ?_ ?_ ?_
          · simp only [le, ↓reduceIte, Nat.reduceEqDiff, and_true]; repeat' (first | exact trivial | exact D.le_refl _ | exact D.le_any _ | with_reducible refine And.intro ?_ ?_)
            all_goals simp [D.le_refl]
          · simp [leObs_cons, leObs_nil, rowsA, altB, altV]
            try (rw [List.take_of_length_le (by simp)]; simp)
          · simp [ltAll, ltObs, Ob.lt, D.lt, D.ltL, or_imp, forall_and]
          · exact ⟨(altB_lt _ _).1, trivial, rowsA_lt _ _ _, trivial⟩
        · (refine W0 (c13 @altB.eq_def @altV.eq_def @altsV.eq_def t3 t4 t9 t22 t26 @rowsA_len @rowsA_take @hc @hy @hw) ?_; try with_reducible intro K hK)
          have e1 : rPutN l x (i + 1) = (out ++ [x] ++ [y], put || gtA x y) := by rw [hst, rPutStep]; simp only [hb, he, if_true, if_false, Bool.false_eq_true]
          rw [hp] at e1
          refine ⟨l.length - (i + 1), _, _, by omega, ?_, i + 1, .own (E.H0.length + 2) (ver + 1 + 1) (out ++ [x] ++ [y]).length, [.dead, .arr (ver + 1 + 1) 6 (rowsA (out ++ [x] ++ [y])) 0], rfl, by omega, .inr ⟨(ver + 1 + 1), by omega, by rw [e1]; simp, by rw [e1], by rw [e1]⟩, by rw [e1], rfl⟩
          refine Ent.trip hE ?_ ?_ ?_ ?_
          · simp only [le, ↓reduceIte, Nat.reduceEqDiff, and_true]; repeat' (first | exact trivial | exact D.le_refl _ | exact D.le_any _ | with_reducible refine And.intro ?_ ?_)
            all_goals simp [D.le_refl]
          · simp [leObs_cons, leObs_nil, rowsA, altB, altV]
            try (rw [List.take_of_length_le (by simp)]; simp)
          · simp [ltAll, ltObs, Ob.lt, D.lt, D.ltL, or_imp, forall_and]
          · exact ⟨(altB_lt _ _).1, trivial, rowsA_lt _ _ _, trivial⟩
    · have hp : (put || gtA x y) = put := by revert hb; cases put <;> cases gtA x y <;> simp
      rcases hA with ⟨rfl, rfl, rfl⟩ | ⟨ver, hv, hne, rfl, rfl⟩
      · (refine W0 (c10 @altB.eq_def @altV.eq_def @altsV.eq_def t3 t4 t9 t22 t26 @rowsA_len @rowsA_take) ?_; try with_reducible intro K hK)
        refine sat_cond rfl (fun he => ?_) (fun he => ?_)
        · (refine W0 (c13 @altB.eq_def @altV.eq_def @altsV.eq_def t3 t4 t9 t22 t26 @rowsA_len @rowsA_take @hc @hy @hw) ?_; try with_reducible intro K hK)
          have e1 : rPutN l x (i + 1) = (([] : List Alt) ++ [x], put || gtA x y) := by rw [hst, rPutStep]; simp only [hb, he, if_true, if_false, Bool.false_eq_true]
          rw [hp] at e1
          refine ⟨l.length - (i + 1), _, _, by omega, ?_, i + 1, .own (E.H0.length + 2) 1 (([] : List Alt) ++ [x]).length, [.dead, .arr 1 6 (rowsA (([] : List Alt) ++ [x])) 0], rfl, by omega, .inr ⟨1, by omega, by rw [e1]; simp, by rw [e1], by rw [e1]⟩, by rw [e1], rfl⟩
          refine Ent.trip hE ?_ ?_ ?_ ?_
          · simp only [le, ↓reduceIte, Nat.reduceEqDiff, and_true]; repeat' (first | exact trivial | exact D.le_refl _ | exact D.le_any _ | with_reducible refine And.intro ?_ ?_)
            all_goals simp [D.le_refl]
          · simp [leObs_cons, leObs_nil, rowsA, altB, altV]
            try (rw [List.take_of_length_le (by simp)]; simp)
          · simp [ltAll, ltObs, Ob.lt, D.lt, D.ltL, or_imp, forall_and]
          · exact ⟨(altB_lt _ _).1, trivial, rowsA_lt _ _ _, trivial⟩
        · (refine W0 (c13 @altB.eq_def @altV.eq_def @altsV.eq_def t3 t4 t9 t22 t26 @rowsA_len @rowsA_take @hc @hy @hw) ?_; try with_reducible intro K hK)
          have e1 : rPutN l x (i + 1) = (([] : List Alt) ++ [y], put || gtA x y) := by rw [hst, rPutStep]; simp only [hb, he, if_true, if_false, Bool.false_eq_true]
          rw [hp] at e1
          refine ⟨l.length - (i + 1), _, _, by omega, ?_, i + 1, .own (E.H0.length + 2) 1 (([] : List Alt) ++ [y]).length, [.dead, .arr 1 6 (rowsA (([] : List Alt) ++ [y])) 0], rfl, by omega, .inr ⟨1, by omega, by rw [e1]; simp, by rw [e1], by rw [e1]⟩, by rw [e1], rfl⟩
          refine Ent.trip hE ?_ ?_ ?_ ?_
          · simp only [le, ↓reduceIte, Nat.reduceEqDiff, and_true]; repeat' (first | exact trivial | exact D.le_refl _ | exact D.le_any _ | with_reducible refine And.intro ?_ ?_)
            all_goals simp [D.le_refl]
          · simp [leObs_cons, leObs_nil, rowsA, altB, altV]
            try (rw [List.take_of_length_le (by simp)]; simp)
          · simp [ltAll, ltObs, Ob.lt, D.lt, D.ltL, or_imp, forall_and]
          · exact ⟨(altB_lt _ _).1, trivial, rowsA_lt _ _ _, trivial⟩
      · (refine W0 (c10 @altB.eq_def @altV.eq_def @altsV.eq_def t3 t4 t9 t22 t26 @rowsA_len @rowsA_take) ?_; try with_reducible intro K hK)
        refine sat_cond rfl (fun he => ?_) (fun he => ?_)
        · (refine W0 (c13 @altB.eq_def @altV.eq_def @altsV.eq_def t3 t4 t9 t22 t26 @rowsA_len @rowsA_take @hc @hy @hw) ?_; try with_reducible intro K hK)
          have e1 : rPutN l x (i + 1) = (out ++ [x], put || gtA x y) := by rw [hst, rPutStep]; simp only [hb, he, if_true, if_false, Bool.false_eq_true]
          rw [hp] at e1
          refine ⟨l.length - (i + 1), _, _, by omega, ?_, i + 1, .own (E.H0.length + 2) (ver + 1) (out ++ [x]).length, [.dead, .arr (ver + 1) 6 (rowsA (out ++ [x])) 0], rfl, by omega, .inr ⟨(ver + 1), by omega, by rw [e1]; simp, by rw [e1], by rw [e1]⟩, by rw [e1], rfl⟩
          refine Ent.trip hE ?_ ?_ ?_ ?_
          · simp only [le, ↓reduceIte, Nat.reduceEqDiff, and_true]; repeat' (first | exact trivial | exact D.le_refl _ | exact D.le_any _ | with_reducible refine And.intro ?_ ?_)
            all_goals simp [D.le_refl]
          · simp [leObs_cons, leObs_nil, rowsA, altB, altV]
            try (rw [List.take_of_length_le (by simp)]; simp)
          · simp [ltAll, ltObs, Ob.lt, D.lt, D.ltL, or_imp, forall_and]
          · exact ⟨(altB_lt _ _).1, trivial, rowsA_lt _ _ _, trivial⟩
        · (refine W0 (c13 @altB.eq_def @altV.eq_def @altsV.eq_def t3 t4 t9 t22 t26 @rowsA_len @rowsA_take @hc @hy @hw) ?_; try with_reducible intro K hK)
          have e1 : rPutN l x (i + 1) = (out ++ [y], put || gtA x y) := by rw [hst, rPutStep]; simp only [hb, he, if_true, if_false, Bool.false_eq_true]
          rw [hp] at e1
          refine ⟨l.length - (i + 1), _, _, by omega, ?_, i + 1, .own (E.H0.length + 2) (ver + 1) (out ++ [y]).length, [.dead, .arr (ver + 1) 6 (rowsA (out ++ [y])) 0], rfl, by omega, .inr ⟨(ver + 1), by omega, by rw [e1]; simp, by rw [e1], by rw [e1]⟩, by rw [e1], rfl⟩
          refine Ent.trip hE ?_ ?_ ?_ ?_
          · simp only [le, ↓reduceIte, Nat.reduceEqDiff, and_true]; repeat' (first | exact trivial | exact D.le_refl _ | exact D.le_any _ | with_reducible refine And.intro ?_ ?_)
            all_goals simp [D.le_refl]
          · simp [leObs_cons, leObs_nil, rowsA, altB, altV]
            try (rw [List.take_of_length_le (by simp)]; simp)
          · simp [ltAll, ltObs, Ob.lt, D.lt, D.ltL, or_imp, forall_and]
          · exact ⟨(altB_lt _ _).1, trivial, rowsA_lt _ _ _, trivial⟩
  · simp at hc
    obtain rfl : i = l.length := by omega
    have hR : rPutR l x = if !(rPutN l x l.length).2 then (rPutN l x l.length).1 ++ [x] else (rPutN l x l.length).1 := rfl
    generalize hs : rPutN l x l.length = s at *
    obtain ⟨out, put⟩ := s
    simp only at hlen hA hR ⊢
    rw [hR] at hK
    (refine W0 t3 ?_; try with_reducible intro K hK)
    refine sat_cond rfl (fun hb => ?_) (fun hb => ?_)
    · rw [if_pos hb] at hK
      rcases hA with ⟨rfl, rfl, rfl⟩ | ⟨ver, hv, hne, rfl, rfl⟩
      · (refine W0 (c10 @altB.eq_def @altV.eq_def @altsV.eq_def t3 t4 t9 t22 t26 @rowsA_len @rowsA_take) ?_; try with_reducible intro K hK)
        exact Fin.pub 2 1 6 0 1 ([altV x]) hE (by decide) rfl rfl (by simp) (by simp) hK
      · (refine W0 (c10 @altB.eq_def @altV.eq_def @altsV.eq_def t3 t4 t9 t22 t26 @rowsA_len @rowsA_take) ?_; try with_reducible intro K hK)
        refine Fin.pub 2 (ver + 1) 6 0 (out.length + 1) ((out ++ [x]).map altV) hE (by decide) rfl (by simp [rowsA, altV]) (by simp) (by simp) ?_
        rw [List.take_of_length_le (by simp)]
        exact hK
    · rw [if_neg (by simpa using hb)] at hK
      rcases hA with ⟨rfl, rfl, rfl⟩ | ⟨ver, hv, hne, rfl, rfl⟩
      · (refine W0 t3 ?_; try with_reducible intro K hK)
        exact Fin.gcle (.v (altsV [])) hE (by decide) (D.le_nils 6) (by simp only [D.lt]) hK
      · (refine W0 t3 ?_; try with_reducible intro K hK)
        refine Fin.pub 2 ver 6 0 out.length (out.map altV) hE (by decide) rfl (by simp [rowsA]) (by simp) (by simp) ?_
        rw [List.take_of_length_le (by simp)]
        exact hK
end Go.Ag
/- AGo, part 33: what slices.Insert asks: how many rows fit, the entry for slices.overlaps. -/
namespace Go.Ag
open Go Go.RowKit

/-- slices.overlaps: two arrays of one's own lie apart. -/
theorem lib_overlaps {P : Program} {G : Nat → Option (List V)} {f : FuncId} {H : List Ob} {K : D → List Ob → Prop} (fn : Func) (tS tR : TypeId) {e : TypeId} {esz by_ : Nat} (hf : P.funcs[f]? = some fn) (hname : (fn.name == "runtime.NumGoroutine") = false)
    (hb : fn.body.isNone = true) (hn : Extern.findNext fn = none) (he : Extern.find fn = some (Extern.SlicesOverlaps.overlaps #[tS, tS] #[tR])) (htk : tk P tS = .sl e esz by_)
    {b2 v2 l2 z2 e2 b ver s0 s1 off len e1 : Nat} {cap : Option Nat} {xs2 xs : List (List D)} (h2 : H[b2]? = some (.arr v2 z2 xs2 e2)) (h1 : H[b]? = some (.arr ver s1 xs e1)) (hne : b2 ≠ b) (hlen : 0 < len) (hs1 : 0 < s1)
    (hK : K (.v (.bool false)) H) : ACalls P G f [.own b2 v2 l2, .sub b ver s0 off len cap] H K := by
  rintro E rfl e2 M μ w vs hr hv
  obtain ⟨i, hu, hi, hsz, hby⟩ := tk_sl htk
  simp only [RelL] at hv
  obtain ⟨y2, _, rfl, hy2, y1, _, rfl, hy1, rfl⟩ := hv
  right
  refine ⟨?_, ?_⟩
  · have h2 : fn.body = none := by simpa using hb
    simp [callB, hf, h2]
  simp only [Rel] at hy1 hy2
  obtain ⟨_, p2, hp2, _, _, hy2⟩ := hy2
  obtain ⟨_, p1, hp1, _, _, hy1⟩ := hy1
  obtain ⟨_, a2, _, _, a5, ws2, t2, a6, a7, _⟩ := hr.obj b2 _ p2 h2 hp2
  obtain ⟨_, c2, _, _, c5, ws1, t1, c6, c7, _⟩ := hr.obj b _ p1 h1 hp1
  obtain ⟨_, rfl⟩ := hy2 a2
  obtain ⟨_, hle, A, rfl, hA⟩ := hy1 c2
  rw [hA (by omega)]
  have hsep := hr.sep b2 b _ _ _ _ hne h2 h1 (by simp) (by simp) hp2 hp1
  have hpos : 0 < p1.cap * s1 := Nat.mul_pos (by omega) hs1
  refine ⟨.bool false, w, ?_, .bool false, .v (.bool false), M, μ, H, rfl, .refl _, .refl _, hr, by simp only [Rel, RelV], hK⟩
  rw [run_callFunc_extern hf hname hb hn he,
    Lib.run_overlaps_apart w tS tR e hu i.size (fun w => by simp [sizeOf, typeInfo, hi, Result.andThen]) ⟨p2.blk, 0, none⟩ ⟨p1.blk, off * s0, none⟩ l2 p2.cap len (p1.cap - off) hsep t2 t1 ws2.length ws1.length
      (by simp [World.shape?, a6]) (by simp [World.shape?, c6]) (by omega) (by simp [World.frozen?, a6]) (by simp [World.frozen?, a6])]
  rfl

theorem relL_any (M : Mem) (μ : Mu) : ∀ vs : List Value, RelL M μ (List.replicate vs.length .any) vs
  | [] => by simp [RelL]
  | v :: vs => by rw [List.length_cons, List.replicate_succ, RelL.cons_iff]; exact ⟨by simp only [Rel], relL_any M μ vs⟩

/-- How many rows fit into an array of one's own: some number. -/
theorem ACalls.cap {P : Program} {G : Nat → Option (List V)} {f : FuncId} {H : List Ob} {K : D → List Ob → Prop} {ds : List D} (b : Nat) {ver sz n esc : Nat} {xs : List (List D)} (hb : H[b]? = some (.arr ver sz xs esc))
    (h : ∀ c, xs.length ≤ c → ACalls P G f (.sub b ver sz 0 n (some c) :: ds) (H.set b (.arr ver sz (xs ++ List.replicate (c - xs.length) (List.replicate sz .any)) esc)) K) : ACalls P G f (.own b ver n :: ds) H K := by
  intro E e1 e2 M μ w vs hr hv
  simp only [RelL] at hv
  obtain ⟨y, ys, rfl, hy, hys⟩ := hv
  have hy' := hy
  simp only [Rel] at hy
  obtain ⟨hy0, p, hp, q1, q2, hy⟩ := hy
  obtain ⟨a1, a2, a3, a4, a5, ws, t, a6, a7, a8⟩ := hr.obj b _ p hb hp
  refine h p.cap a5 E e1 e2 M μ w (y :: ys) (hr.reOb hb (by simp) (fun q hq ho => ?_)) ?_
  · obtain rfl : p = q := by rw [hp] at hq; exact Option.some.inj hq
    refine ⟨a1, a2, a3, a4, by simp; omega, ws, t, a6, a7, fun i x hx => ?_⟩
    by_cases hi : i < xs.length
    · rw [List.getElem?_append_left hi] at hx; exact a8 i x hx
    · rw [List.getElem?_append_right (by omega)] at hx
      have hlt := (List.getElem?_eq_some_iff.1 hx).1
      rw [List.length_replicate] at hlt
      have := List.eq_of_mem_replicate (List.mem_of_getElem? hx)
      subst this
      have hl : ((ws.drop (i * sz)).take sz).length = sz := by
        have : (i + 1) * sz ≤ p.cap * sz := Nat.mul_le_mul_right _ (by omega)
        rw [Nat.add_mul] at this
        simp; omega
      refine ⟨by simp, ?_⟩
      have := relL_any M μ ((ws.drop (i * sz)).take sz)
      rwa [hl] at this
  · rw [RelL.cons_iff]
    refine ⟨?_, hys⟩
    simp only [Rel]
    refine ⟨hy0, p, hp, q1, q2, fun e => ?_⟩
    obtain ⟨g1, g2⟩ := hy e
    exact ⟨fun c hc => Option.some.inj hc, by omega, _, g2, fun _ => by rw [Nat.zero_mul]⟩

theorem D.le_own_sub (b ver sz len : Nat) : D.le (.own b ver len) (.sub b ver sz 0 len none) := by
  intro M μ y h
  simp only [Rel] at h ⊢
  obtain ⟨h0, p, hp, q1, q2, h⟩ := h
  refine ⟨h0, p, hp, q1, q2, fun e => ?_⟩
  obtain ⟨g1, g2⟩ := h e
  exact ⟨fun c hc => (by cases hc), by omega, _, g2, fun _ => by rw [Nat.zero_mul]⟩
theorem D.le_sub_own {b ver sz len : Nat} {cap : Option Nat} (hl : 0 < len) : D.le (.sub b ver sz 0 len cap) (.own b ver len) := by
  intro M μ y h
  simp only [Rel] at h ⊢
  obtain ⟨h0, p, hp, q1, q2, h⟩ := h
  refine ⟨h0, p, hp, q1, q2, fun e => ?_⟩
  obtain ⟨_, g1, A, g2, g3⟩ := h e
  have := g3 (by omega)
  subst this
  rw [Nat.zero_mul, Nat.sub_zero] at g2
  exact ⟨by omega, g2⟩

/-- One operation that leaves the heap, whatever the heap of that kind. -/
theorem u2 {E : Env} {all : Array Oper} {os : List Oper} {ts : List D} {H : List Ob} {Q : List D → List Ob → Prop} {S : List Ob → Prop} {o : Oper} {d : D} (hv : heavyB o = false) (hg : o.guard = none)
    (h : ∀ H, S H → ∀ K : D → List Ob → Prop, K d H → aop E o ts H K) (hk : hops E S .any all os (putD ts o.dst d) H Q) : hops E S .any all (o :: os) ts H Q :=
  ug hv hg fun K hK => ⟨d, fun H hS => h H hS _ ⟨rfl, rfl⟩, hK _ hk⟩
theorem aCopy_at {P : Program} {t e : TypeId} {esz by_ b ver off len esc : Nat} {cap : Option Nat} {x : D} {H : List Ob} {xs : List (List D)} {K : D → List Ob → Prop} (ht : tk P t = .sl e esz by_) (rows : List (List D)) (hs : aSrcS x H esz len fun r => r = rows) (hb : H[b]? = some (.arr ver esz xs esc)) (hesc : esc ≤ off) (hfit : off + rows.length ≤ xs.length)
    (hk : K (.v (.int .i64 (rows.length : Nat))) (H.set b (.arr ver esz (seg xs off rows) esc))) : aCopy P t (.sub b ver esz off len cap) x H K := by
  unfold aCopy
  simp only [ht]
  refine aSrcS_mono (fun r hr => ?_) hs
  subst hr
  rw [hb]
  exact ⟨trivial, rfl, rfl, hesc, hfit, hk⟩
theorem aSrcS_own {b ver len sz m esc : Nat} {H : List Ob} {xs : List (List D)} {K : List (List D) → Prop} (hb : H[b]? = some (.arr ver sz xs esc)) (hl : len ≤ xs.length) (hc : ((xs.take len).all (·.all D.cell)) = true) (hk : K ((xs.take len).take m)) : aSrcS (.own b ver len) H sz m K := by
  simp only [aSrcS, aSrc, hb]; exact ⟨trivial, trivial, hl, hc, hk⟩
theorem aSrcS_sub {b ver off len sz m esc : Nat} {cap : Option Nat} {H : List Ob} {xs : List (List D)} {K : List (List D) → Prop} (hb : H[b]? = some (.arr ver sz xs esc)) (hl : off + min len m ≤ xs.length) (hc : (((xs.drop off).take (min len m)).all (·.all D.cell)) = true) (hk : K ((xs.drop off).take (min len m))) : aSrcS (.sub b ver sz off len cap) H sz m K := by
  simp only [aSrcS, hb]; exact ⟨trivial, trivial, trivial, hl, hc, hk⟩
theorem seg_insA {Y R : List (List D)} {r : List D} {i : Nat} (h : i + 1 ≤ Y.length) : (seg (seg Y i [r]) (i + 1) R).take (i + 1 + R.length) = Y.take i ++ r :: R := by
  have e1 : (seg Y i [r]).take (i + 1) = Y.take i ++ [r] := by
    have hl : (Y.take i ++ [r]).length = i + 1 := by simp; omega
    rw [seg, ← hl, List.take_left]
  have hl : (Y.take i ++ [r] ++ R).length = i + 1 + R.length := by simp; omega
  rw [show seg (seg Y i [r]) (i + 1) R = (seg Y i [r]).take (i + 1) ++ R ++ (seg Y i [r]).drop (i + 1 + R.length) from rfl, e1, ← hl, List.take_left]
  simp
theorem seg_insB {Y R : List (List D)} {r : List D} {i : Nat} (h : i + 1 + R.length ≤ Y.length) : (seg (seg Y (i + 1) R) i [r]).take (i + 1 + R.length) = Y.take i ++ r :: R := by
  have hl1 : (Y.take (i + 1)).length = i + 1 := by simp; omega
  have e1 : (seg Y (i + 1) R).take i = Y.take i := by
    rw [seg, List.append_assoc, List.take_append_of_le_length (by omega), List.take_take]; congr 1; omega
  have e2 : (seg Y (i + 1) R).drop (i + 1) = R ++ Y.drop (i + 1 + R.length) := by
    rw [seg, List.append_assoc, List.drop_append_of_le_length (by omega), List.drop_of_length_le (by omega)]; rfl
  rw [show seg (seg Y (i + 1) R) i [r] = (seg Y (i + 1) R).take i ++ [r] ++ (seg Y (i + 1) R).drop (i + 1) from rfl, e1, e2]
  have hl : (Y.take i ++ [r] ++ R).length = i + 1 + R.length := by simp; omega
  rw [← List.append_assoc, ← hl, List.take_left]
  simp
end Go.Ag
namespace Go.Ag
open Go Go.Proofs
variable {G : Nat → Option (List V)}
attribute [local irreducible] aops qops Sat aop

theorem rowsA_all (l : List Alt) : ((rowsA l).all fun x => x.all D.cell) = true := by
  simp [rowsA, altV, D.cell]
theorem rowsA_app (l m : List Alt) : rowsA l ++ rowsA m = rowsA (l ++ m) := by simp [rowsA]
theorem rowsA_take1 (x : Alt) : (rowsA [x]).take 1 = rowsA [x] := rfl
theorem rowsA_len1 (x : Alt) : (rowsA [x]).length = 1 := rfl
def insA (l : List Alt) (i : Nat) (x : Alt) : List Alt := l.take i ++ x :: l.drop i
set_option maxRecDepth 20000 in
set_option maxHeartbeats 16000000 in
theorem spec_InsertNil (x : Alt) (b2 : Nat) (H : List Ob) (hb2 : H[b2]? = some (.arr 1 6 (rowsA [x]) 0)) (K : D → List Ob → Prop) (hK : ∀ H', H'.length ≥ H.length → (∀ j, j < H.length → H'[j]? = H[j]?) → K (.v (altsV [x])) H') : ACalls Tryz.prog G 32 [.nils, .v (.int .i64 0), .own b2 1 1] H K := by
  refine ACalls.go Tryz.f32 _ 95 [6] Tryz.func32 rfl Tryz.ntmps32 (by kernel_rfl) rfl (by simp) (fun E hE hP hG hH => ?_)
  have hM : E.P.follows .mixedOrders = true := hP ▸ mixed
  subst hH
  simp only [args0]
  (refine W0 (c6 t3 t9 t22 t26 @hb2 @rowsA_len) ?_; try with_reducible intro K hK)
  refine sat_cond rfl (fun hc => ?_) (fun hc => ?_)
  · exact absurd hc (by decide)
  (refine W0 (c6 t3 t9 t22 t26 @hb2 @rowsA_len) ?_; try with_reducible intro K hK)
  refine sat_cond rfl (fun hc => ?_) (fun hc => ?_)
  · (refine W0 (c8 t3 t9 t22 t26 @hb2 @rowsA_len @rowsA.eq_def @altV.eq_def) ?_; try with_reducible intro K hK)
    refine Fin.pubAt E.H0.length 1 6 1 [altV x] (by decide) rfl (by rw [List.getElem?_append_right (Nat.le_refl _), Nat.sub_self]; rfl) rfl rfl ?_
    intro H' h1 h2
    exact hK H' (by rw [h1]; simp) (fun j hj => by rw [h2 j (by omega), List.getElem?_append_left hj])
  · exact absurd hc (by decide)
set_option maxRecDepth 20000 in
set_option maxHeartbeats 16000000 in
theorem spec_InsertEnd (l : List Alt) (b ver : Nat) (x : Alt) (b2 : Nat) (hl : l.length ≤ 1000000) (hne : b2 ≠ b) (H : List Ob) (hb : H[b]? = some (.arr ver 6 (rowsA l) 0)) (hb2 : H[b2]? = some (.arr 1 6 (rowsA [x]) 0)) (K : D → List Ob → Prop) (hK : ∀ H', H'.length ≥ H.length → (∀ j, j < H.length → j ≠ b → H'[j]? = H[j]?) → K (.v (altsV (l ++ [x]))) H') : ACalls Tryz.prog G 32 [.own b ver l.length, .v (.int .i64 l.length), .own b2 1 1] H K := by
  refine ACalls.go Tryz.f32 _ 95 [6] Tryz.func32 rfl Tryz.ntmps32 (by kernel_rfl) rfl (by simp) (fun E hE hP hG hH => ?_)
  have hM : E.P.follows .mixedOrders = true := hP ▸ mixed
  subst hH
  have hlt := (List.getElem?_eq_some_iff.1 hb).1
  simp only [args0]
  (refine W0 (c7 t3 t9 t22 t26 @hb @hb2 @rowsA_len) ?_; try with_reducible intro K hK)
  refine sat_cond rfl (fun hc => ?_) (fun hc => ?_)
  · exact absurd hc (by decide)
  (refine W0 (c7 t3 t9 t22 t26 @hb @hb2 @rowsA_len) ?_; try with_reducible intro K hK)
  refine sat_cond rfl (fun hc => ?_) (fun hc => ?_)
  · have hbl : (l.length + 1) * 104 ≤ 140737488355328 := by omega
    have hbm : l.length + 1 ≤ 9223372036854775807 := by omega
    (refine W0 (c15 t3 t9 t22 t26 @hb @hb2 @rowsA_take1 @rowsA_len1 @rowsA_all @rowsA_take @hbl @hbm @rowsA_len @Nat.zero_le @Nat.le_refl) ?_; try with_reducible intro K hK)
    refine Fin.pubAt b (ver + 1) 6 (l.length + 1) ((l ++ [x]).map altV) (by decide) rfl (List.getElem?_set_self hlt) (by rw [rowsA_app, ← rowsA_v, List.take_of_length_le (by simp [rowsA])]) (by simp) ?_
    intro H' h1 h2
    exact hK H' (by rw [h1]; simp) (fun j hj hjb => by rw [h2 j hjb, List.getElem?_set_ne (Ne.symm hjb)])
  · simp at hc
set_option maxRecDepth 20000 in
set_option maxHeartbeats 16000000 in
theorem spec_InsertIn (l : List Alt) (b ver i : Nat) (x : Alt) (b2 : Nat) (hl : l.length ≤ 1000000) (hi : i < l.length) (hne : b2 ≠ b) (H : List Ob) (hb : H[b]? = some (.arr ver 6 (rowsA l) 0)) (hb2 : H[b2]? = some (.arr 1 6 (rowsA [x]) 0)) (K : D → List Ob → Prop) (hK : ∀ H', H'.length ≥ H.length → (∀ j, j < H.length → j ≠ b → H'[j]? = H[j]?) → K (.v (altsV (insA l i x))) H') : ACalls Tryz.prog G 32 [.own b ver l.length, .v (.int .i64 i), .own b2 1 1] H K := by
  have hlt := (List.getElem?_eq_some_iff.1 hb).1
  refine ACalls.cap b hb fun c hc => ?_
  rw [rowsA_len] at hc ⊢
  obtain ⟨X, hX⟩ : ∃ X, X = rowsA l ++ List.replicate (c - l.length) (List.replicate 6 .any) := ⟨_, rfl⟩
  rw [← hX]
  have hXl : X.length = c := by rw [hX]; simp [rowsA_len]; omega
  have hbX : (H.set b (.arr ver 6 X 0))[b]? = some (.arr ver 6 X 0) := List.getElem?_set_self hlt
  have hb2X : (H.set b (.arr ver 6 X 0))[b2]? = some (.arr 1 6 (rowsA [x]) 0) := by rw [List.getElem?_set_ne (Ne.symm hne)]; exact hb2
  have hKX : ∀ H', H'.length ≥ (H.set b (.arr ver 6 X 0)).length → (∀ j, j < (H.set b (.arr ver 6 X 0)).length → j ≠ b → H'[j]? = (H.set b (.arr ver 6 X 0))[j]?) → K (.v (altsV (insA l i x))) H' := fun H' h1 h2 =>
    hK H' (by simpa using h1) (fun j hj hjb => by rw [h2 j (by simpa using hj) hjb, List.getElem?_set_ne (Ne.symm hjb)])
  have hltX : b < (H.set b (.arr ver 6 X 0)).length := by simpa using hlt
  generalize H.set b (.arr ver 6 X 0) = HX at *
  clear hK hb hb2 hlt
  refine ACalls.go Tryz.f32 _ 95 [6] Tryz.func32 rfl Tryz.ntmps32 (by kernel_rfl) rfl (by simp) (fun E hE hP hG hH => ?_)
  have hM : E.P.follows .mixedOrders = true := hP ▸ mixed
  subst hH
  have hw1 : IntKind.i64.wrap ((l.length : Int) + ((1 : Nat) : Int)) = ((l.length + 1 : Nat) : Int) := by rw [IntKind.wrap_i64]; omega
  have hw2 : IntKind.i64.wrap ((i : Int) + ((1 : Nat) : Int)) = ((i + 1 : Nat) : Int) := by rw [IntKind.wrap_i64]; omega
  simp only [args0]
  (refine W0 (c7 t3 t9 t22 t26 @hbX @hb2X @rowsA_len) ?_; try with_reducible intro K hK)
  refine sat_cond rfl (fun hc0 => ?_) (fun hc0 => ?_)
  · exact absurd hc0 (by decide)
  (refine W0 (c7 t3 t9 t22 t26 @hbX @hb2X @rowsA_len) ?_; try with_reducible intro K hK)
  refine sat_cond rfl (fun hc1 => ?_) (fun hc1 => ?_)
  · simp at hc1; omega
  (refine W0 (c9 t3 t9 t22 t26 @hbX @hb2X @rowsA_len @hw1 @aCap.eq_def) ?_; try with_reducible intro K hK)
  have hXt : X.take i = rowsA (l.take i) := by
    rw [hX, List.take_append_of_le_length (by rw [rowsA_len]; omega)]; simp [rowsA, List.map_take]
  have hXd : (X.drop i).take (min (l.length - i) (l.length + 1 - (i + 1))) = rowsA (l.drop i) := by
    rw [hX, List.drop_append_of_le_length (by rw [rowsA_len]; omega), List.take_append_of_le_length (by simp [rowsA_len]), List.take_of_length_le (by simp [rowsA_len])]
    simp [rowsA, List.map_drop]
  have hXd2 : (X.drop i).take (min (l.length + 1 - i) (l.length + 1 - (i + 1))) = rowsA (l.drop i) := by
    rw [show min (l.length + 1 - i) (l.length + 1 - (i + 1)) = min (l.length - i) (l.length + 1 - (i + 1)) by omega]; exact hXd
  refine sat_cond rfl (fun hc2 => ?_) (fun hc2 => ?_)
  · simp at hc2
    have hcn : c = l.length := by omega
    have hw3 : IntKind.i64.wrap (((l.length + 1 : Nat) : Int) - (i : Int)) = ((l.length + 1 - i : Nat) : Int) := by rw [IntKind.wrap_i64]; omega
    have hbl : (i + (l.length + 1 - i)) * 104 ≤ 140737488355328 := by omega
    have hz : 0 < ((l.length + 1 - i : Nat) : Int) := by omega
    have hd0 : (X.take i ++ List.replicate (l.length + 1 - i) [D.v (V.str []), D.v (V.str []), D.v (V.bool false), D.v (V.str []), D.nils, D.nils]).length = l.length + 1 := by simp; omega
    refine sat_via (fr 95 [(9, .sub E.H0.length 1 6 0 (l.length + 1) none), (7, .v (.int .i64 (1 : Nat))), (2, .own b2 1 1), (1, .v (.int .i64 i)), (0, .sub b ver 6 0 l.length (some c))]) (E.H0 ++ [.arr 1 6 (X.take i ++ List.replicate (l.length + 1 - i) [D.v (V.str []), D.v (V.str []), D.v (V.bool false), D.v (V.str []), D.nils, D.nils]) 0]) ?_ ?_
    · (refine W0 (c13 t3 t9 t22 t26 @hbX @hb2X @rowsA_len @hw1 @hw3 @aAppendZ.eq_def @Int.toNat_natCast @hbl @hz) ?_; try with_reducible intro K hK)
      rw [show i - Int.toNat 0 = i from rfl, show i + (l.length + 1 - i) = l.length + 1 by omega]
      refine .weakFr ?_
      simp only [le, ↓reduceIte, Nat.reduceEqDiff, and_true]; repeat' (first | exact trivial | exact D.le_refl _ | exact D.le_any _ | with_reducible refine And.intro ?_ ?_)
      exact D.le_own_sub _ _ _ _
    · (refine W0 (c8 t3 t9 t22 t26 @hbX @hb2X @rowsA_len @hw1) ?_; try with_reducible intro K hK)
      refine aCopy_at tk_22 (rowsA [x]) (aSrcS_own (hp_old hb2X) (Nat.le_refl 1) (rowsA_all [x]) ?_) (by rw [hp_get0]; rfl) (Nat.zero_le _) (by rw [hd0, rowsA_len1]; omega) (hK _ _ ?_)
      · rw [rowsA_take1, List.take_of_length_le (by rw [rowsA_len1]; omega)]
      clear hK K; simp only [lp]
      rw [hp_set0]
      repeat (first | ((first | refine wi ?_ | refine wj ?_ | refine wk ?_ | refine wl ?_ | refine wm ?_ | refine wn ?_); simp only [lt, ↓reduceIte, Nat.reduceEqDiff]) | refine wo ?_)
      refine wa ?_
      refine ub (fun H => ∃ xs1, H[b]? = some (.arr ver 6 xs1 0) ∧ ∃ xs2, H[E.H0.length]? = some (.arr 1 6 xs2 0)) hM ⟨_, hp_old hbX, _, by rw [hp_get0]; rfl⟩ ?_
      repeat (first | refine wa ?_ | (refine u2 (d := ?_) rfl rfl (fun H hS K hK => ?_) ?_; rotate_left; (focus (obtain ⟨xs1, h1, xs2, h2⟩ := hS; simp only [lo, ld, ↓aop, ↓aCall, hP, hG, Nat.reduceLT, ↓reduceIte, Nat.reduceEqDiff, Nat.reduceAdd, Nat.reduceMul, Nat.reduceLeDiff, reduceCtorEq, D.cs, D.plain, fillD, chop, List.replicate, tk_3, ze_3, sz_3, tk_9, ze_9, sz_9, tk_22, ze_22, sz_22, tk_26, ze_26, sz_26, kn_26, hw2, h1, h2]; (repeat (with_reducible refine And.intro ?_ ?_; focus (first | decide | omega | (simp only [ln]; omega)))); exact hK)); simp only [lp]) | (refine uk ?_; simp only [lt, ↓reduceIte, Nat.reduceEqDiff]))
      refine uf rfl rfl fun K hK => ?_
      simp only [lo, ld, ↓aop, ↓aCall, hP, hG, Nat.reduceLT, ↓reduceIte, Nat.reduceEqDiff, Nat.reduceAdd, Nat.reduceMul, Nat.reduceLeDiff, reduceCtorEq, D.cs, D.plain, fillD, chop, List.replicate]
      refine aCopy_at tk_22 (rowsA (l.drop i)) (aSrcS_sub (hp_old hbX) (by omega) ?_ ?_) (by rw [hp_get0]; rfl) (Nat.zero_le _) ?_ (hK _ _ ⟨_, by rw [hp_set0]; exact hp_old hbX, _, by rw [hp_set0, hp_get0]; rfl⟩ ?_)
      · rw [hXd]; exact rowsA_all _
      · rw [hXd]
      · rw [seg_len (by rw [hd0, rowsA_len1]; omega), hd0, rowsA_len, List.length_drop]; omega
      clear hK K; simp only [lp]
      rw [hp_set0]
      (refine W0 (c4 t3 t9 t22 t26) ?_; try with_reducible intro K hK)
      refine Fin.ent (Ent.weakFr (l' := [(6, .own E.H0.length 1 (l.length + 1))]) ⟨D.le_sub_own (by omega), trivial⟩) (Fin.pubAt E.H0.length 1 6 (l.length + 1) ((insA l i x).map altV) (by decide) rfl (by rw [hp_get0]; rfl) ?_ (by simp [insA]; omega) ?_)
      · have h3 := seg_insA (Y := X.take i ++ List.replicate (l.length + 1 - i) [D.v (V.str []), D.v (V.str []), D.v (V.bool false), D.v (V.str []), D.nils, D.nils]) (R := rowsA (l.drop i)) (r := (altV x).map .v) (i := i) (by omega)
        rw [rowsA_len, List.length_drop, show i + 1 + (l.length - i) = l.length + 1 by omega] at h3
        rw [← rowsA_v]
        refine h3.trans ?_
        rw [List.take_append_of_le_length (by simp; omega), List.take_take, Nat.min_self, hXt]
        simp [insA, rowsA]
      · intro H' h1 h2
        exact hKX H' (by rw [h1]; simp) (fun j hj hjb => by rw [h2 j (by omega), List.getElem?_append_left hj])
  · simp at hc2
    (refine W0 (c10 t3 t9 t22 t26 @hbX @hb2X @rowsA_len @hw1 @hw2 @Option.getD_some.{0}) ?_; try with_reducible intro K hK)
    refine lib_overlaps Tryz.f61 22 4 Tryz.func61 (by kernel_rfl) (by kernel_rfl) (by kernel_rfl) (by kernel_rfl) tk_22 hb2X hbX hne (by rw [show Int.toNat 0 = 0 from rfl]; omega) (by decide) (hK _ _ ?_)
    clear hK K; simp only [lp]
    rw [show Int.toNat 0 = 0 from rfl]
    (refine W0 (c7 t3 t9 t22 t26 @hbX @hb2X @rowsA_len) ?_; try with_reducible intro K hK)
    refine sat_cond rfl (fun hc3 => ?_) (fun hc3 => ?_)
    · repeat (first | ((first | refine wi ?_ | refine wj ?_ | refine wk ?_ | refine wl ?_ | refine wm ?_ | refine wn ?_); simp only [lt, ↓reduceIte, Nat.reduceEqDiff]) | refine wo ?_)
      refine wa ?_
      refine ub (fun H => ∃ xs1, H[b]? = some (.arr ver 6 xs1 0) ∧ ∃ xs2, H[b2]? = some (.arr 1 6 xs2 0)) hM ⟨_, hbX, _, hb2X⟩ ?_
      repeat (first | refine wa ?_ | (refine u2 (d := ?_) rfl rfl (fun H hS K hK => ?_) ?_; rotate_left; (focus (obtain ⟨xs1, h1, xs2, h2⟩ := hS; simp only [lo, ld, ↓aop, ↓aCall, hP, hG, Nat.reduceLT, ↓reduceIte, Nat.reduceEqDiff, Nat.reduceAdd, Nat.reduceMul, Nat.reduceLeDiff, reduceCtorEq, D.cs, D.plain, fillD, chop, List.replicate, tk_3, ze_3, sz_3, tk_9, ze_9, sz_9, tk_22, ze_22, sz_22, tk_26, ze_26, sz_26, kn_26, hw2, h1, h2]; (repeat (with_reducible refine And.intro ?_ ?_; focus (first | decide | omega | (simp only [ln]; omega)))); exact hK)); simp only [lp]) | (refine uk ?_; simp only [lt, ↓reduceIte, Nat.reduceEqDiff]))
      refine uf rfl rfl fun K hK => ?_
      simp only [lo, ld, ↓aop, ↓aCall, hP, hG, Nat.reduceLT, ↓reduceIte, Nat.reduceEqDiff, Nat.reduceAdd, Nat.reduceMul, Nat.reduceLeDiff, reduceCtorEq, D.cs, D.plain, fillD, chop, List.replicate]
      refine aCopy_at tk_22 (rowsA (l.drop i)) (aSrcS_sub hbX (by omega) ?_ ?_) hbX (Nat.zero_le _) ?_ (hK _ _ ⟨_, List.getElem?_set_self hltX, _, by rw [List.getElem?_set_ne (Ne.symm hne)]; exact hb2X⟩ ?_)
      · rw [Nat.sub_zero, hXd2]; exact rowsA_all _
      · exact hXd2
      · rw [rowsA_len, List.length_drop, hXl]; omega
      clear hK K; simp only [lp]
      have hb3 : (E.H0.set b (Ob.arr ver 6 (seg X (i + 1) (rowsA (l.drop i))) 0))[b]? = some (.arr ver 6 (seg X (i + 1) (rowsA (l.drop i))) 0) := List.getElem?_set_self hltX
      have hb4 : (E.H0.set b (Ob.arr ver 6 (seg X (i + 1) (rowsA (l.drop i))) 0))[b2]? = some (.arr 1 6 (rowsA [x]) 0) := by rw [List.getElem?_set_ne (Ne.symm hne)]; exact hb2X
      have hsl : (seg X (i + 1) (rowsA (l.drop i))).length = c := by rw [seg_len (by rw [rowsA_len, List.length_drop, hXl]; omega), hXl]
      (refine W0 (c7 t3 t9 t22 t26 @hb3 @hb4 @rowsA_len) ?_; try with_reducible intro K hK)
      refine aCopy_at tk_22 (rowsA [x]) (aSrcS_own hb4 (Nat.le_refl 1) (rowsA_all [x]) ?_) hb3 (Nat.zero_le _) (by rw [hsl, rowsA_len1]; omega) (hK _ _ ?_)
      · rw [rowsA_take1, List.take_of_length_le (by rw [rowsA_len1]; omega)]
      clear hK K; simp only [lp]
      (refine W0 (c4 t3 t9 t22 t26) ?_; try with_reducible intro K hK)
      refine Fin.ent (Ent.weakFr (l' := [(6, .own b ver (l.length + 1))]) ⟨D.le_sub_own (by omega), trivial⟩) (Fin.pubAt b ver 6 (l.length + 1) ((insA l i x).map altV) (by decide) rfl (by rw [List.set_set]; exact List.getElem?_set_self hltX) ?_ (by simp [insA]; omega) ?_)
      · have h3 := seg_insB (Y := X) (R := rowsA (l.drop i)) (r := (altV x).map .v) (i := i) (by rw [rowsA_len, List.length_drop]; omega)
        rw [rowsA_len, List.length_drop, show i + 1 + (l.length - i) = l.length + 1 by omega] at h3
        rw [← rowsA_v]
        refine h3.trans ?_
        rw [hXt]
        simp [insA, rowsA]
      · intro H' h1 h2
        exact hKX H' (by rw [h1]; simp) (fun j hj hjb => by rw [h2 j hjb, List.set_set, List.getElem?_set_ne (Ne.symm hjb)])
    · exact absurd hc3 (by decide)
end Go.Ag
namespace Go.Ag
open Go Go.Proofs
variable {G : Nat → Option (List V)}
attribute [local irreducible] aops qops Sat aop

def atA (l : List Alt) (x : Alt) : Nat := match l.findIdx? (gtA x) with | some i => i | none => l.length
def putA (l : List Alt) (x : Alt) : List Alt := match l.findIdx? (fun y => y.name == x.name) with
  | some i => l.set i x
  | none => insA l (atA l x) x
theorem atA_le (l : List Alt) (x : Alt) : atA l x ≤ l.length := by
  unfold atA
  split
  · rename_i i h; exact Nat.le_of_lt (idx_split h).1
  · exact Nat.le_refl _
theorem atA_none {l : List Alt} {x : Alt} (h : idxA l (gtA x) < 0) : atA l x = l.length := by
  unfold idxA at h
  unfold atA
  split at h
  · omega
  · rename_i h0; rw [h0]
theorem atA_some {l : List Alt} {x : Alt} (h : ¬ idxA l (gtA x) < 0) : idxA l (gtA x) = (atA l x : Int) ∧ atA l x < l.length := by
  unfold idxA at h ⊢
  unfold atA
  split at h
  · rename_i i h0; rw [h0]; exact ⟨rfl, (idx_split h0).1⟩
  · omega
/-- Insert, wherever. -/
theorem spec_Insert (l : List Alt) (b ver i : Nat) (x : Alt) (b2 : Nat) (hl : l.length ≤ 1000000) (hi : i ≤ l.length) (hne : b2 ≠ b) (H : List Ob) (hb : H[b]? = some (.arr ver 6 (rowsA l) 0)) (hb2 : H[b2]? = some (.arr 1 6 (rowsA [x]) 0)) (K : D → List Ob → Prop) (hK : ∀ H', H'.length ≥ H.length → (∀ j, j < H.length → j ≠ b → H'[j]? = H[j]?) → K (.v (altsV (insA l i x))) H') : ACalls Tryz.prog G 32 [.own b ver l.length, .v (.int .i64 i), .own b2 1 1] H K := by
  by_cases h : i = l.length
  · subst h
    refine spec_InsertEnd l b ver x b2 hl hne H hb hb2 K ?_
    rw [show l ++ [x] = insA l l.length x by simp [insA]]
    exact hK
  · exact spec_InsertIn l b ver i x b2 hl (by omega) hne H hb hb2 K hK
set_option maxRecDepth 20000 in
set_option maxHeartbeats 16000000 in
theorem spec_Put (l : List Alt) (x : Alt) (hl : l.length ≤ 1000000) (H : List Ob) (K : D → List Ob → Prop) (hK : K (.v (altsV (putA l x))) H) : ACalls Tryz.prog G 9 [.v (altsV l), altd x] H K := by
  refine ACalls.go Tryz.f9 _ 33 [4] Tryz.func9 rfl Tryz.ntmps9 (by kernel_rfl) rfl (by simp) (fun E hE hP hG hH => ?_)
  have hM : E.P.follows .mixedOrders = true := hP ▸ mixed
  subst hH
  simp only [args0, altd]
  (refine W0 (c6 @altB.eq_def @altV.eq_def t3 t9 t22 t26) ?_; try with_reducible intro K hK)
  refine spec_CloneA l hl _ _ (fun d L hd => hK _ _ ?_)
  clear hK K; simp only [lp]
  rcases hd with ⟨rfl, rfl, rfl⟩ | ⟨ver, hv, rfl, rfl⟩
  · rw [List.append_nil]
    (refine W0 (c4 t3 t9 t22 t26) ?_; try with_reducible intro K hK)
    refine spec_Find [] x.name (by decide) _ _ (hK _ _ ?_)
    clear hK K; simp only [lp]
    (refine W0 (c4 t3 t9 t22 t26) ?_; try with_reducible intro K hK)
    refine sat_cond rfl (fun hc => ?_) (fun hc => ?_)
    · exact absurd hc (by simp [findA, idxA])
    (refine W0 (c4 t3 t9 t22 t26) ?_; try with_reducible intro K hK)
    refine spec_IndexFuncA [] 31 _ (gtA x) (by decide) _ (fun c hc => by cases hc) _ (hK _ _ ?_)
    clear hK K; simp only [lp]
    (refine W0 (c4 t3 t9 t22 t26) ?_; try with_reducible intro K hK)
    refine sat_cond rfl (fun hc => ?_) (fun hc => ?_)
    · (refine W0 (c5 @altsV.eq_def t3 t9 t22 t26) ?_; try with_reducible intro K hK)
      refine spec_InsertNil x (E.H0.length + 1) _ (by rw [hp_get]; rfl) _ (fun H' h1 h2 => hK _ _ ?_)
      clear hK K; simp only [lp]
      (refine W0 (c4 t3 t9 t22 t26) ?_; try with_reducible intro K hK)
      exact Fin.gcAny (.v (altsV [x])) hE (by decide) rfl (by simp only [D.lt]) (by simp at h1; omega) (fun i hi => by rw [h2 i (by simp; omega), List.getElem?_append_left hi]) hK
    · exact absurd hc (by simp [idxA])
  · rw [List.append_assoc, List.cons_append, List.nil_append, List.length_append]
    (refine W0 (c4 t3 t9 t22 t26) ?_; try with_reducible intro K hK)
    refine spec_Find l x.name (by omega) _ _ (hK _ _ ?_)
    clear hK K; simp only [lp]
    (refine W0 (c4 t3 t9 t22 t26) ?_; try with_reducible intro K hK)
    refine sat_cond rfl (fun hc => ?_) (fun hc => ?_)
    · obtain ⟨i, hi⟩ : ∃ i, l.findIdx? (fun y => y.name == x.name) = some i := by
        cases h : l.findIdx? (fun y => y.name == x.name) with
        | none => simp [findA, idxA, h] at hc
        | some i => exact ⟨i, rfl⟩
      have hf : findA l x.name = (i : Int) := by simp [findA, idxA, hi]
      have hil := (idx_split hi).1
      have hput : putA l x = l.set i x := by simp [putA, hi]
      rw [hf]
      obtain ⟨y, hy⟩ : ∃ y, l[i]? = some y := ⟨_, List.getElem?_eq_getElem hil⟩
      have hr : (rowsA l)[i]? = some ((altV y).map .v) := by simp [rowsA, hy]
      (refine W0 (c15 @altV.eq_def t3 t9 t22 t26 @rowsA_len @hil @hr @List.map_cons.{0, 0} @List.map_nil.{0, 0} @List.length_cons.{0} @List.length_nil.{0} @List.drop_succ_cons.{0} @List.drop_zero.{0} @List.drop_nil.{0}) ?_; try with_reducible intro K hK)
      refine Fin.pub 1 ver 6 0 l.length ((l.set i x).map altV) hE (by decide) rfl (by rw [← rowsA_v, ← rowsA_set]; rfl) (Nat.zero_le _) (by simp) ?_
      rw [List.take_of_length_le (by simp), ← hput]
      exact hK
    have hno : l.findIdx? (fun y => y.name == x.name) = none := by
      cases h : l.findIdx? (fun y => y.name == x.name) with
      | none => rfl
      | some i => simp [findA, idxA, h] at hc
    have hput : putA l x = insA l (atA l x) x := by simp [putA, hno]
    rw [hput] at hK
    (refine W0 (c4 t3 t9 t22 t26) ?_; try with_reducible intro K hK)
    refine spec_IndexFuncA l 31 _ (gtA x) (by omega) _ (fun c hc K hK => spec_putIs c x _ _ (by rw [hp_get0]; rfl) K hK) _ (hK _ _ ?_)
    clear hK K; simp only [lp]
    (refine W0 (c4 t3 t9 t22 t26) ?_; try with_reducible intro K hK)
    refine sat_cond rfl (fun hc2 => ?_) (fun hc2 => ?_)
    · (refine W0 (c5 @altsV.eq_def t3 t9 t22 t26) ?_; try with_reducible intro K hK)
      have he := atA_none (of_decide_eq_true hc2)
      have hcg : ∀ H K, ACalls Tryz.prog G 32 [.own (E.H0.length + 1) ver l.length, .v (.int .i64 (atA l x)), .own (E.H0.length + 2) 1 1] H K → ACalls Tryz.prog G 32 [.own (E.H0.length + 1) ver l.length, .v (.int .i64 l.length), .own (E.H0.length + 2) 1 1] H K := by rw [he]; exact fun _ _ h => h
      refine hcg _ _ ?_
      refine spec_Insert l (E.H0.length + 1) ver (atA l x) x (E.H0.length + 2) hl (atA_le l x) (by omega) _ (by rw [hp_get]; rfl) (by rw [hp_get]; rfl) _ (fun H' h1 h2 => hK _ _ ?_)
      clear hK K; simp only [lp]
      (refine W0 (c4 t3 t9 t22 t26) ?_; try with_reducible intro K hK)
      exact Fin.gcAny (.v (altsV (insA l (atA l x) x))) hE (by decide) rfl (by simp only [D.lt]) (by simp at h1; omega) (fun i hi => by rw [h2 i (by simp; omega) (by omega), List.getElem?_append_left hi]) hK
    · (refine W0 (c4 t3 t9 t22 t26) ?_; try with_reducible intro K hK)
      rw [(atA_some (of_decide_eq_false hc2)).1]
      refine spec_Insert l (E.H0.length + 1) ver (atA l x) x (E.H0.length + 2) hl (atA_le l x) (by omega) _ (by rw [hp_get]; rfl) (by rw [hp_get]; rfl) _ (fun H' h1 h2 => hK _ _ ?_)
      clear hK K; simp only [lp]
      (refine W0 (c4 t3 t9 t22 t26) ?_; try with_reducible intro K hK)
      exact Fin.gcAny (.v (altsV (insA l (atA l x) x))) hE (by decide) rfl (by simp only [D.lt]) (by simp at h1; omega) (fun i hi => by rw [h2 i (by simp; omega) (by omega), List.getElem?_append_left hi]) hK
end Go.Ag
namespace Go.Ag
open Go Go.Proofs
variable {G : Nat → Option (List V)}
attribute [local irreducible] aops qops Sat aop

theorem idx_none {l : List Alt} {p : Str} (h : l.findIdx? (fun y => y.name == p) = none) : findA l p = -1 := by simp [findA, idxA, h]
theorem idx_some {l : List Alt} {p : Str} {i : Nat} (h : l.findIdx? (fun y => y.name == p) = some i) : findA l p = (i : Int) ∧ i < l.length := ⟨by simp [findA, idxA, h], idx_lt h⟩
def setF (l : List Alt) (nm p : Str) : List Alt × Int := match l.findIdx? (fun y => y.name == nm) with
  | none => ([], 3)
  | some i => if choAt ((l[i]?).getD altZ).choices p < 0 then ([], 3) else (putA l { (l[i]?).getD altZ with manual := true, cur := p }, 0)
set_option maxRecDepth 20000 in
set_option maxHeartbeats 8000000 in
theorem spec_Set (l : List Alt) (nm p : Str) (hl : l.length ≤ 1000000) (hc : ∀ y ∈ l, y.choices.length ≤ 1000000) (H : List Ob) (K : D → List Ob → Prop) (hK : K (.tup [.v (altsV (setF l nm p).1), .v (.int .i64 (setF l nm p).2)]) H) : ACalls Tryz.prog G 40 [.v (altsV l), .v (.str nm), .v (.str p)] H K := by
  refine ACalls.go Tryz.f40 _ 34 [6, 7] Tryz.func40 rfl Tryz.ntmps40 (by kernel_rfl) rfl (by simp) (fun E hE hP hG hH => ?_)
  have hM : E.P.follows .mixedOrders = true := hP ▸ mixed
  subst hH
  simp only [args0]
  (refine W0 (c4 t9 t3 t22 t26) ?_; try with_reducible intro K hK)
  refine spec_Find l nm (by omega) _ _ (hK _ _ ?_)
  clear hK K; simp only [lp]
  (refine W0 (c4 t9 t3 t22 t26) ?_; try with_reducible intro K hK)
  cases hi : l.findIdx? (fun y => y.name == nm) with
  | none =>
    rw [idx_none hi]
    (first | refine wr ?_ | refine wp rfl hM ?_ | refine wq hM ?_); repeat' (first | (refine G0 (c3 t9 t3 (show decide ((-1 : Int) < 0) = true from rfl)) ?_; try with_reducible intro K hK) | ((first | refine Xs rfl rfl (by decide) rfl (fun h => ?_) fun h => ?_ | refine Ys rfl rfl (by decide) rfl (fun h => ?_) fun h => ?_ | refine Zs rfl rfl rfl (by decide) rfl (fun h => ?_) fun h => ?_); rotate_left; (focus (simp only [Bool.not_true, Bool.not_false, lp])); rotate_left))
    refine sat_cond rfl (fun hb => ?_) (fun hb => ?_)
    · (refine W0 t3 ?_; try with_reducible intro K hK)
      refine Fin.le2 (.v (altsV [])) (.v (.int .i64 3)) (by decide) (by decide) (by decide) (D.le_nils 6) (D.le_refl _) ?_
      rw [setF, hi] at hK
      exact hK
    · cases hb
  | some i =>
    obtain ⟨hf, hil⟩ := idx_some hi
    obtain ⟨y, hy⟩ : ∃ y, l[i]? = some y := ⟨_, List.getElem?_eq_getElem hil⟩
    have hyc := hc y (List.mem_of_getElem? hy)
    have hset : setF l nm p = if choAt y.choices p < 0 then ([], 3) else (putA l { y with manual := true, cur := p }, 0) := by rw [setF, hi]; simp only [hy, Option.getD_some]
    rw [hset] at hK
    rw [hf]
    (first | refine wr ?_ | refine wp rfl hM ?_ | refine wq hM ?_); repeat' (first | (refine G0 (c9 @altsV.eq_def @altV.eq_def t9 t3 t22 t26 (show decide ((i : Int) < 0) = false from by simp) @hil @hy) ?_; try with_reducible intro K hK) | ((first | refine Xs rfl rfl (by decide) rfl (fun h => ?_) fun h => ?_ | refine Ys rfl rfl (by decide) rfl (fun h => ?_) fun h => ?_ | refine Zs rfl rfl rfl (by decide) rfl (fun h => ?_) fun h => ?_); rotate_left; (focus (simp only [Bool.not_true, Bool.not_false, lp])); rotate_left))
    refine spec_Choice y p (by omega) _ _ (hK _ _ ?_)
    clear hK K; simp only [lp]
    repeat' (first | (refine G0 (c5 t9 t3 t4 t22 t26) ?_; try with_reducible intro K hK) | ((first | refine Xs rfl rfl (by decide) rfl (fun h => ?_) fun h => ?_ | refine Ys rfl rfl (by decide) rfl (fun h => ?_) fun h => ?_ | refine Zs rfl rfl rfl (by decide) rfl (fun h => ?_) fun h => ?_); rotate_left; (focus (simp only [Bool.not_true, Bool.not_false, lp])); rotate_left))
    refine sat_cond rfl (fun hb => ?_) (fun hb => ?_)
    · (refine W0 t3 ?_; try with_reducible intro K hK)
      refine Fin.le2 (.v (altsV [])) (.v (.int .i64 3)) (by decide) (by decide) (by decide) (D.le_nils 6) (D.le_refl _) ?_
      rw [if_pos (of_decide_eq_true hb)] at hK
      exact hK
    · rw [if_neg (of_decide_eq_false hb)] at hK
      (refine W0 (c9 @altsV.eq_def @altV.eq_def t9 t3 t4 t22 t26 @hil @hy) ?_; try with_reducible intro K hK)
      refine spec_Put l { y with manual := true, cur := p } hl _ _ (hK _ _ ?_)
      clear hK K; simp only [lp]
      (refine W0 (c5 t9 t3 t4 t22 t26) ?_; try with_reducible intro K hK)
      exact Fin.gc2 (.v (altsV (putA l { y with manual := true, cur := p }))) (.v (.int .i64 0)) hE (by decide) (by decide) (by decide) rfl rfl (by simp only [D.lt]) (by simp only [D.lt]) hK
/-! ### let go -/
def allF (l : List Alt) (nm : Str) : List Alt × Int := match l.findIdx? (fun y => y.name == nm) with
  | none => ([], 3)
  | some _ => (dropA l nm, 0)
set_option maxRecDepth 20000 in
set_option maxHeartbeats 8000000 in
theorem spec_All (l : List Alt) (nm : Str) (hl : l.length ≤ 1000000) (H : List Ob) (K : D → List Ob → Prop) (hK : K (.tup [.v (altsV (allF l nm).1), .v (.int .i64 (allF l nm).2)]) H) : ACalls Tryz.prog G 44 [.v (altsV l), .v (.str nm)] H K := by
  refine ACalls.go Tryz.f44 _ 13 [4, 5] Tryz.func44 rfl Tryz.ntmps44 (by kernel_rfl) rfl (by simp) (fun E hE hP hG hH => ?_)
  have hM : E.P.follows .mixedOrders = true := hP ▸ mixed
  subst hH
  simp only [args0]
  (refine W0 (c5 t9 t3 t4 t22 t26) ?_; try with_reducible intro K hK)
  refine spec_Find l nm (by omega) _ _ (hK _ _ ?_)
  clear hK K; simp only [lp]
  (refine W0 (c5 t9 t3 t4 t22 t26) ?_; try with_reducible intro K hK)
  refine sat_cond rfl (fun hb => ?_) (fun hb => ?_)
  · have hb := of_decide_eq_true hb
    (refine W0 (c5 t9 t3 t4 t22 t26) ?_; try with_reducible intro K hK)
    refine Fin.le2 (.v (altsV [])) (.v (.int .i64 3)) (by decide) (by decide) (by decide) (D.le_nils 6) (D.le_refl _) ?_
    cases hi : l.findIdx? (fun y => y.name == nm) with
    | none => rw [allF, hi] at hK; exact hK
    | some i => rw [(idx_some hi).1] at hb; omega
  · have hb := of_decide_eq_false hb
    (refine W0 (c5 t9 t3 t4 t22 t26) ?_; try with_reducible intro K hK)
    refine spec_Drop l nm hl _ _ (hK _ _ ?_)
    clear hK K; simp only [lp]
    (refine W0 (c5 t9 t3 t4 t22 t26) ?_; try with_reducible intro K hK)
    refine Fin.is2 (.v (altsV (dropA l nm))) (.v (.int .i64 0)) (by decide) (by decide) rfl rfl ?_
    cases hi : l.findIdx? (fun y => y.name == nm) with
    | none => rw [idx_none hi] at hb; omega
    | some i => rw [allF, hi] at hK; exact hK
/-! ### the best, from here on -/
def autoF (l : List Alt) (nm : Str) : List Alt × Int := match l.findIdx? (fun y => y.name == nm) with
  | none => ([], 3)
  | some i => (putA l (settA { (l[i]?).getD altZ with manual := false }), 0)
set_option maxRecDepth 20000 in
set_option maxHeartbeats 8000000 in
theorem spec_Auto (l : List Alt) (nm : Str) (hl : l.length ≤ 1000000) (hc : ∀ y ∈ l, y.choices.length ≤ 1000000) (H : List Ob) (K : D → List Ob → Prop) (hK : K (.tup [.v (altsV (autoF l nm).1), .v (.int .i64 (autoF l nm).2)]) H) : ACalls Tryz.prog G 45 [.v (altsV l), .v (.str nm)] H K := by
  refine ACalls.go Tryz.f45 _ 22 [4, 5] Tryz.func45 rfl Tryz.ntmps45 (by kernel_rfl) rfl (by simp) (fun E hE hP hG hH => ?_)
  have hM : E.P.follows .mixedOrders = true := hP ▸ mixed
  subst hH
  simp only [args0]
  (refine W0 (c5 t9 t3 t4 t22 t26) ?_; try with_reducible intro K hK)
  refine spec_Find l nm (by omega) _ _ (hK _ _ ?_)
  clear hK K; simp only [lp]
  (refine W0 (c5 t9 t3 t4 t22 t26) ?_; try with_reducible intro K hK)
  cases hi : l.findIdx? (fun y => y.name == nm) with
  | none =>
    rw [idx_none hi]
    refine sat_cond rfl (fun hb => ?_) (fun hb => ?_)
    · (refine W0 (c5 t9 t3 t4 t22 t26) ?_; try with_reducible intro K hK)
      refine Fin.le2 (.v (altsV [])) (.v (.int .i64 3)) (by decide) (by decide) (by decide) (D.le_nils 6) (D.le_refl _) ?_
      rw [autoF, hi] at hK; exact hK
    · exact absurd hb (by decide)
  | some i =>
    obtain ⟨hf, hil⟩ := idx_some hi
    obtain ⟨y, hy⟩ : ∃ y, l[i]? = some y := ⟨_, List.getElem?_eq_getElem hil⟩
    have hyc := hc y (List.mem_of_getElem? hy)
    have hset : autoF l nm = (putA l (settA { y with manual := false }), 0) := by rw [autoF, hi]; simp only [hy, Option.getD_some]
    rw [hset] at hK
    rw [hf]
    refine sat_cond rfl (fun hb => ?_) (fun hb => ?_)
    · have := of_decide_eq_true hb; omega
    · (refine W0 (c9 @altsV.eq_def @altV.eq_def t9 t3 t4 t22 t26 @hil @hy) ?_; try with_reducible intro K hK)
      refine spec_settled { y with manual := false } (by simp only; omega) _ _ (hK _ _ ?_)
      clear hK K; simp only [lp]
      (refine W0 (c5 t9 t3 t4 t22 t26) ?_; try with_reducible intro K hK)
      refine spec_Put l (settA { y with manual := false }) hl _ _ (hK _ _ ?_)
      clear hK K; simp only [lp]
      (refine W0 (c5 t9 t3 t4 t22 t26) ?_; try with_reducible intro K hK)
      exact Fin.gc2 (.v (altsV (putA l (settA { y with manual := false })))) (.v (.int .i64 0)) hE (by decide) (by decide) (by decide) rfl rfl (by simp only [D.lt]) (by simp only [D.lt]) hK
end Go.Ag
namespace Go.Ag
open Go Go.Proofs
variable {G : Nat → Option (List V)}
attribute [local irreducible] aops qops Sat aop

theorem set_of {H H' : List Ob} {b : Nat} (hb : b < H.length) (h1 : H'.length = H.length) (h2 : ∀ j, j ≠ b → H'[j]? = H[j]?) : ∃ o, H' = H.set b o := by
  refine ⟨H'[b]'(by omega), List.ext_getElem? fun j => ?_⟩
  by_cases e : b = j
  · subst e; rw [List.getElem?_set_self hb, List.getElem?_eq_getElem]
  · rw [List.getElem?_set_ne e, h2 j (Ne.symm e)]
theorem choAt_nil {l : List Cho} {p : Str} (h : ¬ choAt l p < 0) : l ≠ [] := fun e => by
  subst e; exact h (by simp [choAt])
set_option maxHeartbeats 4000000 in
theorem spec_remIs (c : Cho) (p : Str) (b : Nat) (H : List Ob) (hb : H[b]? = some (.box [.v (.str p)])) (K : D → List Ob → Prop) (hK : K (.v (.bool (c.path == p))) H) : ACalls Tryz.prog G 68 [choD c, .ptr b 0] H K := by
  refine ACalls.go Tryz.f68 _ 8 [3] Tryz.func68 rfl Tryz.ntmps68 (by kernel_rfl) rfl (by simp) (fun E hE hP hG hH => ?_)
  have hM : E.P.follows .mixedOrders = true := hP ▸ mixed
  subst hH
  simp only [args0, choD]
  have hlt : b < E.H0.length := (List.getElem?_eq_some_iff.1 hb).1
  have hb2 : ∀ L, (E.H0 ++ L)[b]? = some (.box [.v (.str p)]) := fun L => by rw [List.getElem?_append_left hlt]; exact hb
  (refine W0 (c3 t9 t46 @hb2) ?_; try with_reducible intro K hK)
  exact Fin.gc (.v (.bool (c.path == p))) hE (by decide) rfl (by simp only [D.lt]) hK
def remF (l : List Alt) (nm p : Str) : List Alt × Int := match l.findIdx? (fun y => y.name == nm) with
  | none => ([], 3)
  | some i => if choAt ((l[i]?).getD altZ).choices p < 0 then ([], 3) else
      if (((l[i]?).getD altZ).choices.filter fun c => !(c.path == p)) = [] then (dropA l nm, 0) else
      (putA l (settA { (l[i]?).getD altZ with choices := ((l[i]?).getD altZ).choices.filter fun c => !(c.path == p), manual := ((l[i]?).getD altZ).manual && !(((l[i]?).getD altZ).cur == p) }), 0)
set_option maxRecDepth 20000 in
set_option maxHeartbeats 16000000 in
theorem spec_Remove (l : List Alt) (nm p : Str) (hl : l.length ≤ 1000000) (hc : ∀ y ∈ l, y.choices.length ≤ 1000000) (H : List Ob) (K : D → List Ob → Prop) (hK : K (.tup [.v (altsV (remF l nm p).1), .v (.int .i64 (remF l nm p).2)]) H) : ACalls Tryz.prog G 41 [.v (altsV l), .v (.str nm), .v (.str p)] H K := by
  refine ACalls.go Tryz.f41 _ 54 [6, 7] Tryz.func41 rfl Tryz.ntmps41 (by kernel_rfl) rfl (by simp) (fun E hE hP hG hH => ?_)
  have hM : E.P.follows .mixedOrders = true := hP ▸ mixed
  subst hH
  simp only [args0]
  (refine W0 (c7 t9 t3 t4 t22 t26 t24 t46) ?_; try with_reducible intro K hK)
  refine spec_Find l nm (by omega) _ _ (hK _ _ ?_)
  clear hK K; simp only [lp]
  (refine W0 (c7 t9 t3 t4 t22 t26 t24 t46) ?_; try with_reducible intro K hK)
  cases hi : l.findIdx? (fun y => y.name == nm) with
  | none =>
    rw [idx_none hi]
    (first | refine wr ?_ | refine wp rfl hM ?_ | refine wq hM ?_); repeat' (first | (refine G0 (c8 t9 t3 t4 t22 t26 t24 t46 (show decide ((-1 : Int) < 0) = true from rfl)) ?_; try with_reducible intro K hK) | ((first | refine Xs rfl rfl (by decide) rfl (fun h => ?_) fun h => ?_ | refine Ys rfl rfl (by decide) rfl (fun h => ?_) fun h => ?_ | refine Zs rfl rfl rfl (by decide) rfl (fun h => ?_) fun h => ?_); rotate_left; (focus (simp only [Bool.not_true, Bool.not_false, lp])); rotate_left))
    refine sat_cond rfl (fun hb => ?_) (fun hb => ?_)
    · (refine W0 (c7 t9 t3 t4 t22 t26 t24 t46) ?_; try with_reducible intro K hK)
      refine Fin.gcle2 (.v (altsV [])) (.v (.int .i64 3)) hE (by decide) (by decide) (by decide) (D.le_nils 6) (D.le_refl _) (by simp only [D.lt]) (by simp only [D.lt]) ?_
      rw [remF, hi] at hK
      exact hK
    · cases hb
  | some i =>
    obtain ⟨hf, hil⟩ := idx_some hi
    obtain ⟨y, hy⟩ : ∃ y, l[i]? = some y := ⟨_, List.getElem?_eq_getElem hil⟩
    have hyc := hc y (List.mem_of_getElem? hy)
    have hset : remF l nm p = if choAt y.choices p < 0 then ([], 3) else if (y.choices.filter fun c => !(c.path == p)) = [] then (dropA l nm, 0) else (putA l (settA { y with choices := y.choices.filter fun c => !(c.path == p), manual := y.manual && !(y.cur == p) }), 0) := by rw [remF, hi]; simp only [hy, Option.getD_some]
    rw [hset] at hK
    rw [hf]
    (first | refine wr ?_ | refine wp rfl hM ?_ | refine wq hM ?_); repeat' (first | (refine G0 (c12 @altsV.eq_def @altV.eq_def t9 t3 t4 t22 t26 t24 t46 (show decide ((i : Int) < 0) = false from by simp) @hil @hy) ?_; try with_reducible intro K hK) | ((first | refine Xs rfl rfl (by decide) rfl (fun h => ?_) fun h => ?_ | refine Ys rfl rfl (by decide) rfl (fun h => ?_) fun h => ?_ | refine Zs rfl rfl rfl (by decide) rfl (fun h => ?_) fun h => ?_); rotate_left; (focus (simp only [Bool.not_true, Bool.not_false, lp])); rotate_left))
    refine ⟨_, spec_Choice y p (by omega) _ _ ⟨rfl, rfl⟩, hK _ ?_⟩
    clear hK K; simp only [lp]
    repeat' (first | (refine G0 (c7 t9 t3 t4 t22 t26 t24 t46) ?_; try with_reducible intro K hK) | ((first | refine Xs rfl rfl (by decide) rfl (fun h => ?_) fun h => ?_ | refine Ys rfl rfl (by decide) rfl (fun h => ?_) fun h => ?_ | refine Zs rfl rfl rfl (by decide) rfl (fun h => ?_) fun h => ?_); rotate_left; (focus (simp only [Bool.not_true, Bool.not_false, lp])); rotate_left))
    refine sat_cond rfl (fun hb => ?_) (fun hb => ?_)
    · (refine W0 (c7 t9 t3 t4 t22 t26 t24 t46) ?_; try with_reducible intro K hK)
      refine Fin.gcle2 (.v (altsV [])) (.v (.int .i64 3)) hE (by decide) (by decide) (by decide) (D.le_nils 6) (D.le_refl _) (by simp only [D.lt]) (by simp only [D.lt]) ?_
      rw [if_pos (of_decide_eq_true hb)] at hK
      exact hK
    rw [if_neg (of_decide_eq_false hb)] at hK
    (refine Q0 (c11 @altsV.eq_def @altV.eq_def t9 t3 t4 t22 t26 t24 t46 @hil @hy) ?_; try with_reducible intro K hK)
    have hne := choAt_nil (of_decide_eq_false hb)
    refine spec_CloneCho cV (fun _ => rfl) y.choices (by omega) _ _ (fun d L hd => hK _ _ ?_)
    clear hK K; simp only [lp]
    rcases hd with ⟨h0, _, _⟩ | ⟨ver, hv, rfl, rfl⟩
    · exact absurd h0 hne
    rw [List.append_assoc, List.cons_append, List.cons_append, List.nil_append, List.length_append]
    (refine W0 (c7 t9 t3 t4 t22 t26 t24 t46) ?_; try with_reducible intro K hK)
    refine spec_DeleteFuncK y.choices (E.H0.length + 2) ver _ _ (fun c => c.path == p) (by omega) _ (by rw [hp_get, rowsK_v]; rfl) (fun c hc H' K hj hk => spec_remIs c p E.H0.length H' (by rw [hj _ (by simp) (by omega), hp_get0]; rfl) K hk) (by simp [D.ltL, D.lt]) _ (fun H' h1 h2 => hK _ _ ?_)
    clear hK K; simp only [lp]
    obtain ⟨o, rfl⟩ := set_of (by simp) h1 h2
    rw [hp_set]
    simp only [List.set_cons_succ, List.set_cons_zero]
    obtain ⟨cs, hcs⟩ : ∃ cs, cs = y.choices.filter fun c => !(c.path == p) := ⟨_, rfl⟩
    have hcl : cs.length ≤ y.choices.length := by rw [hcs]; exact List.length_filter_le _ _
    rw [← hcs] at hK ⊢
    (refine W0 (c8 @chos.eq_def t9 t3 t4 t22 t26 t24 t46) ?_; try with_reducible intro K hK)
    refine sat_cond rfl (fun hd => ?_) (fun hd => ?_)
    · have h0 : cs = [] := by simpa using hd
      rw [if_pos h0] at hK
      (refine W0 (c7 t9 t3 t4 t22 t26 t24 t46) ?_; try with_reducible intro K hK)
      refine spec_Drop l nm hl _ _ (hK _ _ ?_)
      clear hK K; simp only [lp]
      (refine W0 (c7 t9 t3 t4 t22 t26 t24 t46) ?_; try with_reducible intro K hK)
      exact Fin.gc2 (.v (altsV (dropA l nm))) (.v (.int .i64 0)) hE (by decide) (by decide) (by decide) rfl rfl (by simp only [D.lt]) (by simp only [D.lt]) hK
    have h0 : cs ≠ [] := by simpa using hd
    rw [if_neg h0] at hK
    refine sat_skip ?_
    repeat (first | ((first | refine wi ?_ | refine wj ?_ | refine wk ?_ | refine wl ?_ | refine wm ?_ | refine wn ?_); simp only [lt, ↓reduceIte, Nat.reduceEqDiff]) | refine wo ?_)
    repeat refine wa ?_
    have hend : ∀ (mn : Bool) (ts : List (Nat × D)) (L : List Ob), K (.tup [.v (altsV (putA l (settA { y with choices := cs, manual := mn }))), .v (.int .i64 0)]) E.H0 → look ts 6 = .v (altsV (putA l (settA { y with choices := cs, manual := mn }))) → look ts 7 = .v (.int .i64 0) → Fin E (fr 54 ts) (E.H0 ++ L) [6, 7] K := fun mn ts L hk h1 h2 =>
      Fin.gc2 _ _ hE (by decide) (by decide) (by decide) h1 h2 (by simp only [D.lt]) (by simp only [D.lt]) hk
    by_cases hm : y.manual = true
    · rw [hm, Bool.true_and] at hK
      (first | refine wr ?_ | refine wp rfl hM ?_ | refine wq hM ?_); repeat' (first | (refine G0 (c8 t9 t3 t4 t22 t26 t24 t46 @hm) ?_; try with_reducible intro K hK) | ((first | refine Xs rfl rfl (by decide) rfl (fun h => ?_) fun h => ?_ | refine Ys rfl rfl (by decide) rfl (fun h => ?_) fun h => ?_ | refine Zs rfl rfl rfl (by decide) rfl (fun h => ?_) fun h => ?_); rotate_left; (focus (simp only [Bool.not_true, Bool.not_false, lp])); rotate_left))
      (refine W0 (c7 t9 t3 t4 t22 t26 t24 t46) ?_; try with_reducible intro K hK)
      trace_state
      refine spec_settled { y with choices := cs, manual := !(y.cur == p) } (by simp only; omega) _ _ (hK _ _ ?_)
      clear hK K; simp only [lp]
      (refine W0 (c7 t9 t3 t4 t22 t26 t24 t46) ?_; try with_reducible intro K hK)
      refine spec_Put l (settA { y with choices := cs, manual := !(y.cur == p) }) hl _ _ (hK _ _ ?_)
      clear hK K; simp only [lp]
      (refine W0 (c7 t9 t3 t4 t22 t26 t24 t46) ?_; try with_reducible intro K hK)
      exact hend _ _ _ hK rfl rfl
    · have hm2 : y.manual = false := by simpa using hm
      rw [hm2, Bool.false_and] at hK
      (first | refine wr ?_ | refine wp rfl hM ?_ | refine wq hM ?_); repeat' (first | (refine G0 (c8 t9 t3 t4 t22 t26 t24 t46 @hm2) ?_; try with_reducible intro K hK) | ((first | refine Xs rfl rfl (by decide) rfl (fun h => ?_) fun h => ?_ | refine Ys rfl rfl (by decide) rfl (fun h => ?_) fun h => ?_ | refine Zs rfl rfl rfl (by decide) rfl (fun h => ?_) fun h => ?_); rotate_left; (focus (simp only [Bool.not_true, Bool.not_false, lp])); rotate_left))
      (refine W0 (c7 t9 t3 t4 t22 t26 t24 t46) ?_; try with_reducible intro K hK)
      refine spec_settled { y with choices := cs, manual := false } (by simp only; omega) _ _ (hK _ _ ?_)
      clear hK K; simp only [lp]
      (refine W0 (c7 t9 t3 t4 t22 t26 t24 t46) ?_; try with_reducible intro K hK)
      refine spec_Put l (settA { y with choices := cs, manual := false }) hl _ _ (hK _ _ ?_)
      clear hK K; simp only [lp]
      (refine W0 (c7 t9 t3 t4 t22 t26 t24 t46) ?_; try with_reducible intro K hK)
      exact hend _ _ _ hK rfl rfl
end Go.Ag
namespace Go.Ag
open Go Go.Proofs

theorem mem_put {l : List Alt} {x y : Alt} (h : y ∈ putA l x) : y ∈ l ∨ y = x := by
  unfold putA at h
  split at h
  · exact (List.mem_or_eq_of_mem_set h)
  · simp only [insA, List.mem_append, List.mem_cons] at h
    rcases h with h | h | h
    · exact .inl (List.mem_of_mem_take h)
    · exact .inr h
    · exact .inl (List.mem_of_mem_drop h)
theorem put_len (l : List Alt) (x : Alt) : (putA l x).length ≤ l.length + 1 := by
  unfold putA
  split
  · simp
  · have := atA_le l x
    simp only [insA, List.length_append, List.length_take, List.length_cons, List.length_drop]; omega
theorem drop_len (l : List Alt) (p : Str) : (dropA l p).length ≤ l.length := List.length_filter_le _ _
end Go.Ag
namespace Go.Ag
open Go Go.Proofs
variable {G : Nat → Option (List V)}
attribute [local irreducible] aops qops Sat aop

abbrev Thg := Bool × Str
def thR (t : Thg) : List V := [.bool t.1, .str t.2]
def thgs (l : List Thg) : V := .list 2 (l.map thR)
def rowsT (l : List Thg) : List (List D) := l.map fun t => (thR t).map .v
theorem rowsT_len (l : List Thg) : (rowsT l).length = l.length := by simp [rowsT]
theorem rowsT_app (a b : List Thg) : rowsT (a ++ b) = rowsT a ++ rowsT b := by simp [rowsT]
theorem rowsT_take (l : List Thg) : (rowsT l).take l.length = rowsT l := List.take_of_length_le (by simp [rowsT])
theorem rowsT_v (l : List Thg) : rowsT l = (l.map thR).map (·.map .v) := by simp [rowsT]
theorem rowsT_lt (n v : Nat) (l : List Thg) : Ob.lt n (.arr v 2 (rowsT l) 0) := by
  rw [rowsT_v]; exact ltRows n _
def things (x : Alt) : List Thg := ((false, x.name) :: x.slaves.map fun s => (false, s.name)) ++ (links x).map fun l => (true, l)
theorem things_len (x : Alt) : (things x).length = 2 * x.slaves.length + 2 := by simp [things, links]; omega

set_option maxHeartbeats 8000000 in
theorem spec_things (x : Alt) (hx : x.slaves.length ≤ 1099511627) (H : List Ob) (K : D → List Ob → Prop) (hK : K (.v (thgs (things x))) H) : ACalls Tryz.prog G 46 [altd x] H K := by
  refine ACalls.go Tryz.f46 _ 40 [2] Tryz.func46 rfl Tryz.ntmps46 (by kernel_rfl) rfl (by simp) (fun E hE hP hG hH => ?_)
  have hM : E.P.follows .mixedOrders = true := hP ▸ mixed
  subst hH
  simp only [args0, altd]
  (refine W0 (c10 @altB.eq_def @altV.eq_def @slvs.eq_def t3 t4 t9 t23 t26 t70 t73) ?_; try with_reducible intro K hK)
  refine sat_loop_ent (fun n ts H => ∃ (i ver : Nat) (out : List Thg), n = x.slaves.length - i ∧ i ≤ x.slaves.length ∧ 1 ≤ ver ∧ out = (false, x.name) :: (x.slaves.take i).map (fun s => (false, s.name)) ∧
    ts = fr 40 [(15, .v (.int .i64 i)), (14, .v (.int .i64 x.slaves.length)), (13, .v (slvs x.slaves)), (3, .own (E.H0.length + 1) ver out.length), (1, .ptr E.H0.length 0)] ∧
    H = E.H0 ++ [altB x, .arr ver 2 (rowsT out) 0]) (x.slaves.length) (.weakFr ?_) ⟨0, 1, _, rfl, Nat.zero_le _, Nat.le_refl _, rfl, rfl, rfl⟩ ?_
  · simp only [le, ↓reduceIte, Nat.reduceEqDiff, and_true]; repeat' (first | exact trivial | exact D.le_refl _ | exact D.le_any _ | with_reducible refine And.intro ?_ ?_)
  rintro n ts H ⟨i, ver, out, rfl, hi, hv, ho, rfl, rfl⟩
  have hol : out.length = i + 1 := by subst ho; simp; omega
  (refine W0 (c6 @slvs.eq_def t3 t9 t23 t26 t37) ?_; try with_reducible intro K hK)
  refine sat_cond rfl (fun hb => ?_) (fun hb => ?_)
  · simp at hb
    obtain ⟨s, hs⟩ : ∃ s, x.slaves[i]? = some s := ⟨_, List.getElem?_eq_getElem hb⟩
    have hw := wrap_succ (i := i) (by omega)
    (refine W0 (c14 @slvs.eq_def t3 t4 t9 t23 t26 t37 t70 t73 @hs @hb @hw @rowsT_len @rowsT_take) ?_; try with_reducible intro K hK)
    refine ⟨x.slaves.length - (i + 1), _, _, by omega, ?_, i + 1, ver + 1, out ++ [(false, s.name)], rfl, by omega, by omega, by simp [ho, List.take_add_one, hs], rfl, rfl⟩
    refine Ent.rnd hE ?_ ?_ ?_ ?_
    · rw [List.length_append]
      simp only [le, ↓reduceIte, Nat.reduceEqDiff, and_true]; repeat' (first | exact trivial | exact D.le_refl _ | exact D.le_any _ | with_reducible refine And.intro ?_ ?_)
    · rw [rowsT_app]; rfl
    · simp [ltAll, ltObs, Ob.lt, D.lt, D.ltL, or_imp, forall_and]
    · exact ⟨(altB_lt _ _).1, rowsT_lt _ _ _, trivial⟩
  simp at hb
  obtain rfl : i = x.slaves.length := by omega
  rw [List.take_length] at ho
  (refine W0 (c6 @altB.eq_def @altV.eq_def t3 t9 t26 t44) ?_; try with_reducible intro K hK)
  refine spec_Links x (by omega) _ _ (hK _ _ ?_)
  clear hK K; simp only [lp]
  have hll : (links x).length = x.slaves.length + 1 := by simp [links]
  (refine W0 (c4 @strs.eq_def t3 t9 t44) ?_; try with_reducible intro K hK)
  refine sat_loop_ent (fun n ts H => ∃ (j ver : Nat) (out2 : List Thg), n = (links x).length - j ∧ j ≤ (links x).length ∧ 1 ≤ ver ∧ out2 = out ++ ((links x).take j).map (fun l => (true, l)) ∧
    ts = fr 40 [(29, .v (.int .i64 j)), (28, .v (.int .i64 (links x).length)), (27, .v (strs (links x))), (3, .own (E.H0.length + 1) ver out2.length)] ∧
    H = E.H0 ++ [altB x, .arr ver 2 (rowsT out2) 0]) ((links x).length) (.weakFr ?_) ⟨0, ver, out, rfl, Nat.zero_le _, hv, by simp, rfl, rfl⟩ ?_
  · simp only [le, ↓reduceIte, Nat.reduceEqDiff, and_true]; repeat' (first | exact trivial | exact D.le_refl _ | exact D.le_any _ | with_reducible refine And.intro ?_ ?_)
  rintro n ts H ⟨j, ver2, out2, rfl, hj, hv2, ho2, rfl, rfl⟩
  have hol2 : out2.length ≤ 2 * x.slaves.length + 2 := by rw [ho2]; simp; omega
  (refine W0 (c4 @strs.eq_def t3 t9 t44) ?_; try with_reducible intro K hK)
  refine sat_cond rfl (fun hb => ?_) (fun hb => ?_)
  · simp at hb
    obtain ⟨s, hs⟩ : ∃ s, (links x)[j]? = some s := ⟨_, List.getElem?_eq_getElem hb⟩
    have hw := wrap_succ (i := j) (by omega)
    (refine W0 (c12 @strs.eq_def t3 t4 t9 t44 t70 t73 @hs @hb @hw @rowsT_len @rowsT_take) ?_; try with_reducible intro K hK)
    refine ⟨(links x).length - (j + 1), _, _, by omega, ?_, j + 1, ver2 + 1, out2 ++ [(true, s)], rfl, by omega, by omega, by simp [ho2, List.take_add_one, hs], rfl, rfl⟩
    refine Ent.rnd hE ?_ ?_ ?_ ?_
    · rw [List.length_append]
      simp only [le, ↓reduceIte, Nat.reduceEqDiff, and_true]; repeat' (first | exact trivial | exact D.le_refl _ | exact D.le_any _ | with_reducible refine And.intro ?_ ?_)
    · rw [rowsT_app]; rfl
    · simp [ltAll, ltObs, Ob.lt, D.lt, D.ltL, or_imp, forall_and]
    · exact ⟨(altB_lt _ _).1, rowsT_lt _ _ _, trivial⟩
  simp at hb
  obtain rfl : j = (links x).length := by omega
  rw [List.take_length] at ho2
  have e : out2 = things x := by rw [ho2, ho]; rfl
  subst e
  (refine W0 trivial ?_; try with_reducible intro K hK)
  refine Fin.pub 1 ver2 2 0 (things x).length ((things x).map thR) hE (by decide) rfl ?_ (Nat.zero_le _) (by simp) ?_
  · rw [← rowsT_v]; rfl
  · simpa only [thgs, take_len_map] using hK
end Go.Ag
namespace Go.Ag
open Go Go.Proofs
variable {G : Nat → Option (List V)}
attribute [local irreducible] aops qops Sat aop

def choBad (x : Alt) (i : Nat) (c : Cho) : Bool := !placeB c.path || decide (c.prio < -2147483648) || decide (c.prio > 2147483647) || !(c.slaves.length == x.slaves.length) || (decide ((i : Int) > 0) && !Op.bytesLess (x.choices.getD (i - 1) cho0).path c.path)
def subBad (t : Str) : Bool := !(t == []) && !placeB t
def choicesOk (x : Alt) : Bool := (List.range x.choices.length).all (fun i => !(choBad x i (x.choices.getD i cho0) || (x.choices.getD i cho0).slaves.any subBad)) && (decide ((x.choices.length : Int) ≥ 1) && decide ((x.choices.length : Int) ≤ 64))

set_option maxHeartbeats 16000000 in
theorem spec_choices (x : Alt) (m : Int) (hl : x.choices.length ≤ 1099511627) (hs : ∀ c ∈ x.choices, c.path.length < 4294967281 ∧ c.slaves.length ≤ 1099511627 ∧ ∀ t ∈ c.slaves, t.length < 4294967281) (hG0 : G 0 = some [.int .i64 m]) (H : List Ob) (K : D → List Ob → Prop) (hK : K (.v (.bool (choicesOk x))) H) : ACalls Tryz.prog G 58 [altd x] H K := by
  refine ACalls.go Tryz.f58 _ 80 [2] Tryz.func58 rfl Tryz.ntmps58 (by kernel_rfl) rfl (by simp) (fun E hE hP hG hH => ?_)
  have hM : E.P.follows .mixedOrders = true := hP ▸ mixed
  subst hH
  simp only [args0, altd]
  (refine W0 (c6 @chos.eq_def t3 t9 t26 t24 t46) ?_; try with_reducible intro K hK)
  refine sat_loop_ent (fun n ts H => ∃ (i : Nat), n = x.choices.length - i ∧ i ≤ x.choices.length ∧ (∀ j, j < i → (choBad x j (x.choices.getD j cho0) || (x.choices.getD j cho0).slaves.any subBad) = false) ∧
    ts = fr 80 [(10, .v (.int .i64 i)), (9, .v (.int .i64 x.choices.length)), (8, .v (chos x.choices)), (2, .v (.bool false)), (1, .ptr E.H0.length 0)] ∧ H = E.H0 ++ [altB x]) (x.choices.length) (.weakFr ?_) ⟨0, rfl, Nat.zero_le _, by simp, rfl, rfl⟩ ?_
  · simp only [le, ↓reduceIte, Nat.reduceEqDiff, and_true]; repeat' (first | exact trivial | exact D.le_refl _ | exact D.le_any _ | with_reducible refine And.intro ?_ ?_)
  rintro n ts H ⟨i, rfl, hi, hall, rfl, rfl⟩
  (refine W0 (c6 @chos.eq_def t3 t9 t26 t24 t46) ?_; try with_reducible intro K hK)
  refine sat_cond rfl (fun hc => ?_) (fun hc => ?_)
  · simp at hc
    obtain ⟨s, hx⟩ : ∃ s, x.choices[i]? = some s := ⟨_, List.getElem?_eq_getElem hc⟩
    have hw := wrap_succ (i := i) (by omega)
    have gx : x.choices.getD i cho0 = s := by simp [List.getD_eq_getElem?_getD, hx]
    obtain ⟨hs1, hs2, hs3⟩ := hs s (List.mem_of_getElem? hx)
    (refine W0 (c8 @chos.eq_def t3 t9 t26 t24 t46 @hc @hx) ?_; try with_reducible intro K hK)
    refine sat_thru (fr 80 [(53, .v (.bool (choBad x i s))), (4, .ptr (E.H0.length + 1) 0), (10, .v (.int .i64 i)), (9, .v (.int .i64 x.choices.length)), (8, .v (chos x.choices)), (2, .v (.bool false)), (1, .ptr E.H0.length 0)]) (E.H0 ++ [altB x, .box ((choR s).map .v)]) ?_ ?_
    · rcases i with _ | j
      · (first | refine wr ?_ | refine wp rfl hM ?_ | refine wq hM ?_); repeat' (first | (refine G0 (c14 @altB.eq_def @altV.eq_def @slvs.eq_def @chos.eq_def @strs.eq_def t3 t4 t9 t26 t23 t24 t44 t46 @gz) ?_; try with_reducible intro K hK) | ((first | refine Xs rfl rfl (by decide) rfl (fun h => ?_) fun h => ?_ | refine Ys rfl rfl (by decide) rfl (fun h => ?_) fun h => ?_ | refine Zs rfl rfl rfl (by decide) rfl (fun h => ?_) fun h => ?_); rotate_left; (focus (simp only [Bool.not_true, Bool.not_false, lp])); rotate_left))
        refine ⟨_, spec_place _ m hs1 hG0 _ _ ⟨rfl, rfl⟩, hK _ ?_⟩
        clear hK K; simp only [lp]
        repeat' (first | (refine G0 (c14 @altB.eq_def @altV.eq_def @slvs.eq_def @chos.eq_def @strs.eq_def t3 t4 t9 t26 t23 t24 t44 t46 @gz) ?_; try with_reducible intro K hK) | ((first | refine Xs rfl rfl (by decide) rfl (fun h => ?_) fun h => ?_ | refine Ys rfl rfl (by decide) rfl (fun h => ?_) fun h => ?_ | refine Zs rfl rfl rfl (by decide) rfl (fun h => ?_) fun h => ?_); rotate_left; (focus (simp only [Bool.not_true, Bool.not_false, lp])); rotate_left))
        all_goals refine .weakFr ?_
        all_goals simp only [le, ↓reduceIte, Nat.reduceEqDiff, and_true]; repeat' (first | exact trivial | exact D.le_refl _ | exact D.le_any _ | with_reducible refine And.intro ?_ ?_)
        all_goals clear hall
        all_goals refine D.le_eq (congrArg D.v (congrArg V.bool ?_)); (try simp only [Bool.not_eq_eq_eq_not, Bool.not_true, Bool.not_false] at *); simp only [*, List.getD_eq_getElem?_getD, Bool.and_true, Bool.true_and, Bool.and_false, Bool.false_and, Bool.or_true, Bool.true_or, Bool.or_false, Bool.false_or, Bool.not_true, Bool.not_false, Bool.not_not, choBad, gz]
      · obtain ⟨p, hp⟩ : ∃ p, x.choices[j]? = some p := ⟨_, List.getElem?_eq_getElem (by omega)⟩
        have hj : j < x.choices.length := by omega
        have gp : x.choices.getD j cho0 = p := by simp [List.getD_eq_getElem?_getD, hp]
        have hwj := wpred j (by omega)
        (first | refine wr ?_ | refine wp rfl hM ?_ | refine wq hM ?_); repeat' (first | (refine G0 (c17 @altB.eq_def @altV.eq_def @slvs.eq_def @chos.eq_def @strs.eq_def t3 t4 t9 t26 t23 t24 t44 t46 @gs @hwj @hp @hj) ?_; try with_reducible intro K hK) | ((first | refine Xs rfl rfl (by decide) rfl (fun h => ?_) fun h => ?_ | refine Ys rfl rfl (by decide) rfl (fun h => ?_) fun h => ?_ | refine Zs rfl rfl rfl (by decide) rfl (fun h => ?_) fun h => ?_); rotate_left; (focus (simp only [Bool.not_true, Bool.not_false, lp])); rotate_left))
        refine ⟨_, spec_place _ m hs1 hG0 _ _ ⟨rfl, rfl⟩, hK _ ?_⟩
        clear hK K; simp only [lp]
        repeat' (first | (refine G0 (c17 @altB.eq_def @altV.eq_def @slvs.eq_def @chos.eq_def @strs.eq_def t3 t4 t9 t26 t23 t24 t44 t46 @gs @hwj @hp @hj) ?_; try with_reducible intro K hK) | ((first | refine Xs rfl rfl (by decide) rfl (fun h => ?_) fun h => ?_ | refine Ys rfl rfl (by decide) rfl (fun h => ?_) fun h => ?_ | refine Zs rfl rfl rfl (by decide) rfl (fun h => ?_) fun h => ?_); rotate_left; (focus (simp only [Bool.not_true, Bool.not_false, lp])); rotate_left))
        all_goals refine .weakFr ?_
        all_goals simp only [le, ↓reduceIte, Nat.reduceEqDiff, and_true]; repeat' (first | exact trivial | exact D.le_refl _ | exact D.le_any _ | with_reducible refine And.intro ?_ ?_)
        all_goals clear hall
        all_goals refine D.le_eq (congrArg D.v (congrArg V.bool ?_)); (try simp only [Bool.not_eq_eq_eq_not, Bool.not_true, Bool.not_false] at *); simp only [*, List.getD_eq_getElem?_getD, Bool.and_true, Bool.true_and, Bool.and_false, Bool.false_and, Bool.or_true, Bool.true_or, Bool.or_false, Bool.false_or, Bool.not_true, Bool.not_false, Bool.not_not, choBad, gs, Nat.add_sub_cancel, gp, Option.getD_some]
    refine sat_cond rfl (fun hb => ?_) (fun hb => ?_)
    · (refine W0 trivial ?_; try with_reducible intro K hK)
      refine Fin.gc (.v (.bool false)) hE (by decide) rfl (by simp only [D.lt]) ?_
      have : choicesOk x = false := by
        simp only [choicesOk, Bool.and_eq_false_iff]
        left
        rw [List.all_eq_false]
        exact ⟨i, by simpa using hc, by rw [gx, hb]; simp⟩
      rwa [this] at hK
    · (refine W0 (c6 @choR.eq_def @strs.eq_def t3 t9 t46 t44) ?_; try with_reducible intro K hK)
      refine sat_loop_ent (fun n ts H => ∃ (k : Nat), n = s.slaves.length - k ∧ k ≤ s.slaves.length ∧ (s.slaves.take k).any subBad = false ∧
        ts = fr 80 [(57, .v (.int .i64 k)), (56, .v (.int .i64 s.slaves.length)), (55, .v (strs s.slaves)), (10, .v (.int .i64 i)), (9, .v (.int .i64 x.choices.length)), (8, .v (chos x.choices)), (2, .v (.bool false)), (1, .ptr E.H0.length 0)] ∧ H = E.H0 ++ [altB x]) (s.slaves.length) (Ent.rnd hE ?_ rfl ?_ (altB_lt _ _)) ⟨0, rfl, Nat.zero_le _, rfl, rfl, rfl⟩ ?_
      · simp only [le, ↓reduceIte, Nat.reduceEqDiff, and_true]; repeat' (first | exact trivial | exact D.le_refl _ | exact D.le_any _ | with_reducible refine And.intro ?_ ?_)
      · simp [ltAll, ltObs, Ob.lt, D.lt, D.ltL, or_imp, forall_and]
      rintro n ts H ⟨k, rfl, hk, hkall, rfl, rfl⟩
      (refine W0 (c4 @strs.eq_def t3 t9 t44) ?_; try with_reducible intro K hK)
      refine sat_cond rfl (fun hd => ?_) (fun hd => ?_)
      · simp at hd
        obtain ⟨t, ht⟩ : ∃ t, s.slaves[k]? = some t := ⟨_, List.getElem?_eq_getElem hd⟩
        have hwk := wrap_succ (i := k) (by omega)
        (refine W0 (c6 @strs.eq_def t3 t9 t44 @hd @ht) ?_; try with_reducible intro K hK)
        refine sat_thru (fr 80 [(67, .v (.bool (subBad t))), (57, .v (.int .i64 k)), (56, .v (.int .i64 s.slaves.length)), (55, .v (strs s.slaves)), (10, .v (.int .i64 i)), (9, .v (.int .i64 x.choices.length)), (8, .v (chos x.choices)), (2, .v (.bool false)), (1, .ptr E.H0.length 0)]) (E.H0 ++ [altB x]) ?_ ?_
        · (first | refine wr ?_ | refine wp rfl hM ?_ | refine wq hM ?_); repeat' (first | (refine G0 (c3 t3 t4 t9) ?_; try with_reducible intro K hK) | ((first | refine Xs rfl rfl (by decide) rfl (fun h => ?_) fun h => ?_ | refine Ys rfl rfl (by decide) rfl (fun h => ?_) fun h => ?_ | refine Zs rfl rfl rfl (by decide) rfl (fun h => ?_) fun h => ?_); rotate_left; (focus (simp only [Bool.not_true, Bool.not_false, lp])); rotate_left))
          · refine spec_place _ m (hs3 t (List.mem_of_getElem? ht)) hG0 _ _ (hK _ _ ?_)
            clear hK K; simp only [lp]
            repeat' (first | (refine G0 (c3 t3 t4 t9) ?_; try with_reducible intro K hK) | ((first | refine Xs rfl rfl (by decide) rfl (fun h => ?_) fun h => ?_ | refine Ys rfl rfl (by decide) rfl (fun h => ?_) fun h => ?_ | refine Zs rfl rfl rfl (by decide) rfl (fun h => ?_) fun h => ?_); rotate_left; (focus (simp only [Bool.not_true, Bool.not_false, lp])); rotate_left))
            refine .weakFr ?_
            simp only [le, ↓reduceIte, Nat.reduceEqDiff, and_true]; repeat' (first | exact trivial | exact D.le_refl _ | exact D.le_any _ | with_reducible refine And.intro ?_ ?_)
            all_goals clear hall
            all_goals refine D.le_eq (congrArg D.v (congrArg V.bool ?_)); (try simp only [Bool.not_eq_eq_eq_not, Bool.not_true, Bool.not_false] at *); simp only [*, List.getD_eq_getElem?_getD, Bool.and_true, Bool.true_and, Bool.and_false, Bool.false_and, Bool.or_true, Bool.true_or, Bool.or_false, Bool.false_or, Bool.not_true, Bool.not_false, Bool.not_not, subBad]
          · refine .weakFr ?_
            simp only [le, ↓reduceIte, Nat.reduceEqDiff, and_true]; repeat' (first | exact trivial | exact D.le_refl _ | exact D.le_any _ | with_reducible refine And.intro ?_ ?_)
            all_goals clear hall
            all_goals refine D.le_eq (congrArg D.v (congrArg V.bool ?_)); (try simp only [Bool.not_eq_eq_eq_not, Bool.not_true, Bool.not_false] at *); simp only [*, List.getD_eq_getElem?_getD, Bool.and_true, Bool.true_and, Bool.and_false, Bool.false_and, Bool.or_true, Bool.true_or, Bool.or_false, Bool.false_or, Bool.not_true, Bool.not_false, Bool.not_not, subBad]
        refine sat_cond rfl (fun he => ?_) (fun he => ?_)
        · (refine W0 trivial ?_; try with_reducible intro K hK)
          refine Fin.gc (.v (.bool false)) hE (by decide) rfl (by simp only [D.lt]) ?_
          have : choicesOk x = false := by
            simp only [choicesOk, Bool.and_eq_false_iff]
            left
            rw [List.all_eq_false]
            have h2 : s.slaves.any subBad = true := List.any_eq_true.2 ⟨t, List.mem_of_getElem? ht, he⟩
            exact ⟨i, by simpa using hc, by rw [gx, h2]; simp⟩
          rwa [this] at hK
        · (refine W0 @hwk ?_; try with_reducible intro K hK)
          refine ⟨s.slaves.length - (k + 1), _, _, by omega, .weakFr ?_, k + 1, rfl, by omega, ?_, rfl, rfl⟩
          · simp only [le, ↓reduceIte, Nat.reduceEqDiff, and_true]; repeat' (first | exact trivial | exact D.le_refl _ | exact D.le_any _ | with_reducible refine And.intro ?_ ?_)
          · rw [take_snoc ht, List.any_append, hkall]; simp [he]
      · simp at hd
        have e : s.slaves.take k = s.slaves := List.take_of_length_le (by omega)
        rw [e] at hkall
        (refine W0 (c2 @hw t3) ?_; try with_reducible intro K hK)
        refine ⟨x.choices.length - (i + 1), _, _, by omega, .weakFr ?_, i + 1, rfl, by omega, fun j hj => ?_, rfl, rfl⟩
        · simp only [le, ↓reduceIte, Nat.reduceEqDiff, and_true]; repeat' (first | exact trivial | exact D.le_refl _ | exact D.le_any _ | with_reducible refine And.intro ?_ ?_)
        · rcases Nat.lt_succ_iff_lt_or_eq.1 hj with h | rfl
          · exact hall j h
          · rw [gx, hb, hkall]; rfl
  · simp at hc
    have e1 : (List.range x.choices.length).all (fun i => !(choBad x i (x.choices.getD i cho0) || (x.choices.getD i cho0).slaves.any subBad)) = true := by
      simp only [List.all_eq_true, List.mem_range]
      exact fun j hj => by rw [hall j (by omega)]; rfl
    clear hall
    have e2 := e1
    simp only [List.getD_eq_getElem?_getD] at e2
    (refine W0 trivial ?_; try with_reducible intro K hK)
    refine sat_thru (fr 80 [(2, .v (.bool (choicesOk x)))]) E.H0 ?_ ?_
    · (first | refine wr ?_ | refine wp rfl hM ?_ | refine wq hM ?_); repeat' (first | (refine G0 (c8 @altB.eq_def @altV.eq_def @chos.eq_def t3 t4 t9 t26 t24) ?_; try with_reducible intro K hK) | ((first | refine Xs rfl rfl (by decide) rfl (fun h => ?_) fun h => ?_ | refine Ys rfl rfl (by decide) rfl (fun h => ?_) fun h => ?_ | refine Zs rfl rfl rfl (by decide) rfl (fun h => ?_) fun h => ?_); rotate_left; (focus (simp only [Bool.not_true, Bool.not_false, lp])); rotate_left))
      all_goals refine Ent.round0 hE ?_ (by simp [ltAll, ltObs, Ob.lt, D.lt, D.ltL, or_imp, forall_and])
      all_goals simp only [le, ↓reduceIte, Nat.reduceEqDiff, and_true]; repeat' (first | exact trivial | exact D.le_refl _ | exact D.le_any _ | with_reducible refine And.intro ?_ ?_)
      all_goals refine D.le_eq (congrArg D.v (congrArg V.bool ?_)); (try simp only [Bool.not_eq_eq_eq_not, Bool.not_true, Bool.not_false] at *); simp only [*, List.getD_eq_getElem?_getD, Bool.and_true, Bool.true_and, Bool.and_false, Bool.false_and, Bool.or_true, Bool.true_or, Bool.or_false, Bool.false_or, Bool.not_true, Bool.not_false, Bool.not_not, choicesOk, e1, e2]
    (refine W0 trivial ?_; try with_reducible intro K hK)
    exact Fin.is (.v (.bool (choicesOk x))) (by decide) rfl hK
end Go.Ag
namespace Go.Ag
open Go Go.Proofs
variable {G : Nat → Option (List V)}
attribute [local irreducible] aops qops Sat aop

def lnBad (x : Alt) (i : Nat) (l n : Str) : Bool := !placeB l || ((links x).take i).any (· == l) || !nameOk n || ((names x).take i).any (· == n) || (decide ((i : Int) > 1) && !Op.bytesLess ((names x).getD (i - 1) []) n)
def lnsOk (x : Alt) : Bool := (List.range (links x).length).all (fun i => !lnBad x i ((links x).getD i []) ((names x).getD i []))
def chInner (x : Alt) : Bool := (List.range x.choices.length).all (fun i => !(choBad x i (x.choices.getD i cho0) || (x.choices.getD i cho0).slaves.any subBad))
def manyBad (x : Alt) : Bool := decide ((x.slaves.length : Int) > 64) || decide ((x.choices.length : Int) < 1) || decide ((x.choices.length : Int) > 64)
def finalB (x : Alt) : Bool := decide (choAt x.choices x.cur ≥ 0) && (x.manual || choAt x.choices x.cur == best x.choices)
def rightR (x : Alt) : Bool := !manyBad x && lnsOk x && chInner x && finalB x
theorem links_len (x : Alt) : (links x).length = x.slaves.length + 1 := by simp [links]
theorem names_len (x : Alt) : (names x).length = x.slaves.length + 1 := by simp [names]
def altMid (x : Alt) : Prop := x.name.length ≤ 1000000 ∧ x.link.length ≤ 1000000 ∧ x.cur.length ≤ 1000000 ∧ x.slaves.length ≤ 1000000 ∧ x.choices.length ≤ 1000000 ∧ (∀ s ∈ x.slaves, s.name.length ≤ 1000000 ∧ s.link.length ≤ 1000000) ∧ ∀ c ∈ x.choices, c.path.length ≤ 1000000 ∧ c.slaves.length ≤ 1000000 ∧ ∀ t ∈ c.slaves, t.length ≤ 1000000
theorem altMid_of {x : Alt} (h : altSmall x) : altMid x := by
  obtain ⟨h1, h2, h3, h4, h5, h6, h7⟩ := h
  refine ⟨by omega, by omega, by omega, by omega, by omega, fun s hs => ?_, fun c hc => ?_⟩
  · obtain ⟨g1, g2⟩ := h6 s hs; omega
  · obtain ⟨g1, g2, g3⟩ := h7 c hc
    exact ⟨by omega, by omega, fun t ht => by have := g3 t ht; omega⟩
theorem links_mid {x : Alt} (h : altMid x) : ∀ l ∈ links x, l.length ≤ 1000000 := by
  intro l hl
  rcases List.mem_cons.1 hl with rfl | hl
  · exact h.2.1
  · obtain ⟨s, hs, rfl⟩ := List.mem_map.1 hl
    exact (h.2.2.2.2.2.1 s hs).2
theorem names_mid {x : Alt} (h : altMid x) : ∀ l ∈ names x, l.length ≤ 1000000 := by
  intro l hl
  rcases List.mem_cons.1 hl with rfl | hl
  · exact h.1
  · obtain ⟨s, hs, rfl⟩ := List.mem_map.1 hl
    exact (h.2.2.2.2.2.1 s hs).1

end Go.Ag
/- AGo, part 26: the library's work on strings in arrays of one's own. -/
namespace Go.Ag
open Go Go.RowKit Go.Sort Go.Proofs

def rowsS (l : List Str) : List (List D) := l.map fun s => [.v (.str s)]
theorem rowsS_flat (l : List Str) : (rowsS l).flatten = l.map fun s => .v (.str s) := by
  induction l with
  | nil => rfl
  | cons s l ih => simp only [rowsS, List.map_cons, List.flatten_cons] at ih ⊢; rw [ih]; rfl
theorem relL_strs {M : Mem} {μ : Mu} : ∀ l : List Str, RelL M μ (l.map fun s => .v (.str s)) (l.map encStr)
  | [] => by simp [RelL]
  | s :: l => by
    rw [List.map_cons, List.map_cons, RelL.cons_iff]
    exact ⟨by simp only [Rel, RelV], relL_strs l⟩
theorem rowsS_rows {M : Mem} {μ : Mu} {l : List Str} {vs : List Value} (h : vs.take l.length = l.map encStr) : Rows M μ 1 (rowsS l) vs := by
  refine Rows.of_flat (fun x hx => ?_) ?_
  · obtain ⟨s, _, rfl⟩ := List.mem_map.1 hx; rfl
  · refine ⟨vs, rfl, ?_⟩
    rw [rowsS_flat, show (rowsS l).length * 1 = l.length by simp [rowsS], h]; exact relL_strs l

/-- What lies in a block that is new is one's own from here on. -/
theorem R.adopt {E : Env} {M : Mem} {μ : Mu} {H : List Ob} {w : World} (h : R E M μ H w) {o : Ob} {p : Pt} (hf : ∀ i o q, H[i]? = some o → o ≠ .dead → μ i = some q → q.blk ≠ p.blk)
    (ho : ObRel E.w0.heap.size M (upd μ H.length p) w o p) : R E M (upd μ H.length p) (H ++ [o]) w := by
  have hle : μ.le (upd μ H.length p) := Mu.le_upd_new h.mu_new
  refine ⟨h.below, h.imm, h.glob, fun i q hq => ?_, fun i o' q ho' hq => ?_, ?_, fun i hi => (by
    by_cases e : i = H.length
    · subst e; exact ⟨p, upd_self _ _ _⟩
    · rw [upd_ne _ _ e]; exact h.tot i (by simp at hi; omega))⟩
  · by_cases e : i = H.length
    · subst e; simp
    · rw [upd_ne _ _ e] at hq; have := h.dom i q hq; simp; omega
  · by_cases e : i = H.length
    · subst e
      rw [upd_self] at hq; cases hq
      simp at ho'; subst ho'
      exact ho
    · rw [upd_ne _ _ e] at hq
      have hlt := h.dom i q hq
      rw [List.getElem?_append_left hlt] at ho'
      have hob := h.obj i o' q ho' hq
      by_cases hd : o' = .dead
      · subst hd; trivial
      · exact hob.same hle rfl
  · intro i j oi oj pi pj hij hi hj di dj hpi hpj
    by_cases ei : i = H.length
    · subst ei
      rw [upd_self] at hpi; cases hpi
      have ej : j ≠ H.length := fun e => hij e.symm
      rw [upd_ne _ _ ej] at hpj
      have hlt := h.dom j pj hpj
      rw [List.getElem?_append_left hlt] at hj
      exact (hf j oj pj hj dj hpj).symm
    · rw [upd_ne _ _ ei] at hpi
      have hlt := h.dom i pi hpi
      rw [List.getElem?_append_left hlt] at hi
      by_cases ej : j = H.length
      · subst ej
        rw [upd_self] at hpj; cases hpj
        exact hf i oi pi hi di hpi
      · rw [upd_ne _ _ ej] at hpj
        have hlt := h.dom j pj hpj
        rw [List.getElem?_append_left hlt] at hj
        exact h.sep i j oi oj pi pj hij hi hj di dj hpi hpj

theorem lib_Clone {P : Program} {G : Nat → Option (List V)} {f : FuncId} {H : List Ob} {K : D → List Ob → Prop} {t : TypeId} (hc : callB P f = true) (l : List Str) (hne : l ≠ [])
    (h : ∀ (b off n c : Nat) (zs : List ByteArray) (w : World) (hz : n ≤ zs.length) (hbig : n * 16 ≤ 140737488355328) (hc : ∀ j, j < zs.length → w.cell? ⟨b, off + j, none⟩ = some (.string (zs.getD j ByteArray.empty))),
      Calls P f #[.slice (some ⟨b, off, none⟩) n c] w fun e w' => ∃ v', e = .returned v' ∧ w'.ownsRow w.heap.size t 1 v' n ((zs.take n).map (Value.string)) ∧ v' ≠ .slice none 0 0 ∧ Below w.heap.size w w')
    (hbig : l.length * 16 ≤ 140737488355328) (hK : K (.own H.length 1 l.length) (H ++ [.arr 1 1 (rowsS l) 0])) : ACalls P G f [.v (.list 1 (l.map fun s => [.str s]))] H K := by
  refine ACalls.ofB hc fun E e1 e2 M μ w vs hr hv => ?_
  obtain ⟨y1, vs2, rfl, g1, g2⟩ := (by simpa only [RelL] using hv : ∃ v vs', vs = v :: vs' ∧ Rel M μ (.v (.list 1 (l.map fun s => [.str s]))) v ∧ RelL M μ [] vs')
  simp only [RelL] at g2; subst g2
  obtain ⟨A, c, rfl, hcap, hh⟩ := hr.strs g1
  rcases hh with rfl | ⟨b, o, rfl, hb, _, hcell⟩
  · exact absurd rfl hne
  have := h b o l.length c (l.map fun s => ByteArray.mk s.toArray) w (by simp) hbig (fun j hj => by
    obtain ⟨s, hs⟩ : ∃ s, l[j]? = some s := ⟨_, List.getElem?_eq_getElem (by simpa using hj)⟩
    rw [hcell j s hs]; simp [List.getD_eq_getElem?_getD, hs])
  refine this.mono ?_
  rintro e w' ⟨v', rfl, ⟨hxl, hown⟩, hnn, hbel⟩
  rcases hown with ⟨rfl, _⟩ | ⟨g, cap, cur, rfl, hg, hheap, hncap, hcm, hcs, htk⟩
  · exact absurd rfl hnn
  have hr' := hr.more hbel
  have hfresh : ∀ i o q, H[i]? = some o → o ≠ .dead → μ i = some q → q.blk ≠ g := fun i o q hi hd hq e => by
    have := (hr.obj i o q hi hq).lt hd; omega
  have hMg : ∀ o, M g o = none := fun o => by
    cases hy : M g o with
    | none => rfl
    | some y => have := hr.imm_lt hy; omega
  have htk' : cur.toList.take l.length = l.map encStr := by
    have e := htk
    rw [Nat.mul_one] at e
    rw [e, List.take_of_length_le (by simp), List.map_map]
    rfl
  have hR := hr'.adopt (o := .arr 1 1 (rowsS l) 0) (p := ⟨g, cap, 1⟩) hfresh
    ⟨Nat.le_trans hr.below.size hg, rfl, Nat.le_refl _, fun o y hy => (by rw [hMg o] at hy; cases hy), by simpa [rowsS] using hncap, cur.toList, t, by simpa using hheap, by simpa using hcs, rowsS_rows htk'⟩
  refine ⟨_, _, M, upd μ H.length ⟨g, cap, 1⟩, _, rfl, .refl _, Mu.le_upd_new hr.mu_new, hR, ?_, hK⟩
  simp only [Rel]
  exact ⟨⟨_, _, _, rfl⟩, _, upd_self _ _ _, Nat.le_refl _, Nat.le_refl _, fun _ => ⟨hncap, rfl⟩⟩

theorem heap_putRow_other {w : World} {n blk off k : Nat} {d : Array (List UInt8)} (h : k ≠ blk) : (putRow encStr (Sort.ahead w n) blk off d).heap[k]? = w.heap[k]? := by
  simp only [putRow, mapBlock, Sort.ahead, Array.getElem?_modify]
  rw [if_neg (fun e => h e.symm)]
theorem heap_putRow_self {w : World} {n blk off : Nat} {d : Array (List UInt8)} {cur : Array Value} {t : TypeId} {fr : Nat × Nat} (h : w.heap[blk]? = some (.cells cur t fr)) :
    (putRow encStr (Sort.ahead w n) blk off d).heap[blk]? = some (.cells (putCells encStr off d cur) t fr) := by
  simp only [putRow, mapBlock, Sort.ahead, Array.getElem?_modify, if_true, h, Option.map_some, onCells]

/-- An array of one's own, as a whole: other strings, as many. -/
theorem own_put {E : Env} {M : Mem} {μ : Mu} {H : List Ob} {w : World} (hr : R E M μ H w) {b ver : Nat} {l l' : List Str} {p : Pt} (n : Nat) (hb : H[b]? = some (.arr ver 1 (rowsS l) 0)) (hp : μ b = some p) (hl : l'.length = l.length) :
    R E M μ (H.set b (.arr ver 1 (rowsS l') 0)) (putRow encStr (Sort.ahead w n) p.blk 0 l'.toArray) := by
  obtain ⟨h1, h2, h3, h4, h5, vs, t, h6, h7, h8⟩ := hr.obj b _ p hb hp
  refine hr.setOb hb (by simp) hp rfl rfl rfl (by simp [putRow, mapBlock, Sort.ahead]) (fun k hk => heap_putRow_other hk) (fun o y hy => by have := h4 o y hy; omega) ?_
  refine ⟨h1, h2, h3, h4, by simpa [rowsS, hl] using h5, (putCells encStr 0 l'.toArray vs.toArray).toList, t, by simpa using heap_putRow_self h6, by simp [putCells, h7], rowsS_rows ?_⟩
  refine take_putCells _ _ ?_
  have : (rowsS l).length ≤ p.cap := h5
  simp only [rowsS, List.length_map] at this
  simp; omega

theorem own_val {E : Env} {M : Mem} {μ : Mu} {H : List Ob} {w : World} (hr : R E M μ H w) {b ver n : Nat} {l : List Str} {y : Value} (hb : H[b]? = some (.arr ver 1 (rowsS l) 0)) (hy : Rel M μ (.own b ver n) y) :
    ∃ p, μ b = some p ∧ p.ver = ver ∧ 1 ≤ ver ∧ n ≤ p.cap ∧ l.length ≤ p.cap ∧ y = .slice (some ⟨p.blk, 0, none⟩) n p.cap ∧ p.blk < w.heap.size ∧ Holds encStr w p.blk 0 l.toArray := by
  simp only [Rel] at hy
  obtain ⟨_, p, hp, _, _, h⟩ := hy
  obtain ⟨h1, h2, h3, h4, h5, vs, t, h6, h7, h8⟩ := hr.obj b _ p hb hp
  obtain ⟨g1, g2⟩ := h h2
  refine ⟨p, hp, h2, h3, g1, by simpa [rowsS] using h5, g2, (hr.obj b _ p hb hp).lt (by simp), fun j hj => ?_⟩
  have hj' : j < l.length := by simpa using hj
  obtain ⟨s, hs⟩ : ∃ s, l[j]? = some s := ⟨_, List.getElem?_eq_getElem hj'⟩
  obtain ⟨_, k2⟩ := h8 j [.v (.str s)] (by simp [rowsS, hs])
  obtain ⟨y, k3, k4⟩ := k2.get 0 (.v (.str s)) rfl
  simp only [Rel, RelV] at k4
  rw [Nat.mul_one, List.getElem?_take_of_lt (by decide), List.getElem?_drop, Nat.add_zero] at k3
  refine ⟨?_, ?_⟩
  · rw [Nat.zero_add, cell?_block h6, k3, k4]
    have : l.toArray[j]! = s := by
      rw [getElem!_pos _ _ (by simpa using hj')]
      simpa using (List.getElem?_eq_some_iff.1 hs).2
    rw [this]
  · simp [World.frozen?, h6]

theorem lib_Sort {P : Program} {G : Nat → Option (List V)} {f : FuncId} {H : List Ob} {K : D → List Ob → Prop} (hc : callB P f = true) (b ver : Nat) (l : List Str) (hb : H[b]? = some (.arr ver 1 (rowsS l) 0))
    (h : ∀ (blk off cap : Nat) (ss : List (List UInt8)) (w : World) (hH : Holds encStr w blk off ss.toArray) (hblk : blk < w.heap.size) (hsz : ss.length < 4611686018427387904),
      Calls P f #[.slice (some ⟨blk, off, none⟩) ss.length cap] w fun e w' => e = .returned (.tuple #[]) ∧ ∃ n os, w' = grow (putRow encStr (Sort.ahead w n) blk off (ss.mergeSort fun x y => decide (x ≤ y)).toArray) os)
    (hl : l.length < 4611686018427387904) (hK : K (.tup []) (H.set b (.arr ver 1 (rowsS (l.mergeSort fun x y => decide (x ≤ y))) 0))) : ACalls P G f [.own b ver l.length] H K := by
  refine ACalls.ofB hc fun E e1 e2 M μ w vs hr hv => ?_
  obtain ⟨y1, vs2, rfl, g1, g2⟩ := (by simpa only [RelL] using hv : ∃ v vs', vs = v :: vs' ∧ Rel M μ (.own b ver l.length) v ∧ RelL M μ [] vs')
  simp only [RelL] at g2; subst g2
  obtain ⟨p, hp, hpv, hv1, hn, hlc, rfl, hblk, hH⟩ := own_val hr hb g1
  refine (h p.blk 0 p.cap l w hH hblk hl).mono ?_
  rintro e w' ⟨rfl, n, os, rfl⟩
  have h1 := own_put hr (l' := l.mergeSort fun x y => decide (x ≤ y)) n hb hp (List.length_mergeSort _)
  have h2 := h1.more (w' := grow (putRow encStr (Sort.ahead w n) p.blk 0 (l.mergeSort fun x y => decide (x ≤ y)).toArray) os) ⟨rfl, rfl, rfl, by simp [grow], fun k hk => by
    simp only [grow]
    rw [Array.getElem?_append_left hk]⟩
  exact ⟨_, _, M, μ, _, rfl, .refl _, .refl _, h2, by simp only [Rel]; exact ⟨[], rfl, by simp [RelL]⟩, hK⟩

theorem lib_Compact {P : Program} {G : Nat → Option (List V)} {f : FuncId} {H : List Ob} {K : D → List Ob → Prop} (hc : callB P f = true) (b ver : Nat) (l : List Str) (hb : H[b]? = some (.arr ver 1 (rowsS l) 0))
    (h : ∀ (blk off cap : Nat) (zs : List (List UInt8)) (w : World) (hH : Holds encStr w blk off zs.toArray) (hsz : zs.length ≤ 9223372036854775807) (hcap : zs.length ≤ cap),
      Calls P f #[.slice (some ⟨blk, off, none⟩) zs.length cap] w fun e w' => e = .returned (.slice (some ⟨blk, off, none⟩) (Lib.compact zs).length cap) ∧ ∃ q, w' = putRow encStr (Sort.ahead w q) blk off (Lib.compact zs ++ List.replicate (zs.length - (Lib.compact zs).length) []).toArray)
    (hl : l.length ≤ 9223372036854775807) (hcl : (Lib.compact l).length ≤ l.length) (hK : K (.own b ver (Lib.compact l).length) (H.set b (.arr ver 1 (rowsS (Lib.compact l ++ List.replicate (l.length - (Lib.compact l).length) [])) 0))) : ACalls P G f [.own b ver l.length] H K := by
  refine ACalls.ofB hc fun E e1 e2 M μ w vs hr hv => ?_
  obtain ⟨y1, vs2, rfl, g1, g2⟩ := (by simpa only [RelL] using hv : ∃ v vs', vs = v :: vs' ∧ Rel M μ (.own b ver l.length) v ∧ RelL M μ [] vs')
  simp only [RelL] at g2; subst g2
  obtain ⟨p, hp, hpv, hv1, hn, hlc, rfl, hblk, hH⟩ := own_val hr hb g1
  refine (h p.blk 0 p.cap l w hH hl hlc).mono ?_
  rintro e w' ⟨rfl, q, rfl⟩
  have h1 := own_put hr (l' := Lib.compact l ++ List.replicate (l.length - (Lib.compact l).length) []) q hb hp (by simp; omega)
  refine ⟨_, _, M, μ, _, rfl, .refl _, .refl _, h1, ?_, hK⟩
  simp only [Rel]
  exact ⟨⟨_, _, _, rfl⟩, p, hp, by omega, hv1, fun _ => ⟨by omega, rfl⟩⟩
end Go.Ag
