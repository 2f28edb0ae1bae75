import Derived.Test.YtbiajjcolfhioaaDoorAgDe
set_option linter.all false
namespace Go.Ag
open Go Go.Proofs
variable {G : Nat → Option (List V)}
attribute [local irreducible] aops qops Sat aop

theorem spec_rplace (s : Str) (hs : s.length ≤ 1099511627) (H : List Ob) (K : D → List Ob → Prop) (hK : K (.v (.bool (placeB s))) H) : ACalls Tryd.prog G 69 [.v (.str s)] H K := by
  refine ACalls.go Tryd.f69 _ 9 [2] Tryd.func69 rfl Tryd.ntmps69 (by kernel_rfl) rfl (by simp) (fun E hE hP hG hH => ?_)
  have hM : E.P.follows .mixedOrders = true := hP ▸ mixed
  subst hH
  simp only [args0]
  repeat (first | refine wa ?_ | refine wb rfl ?_ | refine wc rfl rfl hM ?_ | refine wd rfl hM ?_ | ((first | refine we rfl fun K hK => ?_ | refine wf rfl rfl fun K hK => ?_ | refine wg rfl rfl fun K hK => ?_ | refine wh rfl fun K hK => ?_); (simp only [lo, ld, ↓aop, ↓aCall, hP, hG, Nat.reduceLT, ↓reduceIte, Nat.reduceEqDiff, Nat.reduceAdd, Nat.reduceMul, Nat.reduceLeDiff, reduceCtorEq, D.cs, D.plain, fillD, chop, List.replicate]; repeat (with_reducible refine And.intro ?_ ?_; focus (first | decide | omega | (simp only [ln]; omega)))); try ((first | refine hK _ _ ?_ | refine hK _ ?_); clear hK K; simp only [lp])) | ((first | refine wi ?_ | refine wj ?_ | refine wk ?_ | refine wl ?_ | refine wm ?_ | refine wn ?_); simp only [lt, ↓reduceIte, Nat.reduceEqDiff]) | refine wo ?_)
  refine sat_thru (fr 9 [(2, .v (.bool (placeB s)))]) E.H0 ?_ ?_
  · (first | refine wr ?_ | refine wp rfl hM ?_ | refine wq hM ?_); repeat' (first | ((first | refine wx ?_ | refine wy ?_ | refine wz ?_); (simp only [lo, ld, ↓aop, ↓aCall, hP, hG, Nat.reduceLT, ↓reduceIte, Nat.reduceEqDiff, Nat.reduceAdd, Nat.reduceMul, Nat.reduceLeDiff, reduceCtorEq, D.cs, D.plain, fillD, chop, List.replicate, tk_9, ze_9, sz_9]; repeat (with_reducible refine And.intro ?_ ?_; focus (first | decide | omega | (simp only [ln]; omega)))); try ((first | refine hK _ _ ?_ | refine hK _ ?_); clear hK K; simp only [lp])) | refine we rfl fun K hK => ?_ | refine wf rfl rfl fun K hK => ?_ | refine wg rfl rfl fun K hK => ?_ | refine wh rfl fun K hK => ?_ | ((first | refine Xg rfl rfl (by decide) ?_ fun K hK => ?_ | refine Yg rfl rfl (by decide) ?_ fun K hK => ?_ | refine Zg rfl rfl rfl (by decide) ?_ fun K hK => ?_); (focus (simp only [look_cons, ↓reduceIte, Nat.reduceEqDiff, Bool.not_true, Bool.not_false]; done))) | ((first | refine Xn rfl rfl (by decide) ?_ ?_ | refine Yn rfl rfl (by decide) ?_ ?_ | refine Zn rfl rfl rfl (by decide) ?_ ?_); (focus (simp only [look_cons, ↓reduceIte, Nat.reduceEqDiff, Bool.not_true, Bool.not_false]; done)); simp only [lp]) | ((first | refine Xo rfl rfl (by decide) ?_ ?_ | refine Yo rfl rfl (by decide) ?_ ?_ | refine Zo rfl rfl rfl (by decide) ?_ ?_); (focus (simp only [look_cons, ↓reduceIte, Nat.reduceEqDiff, Bool.not_true, Bool.not_false]; done)); simp only [lp]) | ((first | refine Xs rfl rfl (by decide) rfl (fun h K hK => ?_) fun h => ?_ | refine Ys rfl rfl (by decide) rfl (fun h K hK => ?_) fun h => ?_ | refine Zs rfl rfl rfl (by decide) rfl (fun h K hK => ?_) fun h => ?_); rotate_left; (focus (simp only [Bool.not_true, Bool.not_false, lp])); rotate_left) | ((first | refine wi ?_ | refine wj ?_ | refine wk ?_); simp only [lt, ↓reduceIte, Nat.reduceEqDiff]))
    refine spec_rRight s hs _ _ (hK _ _ ?_)
    clear hK K; simp only [lp]
    repeat' (first | ((first | refine wx ?_ | refine wy ?_ | refine wz ?_); (simp only [lo, ld, ↓aop, ↓aCall, hP, hG, Nat.reduceLT, ↓reduceIte, Nat.reduceEqDiff, Nat.reduceAdd, Nat.reduceMul, Nat.reduceLeDiff, reduceCtorEq, D.cs, D.plain, fillD, chop, List.replicate, tk_9, ze_9, sz_9]; repeat (with_reducible refine And.intro ?_ ?_; focus (first | decide | omega | (simp only [ln]; omega)))); try ((first | refine hK _ _ ?_ | refine hK _ ?_); clear hK K; simp only [lp])) | refine we rfl fun K hK => ?_ | refine wf rfl rfl fun K hK => ?_ | refine wg rfl rfl fun K hK => ?_ | refine wh rfl fun K hK => ?_ | ((first | refine Xg rfl rfl (by decide) ?_ fun K hK => ?_ | refine Yg rfl rfl (by decide) ?_ fun K hK => ?_ | refine Zg rfl rfl rfl (by decide) ?_ fun K hK => ?_); (focus (simp only [look_cons, ↓reduceIte, Nat.reduceEqDiff, Bool.not_true, Bool.not_false]; done))) | ((first | refine Xn rfl rfl (by decide) ?_ ?_ | refine Yn rfl rfl (by decide) ?_ ?_ | refine Zn rfl rfl rfl (by decide) ?_ ?_); (focus (simp only [look_cons, ↓reduceIte, Nat.reduceEqDiff, Bool.not_true, Bool.not_false]; done)); simp only [lp]) | ((first | refine Xo rfl rfl (by decide) ?_ ?_ | refine Yo rfl rfl (by decide) ?_ ?_ | refine Zo rfl rfl rfl (by decide) ?_ ?_); (focus (simp only [look_cons, ↓reduceIte, Nat.reduceEqDiff, Bool.not_true, Bool.not_false]; done)); simp only [lp]) | ((first | refine Xs rfl rfl (by decide) rfl (fun h K hK => ?_) fun h => ?_ | refine Ys rfl rfl (by decide) rfl (fun h K hK => ?_) fun h => ?_ | refine Zs rfl rfl rfl (by decide) rfl (fun h K hK => ?_) fun h => ?_); rotate_left; (focus (simp only [Bool.not_true, Bool.not_false, lp])); rotate_left) | ((first | refine wi ?_ | refine wj ?_ | refine wk ?_); simp only [lt, ↓reduceIte, Nat.reduceEqDiff]))
    all_goals refine .weakFr ?_
    all_goals simp only [le, ↓reduceIte, Nat.reduceEqDiff, and_true]; repeat' (first | exact trivial | exact D.le_refl _ | exact D.le_any _ | with_reducible refine And.intro ?_ ?_)
    all_goals refine D.le_eq (congrArg D.v (congrArg V.bool ?_)); (try simp only [Bool.not_eq_eq_eq_not, Bool.not_true, Bool.not_false] at *); simp only [*, List.getD_eq_getElem?_getD, Bool.and_true, Bool.true_and, Bool.and_false, Bool.false_and, Bool.or_true, Bool.true_or, Bool.or_false, Bool.false_or, Bool.not_true, Bool.not_false, Bool.not_not, placeB]
  repeat (first | refine wa ?_ | refine wb rfl ?_ | refine wc rfl rfl hM ?_ | refine wd rfl hM ?_ | ((first | refine we rfl fun K hK => ?_ | refine wf rfl rfl fun K hK => ?_ | refine wg rfl rfl fun K hK => ?_ | refine wh rfl fun K hK => ?_); (simp only [lo, ld, ↓aop, ↓aCall, hP, hG, Nat.reduceLT, ↓reduceIte, Nat.reduceEqDiff, Nat.reduceAdd, Nat.reduceMul, Nat.reduceLeDiff, reduceCtorEq, D.cs, D.plain, fillD, chop, List.replicate]; repeat (with_reducible refine And.intro ?_ ?_; focus (first | decide | omega | (simp only [ln]; omega)))); try ((first | refine hK _ _ ?_ | refine hK _ ?_); clear hK K; simp only [lp])) | ((first | refine wi ?_ | refine wj ?_ | refine wk ?_ | refine wl ?_ | refine wm ?_ | refine wn ?_); simp only [lt, ↓reduceIte, Nat.reduceEqDiff]) | refine wo ?_)
  exact Fin.is (.v (.bool (placeB s))) (by decide) rfl hK

set_option maxHeartbeats 4000000 in
theorem spec_Has (l : List Str) (s : Str) (hl : l.length ≤ 1099511627776) (H : List Ob) (K : D → List Ob → Prop) (hK : K (.v (.bool (l.any (· == s)))) H) : ACalls Tryd.prog G 70 [.v (strs l), .v (.str s)] H K := by
  refine ACalls.go Tryd.f70 _ 18 [4] Tryd.func70 rfl Tryd.ntmps70 (by kernel_rfl) rfl (by simp) (fun E hE hP hG hH => ?_)
  have hM : E.P.follows .mixedOrders = true := hP ▸ mixed
  subst hH
  simp only [args0]
  repeat (first | refine wa ?_ | refine wb rfl ?_ | refine wc rfl rfl hM ?_ | refine wd rfl hM ?_ | ((first | refine we rfl fun K hK => ?_ | refine wf rfl rfl fun K hK => ?_ | refine wg rfl rfl fun K hK => ?_ | refine wh rfl fun K hK => ?_); (simp only [lo, ld, ↓aop, ↓aCall, hP, hG, Nat.reduceLT, ↓reduceIte, Nat.reduceEqDiff, Nat.reduceAdd, Nat.reduceMul, Nat.reduceLeDiff, reduceCtorEq, D.cs, D.plain, fillD, chop, List.replicate]; repeat (with_reducible refine And.intro ?_ ?_; focus (first | decide | omega | (simp only [ln]; omega)))); try ((first | refine hK _ _ ?_ | refine hK _ ?_); clear hK K; simp only [lp])) | ((first | refine wi ?_ | refine wj ?_ | refine wk ?_ | refine wl ?_ | refine wm ?_ | refine wn ?_); simp only [lt, ↓reduceIte, Nat.reduceEqDiff]) | refine wo ?_)
  refine sat_loop_ent (fun n ts H => ∃ (i : Nat), n = l.length - i ∧ i ≤ l.length ∧ (l.take i).any (· == s) = false ∧
    ts = fr 18 [(5, .v (.int .i64 i)), (1, .v (.str s)), (0, .v (strs l))] ∧ H = E.H0) (l.length) (.weakFr ?_) ⟨0, rfl, Nat.zero_le _, rfl, rfl, rfl⟩ ?_
  · simp only [le, ↓reduceIte, Nat.reduceEqDiff, and_true]; repeat' (first | exact trivial | exact D.le_refl _ | exact D.le_any _ | with_reducible refine And.intro ?_ ?_)
  rintro n ts H ⟨i, rfl, hi, hall, rfl, rfl⟩
  repeat (first | refine wa ?_ | refine wb rfl ?_ | refine wc rfl rfl hM ?_ | refine wd rfl hM ?_ | ((first | refine we rfl fun K hK => ?_ | refine wf rfl rfl fun K hK => ?_ | refine wg rfl rfl fun K hK => ?_ | refine wh rfl fun K hK => ?_); (simp only [lo, ld, ↓aop, ↓aCall, hP, hG, Nat.reduceLT, ↓reduceIte, Nat.reduceEqDiff, Nat.reduceAdd, Nat.reduceMul, Nat.reduceLeDiff, reduceCtorEq, D.cs, D.plain, fillD, chop, List.replicate, strs, tk_9, ze_9, sz_9, tk_50, ze_50, sz_50]; repeat (with_reducible refine And.intro ?_ ?_; focus (first | decide | omega | (simp only [ln]; omega)))); try ((first | refine hK _ _ ?_ | refine hK _ ?_); clear hK K; simp only [lp])) | ((first | refine wi ?_ | refine wj ?_ | refine wk ?_ | refine wl ?_ | refine wm ?_ | refine wn ?_); simp only [lt, ↓reduceIte, Nat.reduceEqDiff]) | refine wo ?_)
  refine sat_cond rfl (fun hc => ?_) (fun hc => ?_)
  · simp at hc
    obtain ⟨x, hx⟩ : ∃ x, l[i]? = some x := ⟨_, List.getElem?_eq_getElem hc⟩
    have hw := wrap_succ (i := i) (by omega)
    repeat (first | refine wa ?_ | refine wb rfl ?_ | refine wc rfl rfl hM ?_ | refine wd rfl hM ?_ | ((first | refine we rfl fun K hK => ?_ | refine wf rfl rfl fun K hK => ?_ | refine wg rfl rfl fun K hK => ?_ | refine wh rfl fun K hK => ?_); (simp only [lo, ld, ↓aop, ↓aCall, hP, hG, Nat.reduceLT, ↓reduceIte, Nat.reduceEqDiff, Nat.reduceAdd, Nat.reduceMul, Nat.reduceLeDiff, reduceCtorEq, D.cs, D.plain, fillD, chop, List.replicate, strs, tk_9, ze_9, sz_9, tk_50, ze_50, sz_50, hc, hx]; repeat (with_reducible refine And.intro ?_ ?_; focus (first | decide | omega | (simp only [ln]; omega)))); try ((first | refine hK _ _ ?_ | refine hK _ ?_); clear hK K; simp only [lp])) | ((first | refine wi ?_ | refine wj ?_ | refine wk ?_ | refine wl ?_ | refine wm ?_ | refine wn ?_); simp only [lt, ↓reduceIte, Nat.reduceEqDiff]) | refine wo ?_)
    refine sat_cond rfl (fun hb => ?_) (fun hb => ?_)
    · repeat (first | refine wa ?_ | refine wb rfl ?_ | refine wc rfl rfl hM ?_ | refine wd rfl hM ?_ | ((first | refine we rfl fun K hK => ?_ | refine wf rfl rfl fun K hK => ?_ | refine wg rfl rfl fun K hK => ?_ | refine wh rfl fun K hK => ?_); (simp only [lo, ld, ↓aop, ↓aCall, hP, hG, Nat.reduceLT, ↓reduceIte, Nat.reduceEqDiff, Nat.reduceAdd, Nat.reduceMul, Nat.reduceLeDiff, reduceCtorEq, D.cs, D.plain, fillD, chop, List.replicate]; repeat (with_reducible refine And.intro ?_ ?_; focus (first | decide | omega | (simp only [ln]; omega)))); try ((first | refine hK _ _ ?_ | refine hK _ ?_); clear hK K; simp only [lp])) | ((first | refine wi ?_ | refine wj ?_ | refine wk ?_ | refine wl ?_ | refine wm ?_ | refine wn ?_); simp only [lt, ↓reduceIte, Nat.reduceEqDiff]) | refine wo ?_)
      refine Fin.is (.v (.bool true)) (by decide) rfl ?_
      have : l.any (· == s) = true := List.any_eq_true.2 ⟨x, List.mem_of_getElem? hx, hb⟩
      rwa [this] at hK
    · repeat (first | refine wa ?_ | refine wb rfl ?_ | refine wc rfl rfl hM ?_ | refine wd rfl hM ?_ | ((first | refine we rfl fun K hK => ?_ | refine wf rfl rfl fun K hK => ?_ | refine wg rfl rfl fun K hK => ?_ | refine wh rfl fun K hK => ?_); (simp only [lo, ld, ↓aop, ↓aCall, hP, hG, Nat.reduceLT, ↓reduceIte, Nat.reduceEqDiff, Nat.reduceAdd, Nat.reduceMul, Nat.reduceLeDiff, reduceCtorEq, D.cs, D.plain, fillD, chop, List.replicate, hw]; repeat (with_reducible refine And.intro ?_ ?_; focus (first | decide | omega | (simp only [ln]; omega)))); try ((first | refine hK _ _ ?_ | refine hK _ ?_); clear hK K; simp only [lp])) | ((first | refine wi ?_ | refine wj ?_ | refine wk ?_ | refine wl ?_ | refine wm ?_ | refine wn ?_); simp only [lt, ↓reduceIte, Nat.reduceEqDiff]) | refine wo ?_)
      refine ⟨l.length - (i + 1), _, _, by omega, .weakFr ?_, i + 1, rfl, by omega, ?_, rfl, rfl⟩
      · simp only [le, ↓reduceIte, Nat.reduceEqDiff, and_true]; repeat' (first | exact trivial | exact D.le_refl _ | exact D.le_any _ | with_reducible refine And.intro ?_ ?_)
      · rw [take_snoc hx, List.any_append, hall]; simp [hb]
  · simp at hc
    have e : l.take i = l := List.take_of_length_le (by omega)
    rw [e] at hall
    repeat (first | refine wa ?_ | refine wb rfl ?_ | refine wc rfl rfl hM ?_ | refine wd rfl hM ?_ | ((first | refine we rfl fun K hK => ?_ | refine wf rfl rfl fun K hK => ?_ | refine wg rfl rfl fun K hK => ?_ | refine wh rfl fun K hK => ?_); (simp only [lo, ld, ↓aop, ↓aCall, hP, hG, Nat.reduceLT, ↓reduceIte, Nat.reduceEqDiff, Nat.reduceAdd, Nat.reduceMul, Nat.reduceLeDiff, reduceCtorEq, D.cs, D.plain, fillD, chop, List.replicate]; repeat (with_reducible refine And.intro ?_ ?_; focus (first | decide | omega | (simp only [ln]; omega)))); try ((first | refine hK _ _ ?_ | refine hK _ ?_); clear hK K; simp only [lp])) | ((first | refine wi ?_ | refine wj ?_ | refine wk ?_ | refine wl ?_ | refine wm ?_ | refine wn ?_); simp only [lt, ↓reduceIte, Nat.reduceEqDiff]) | refine wo ?_)
    refine Fin.is (.v (.bool false)) (by decide) rfl ?_
    rwa [hall] at hK

set_option maxHeartbeats 4000000 in
theorem spec_rLinks (x : Alt) (hx : x.slaves.length ≤ 1099511627776) (H : List Ob) (K : D → List Ob → Prop) (hK : K (.v (strs (links x))) H) : ACalls Tryd.prog G 26 [altd x] H K := by
  refine ACalls.go Tryd.f26 _ 25 [2] Tryd.func26 rfl Tryd.ntmps26 (by kernel_rfl) rfl (by simp) (fun E hE hP hG hH => ?_)
  have hM : E.P.follows .mixedOrders = true := hP ▸ mixed
  subst hH
  simp only [args0, altd]
  repeat (first | refine wa ?_ | refine wb rfl ?_ | refine wc rfl rfl hM ?_ | refine wd rfl hM ?_ | ((first | refine we rfl fun K hK => ?_ | refine wf rfl rfl fun K hK => ?_ | refine wg rfl rfl fun K hK => ?_ | refine wh rfl fun K hK => ?_); (simp only [lo, ld, ↓aop, ↓aCall, hP, hG, Nat.reduceLT, ↓reduceIte, Nat.reduceEqDiff, Nat.reduceAdd, Nat.reduceMul, Nat.reduceLeDiff, reduceCtorEq, D.cs, D.plain, fillD, chop, List.replicate, tk_9, ze_9, sz_9, tk_43, ze_43, sz_43, tk_46, ze_46, sz_46, kn_46, tk_50, ze_50, sz_50, tk_73, ze_73, sz_73, kn_73]; repeat (with_reducible refine And.intro ?_ ?_; focus (first | decide | omega | (simp only [ln]; omega)))); try ((first | refine hK _ _ ?_ | refine hK _ ?_); clear hK K; simp only [lp])) | ((first | refine wi ?_ | refine wj ?_ | refine wk ?_ | refine wl ?_ | refine wm ?_ | refine wn ?_); simp only [lt, ↓reduceIte, Nat.reduceEqDiff]) | refine wo ?_)
  refine sat_loop_ent (fun n ts H => ∃ (i ver : Nat) (out : List Str), n = x.slaves.length - i ∧ i ≤ x.slaves.length ∧ 1 ≤ ver ∧ out = x.link :: (x.slaves.take i).map (·.link) ∧
    ts = fr 25 [(4, .v (.int .i64 i)), (3, .own (E.H0.length + 1) ver out.length), (1, .ptr E.H0.length 0)] ∧
    H = E.H0 ++ [.box [.v (.str x.name), .v (.str x.link), .v (.bool x.manual), .v (.str x.cur), .v (slvs x.slaves), .v (chos x.choices)], .arr ver 1 (out.map fun s => [.v (.str s)]) 0]) (x.slaves.length) (.weakFr ?_) ⟨0, 1, _, rfl, Nat.zero_le _, Nat.le_refl _, rfl, rfl, rfl⟩ ?_
  · simp only [le, ↓reduceIte, Nat.reduceEqDiff, and_true]; repeat' (first | exact trivial | exact D.le_refl _ | exact D.le_any _ | with_reducible refine And.intro ?_ ?_)
  · rintro n ts H ⟨i, ver, out, rfl, hi, hv, ho, rfl, rfl⟩
    have hol : out.length = i + 1 := by subst ho; simp; omega
    repeat (first | refine wa ?_ | refine wb rfl ?_ | refine wc rfl rfl hM ?_ | refine wd rfl hM ?_ | ((first | refine we rfl fun K hK => ?_ | refine wf rfl rfl fun K hK => ?_ | refine wg rfl rfl fun K hK => ?_ | refine wh rfl fun K hK => ?_); (simp only [lo, ld, ↓aop, ↓aCall, hP, hG, Nat.reduceLT, ↓reduceIte, Nat.reduceEqDiff, Nat.reduceAdd, Nat.reduceMul, Nat.reduceLeDiff, reduceCtorEq, D.cs, D.plain, fillD, chop, List.replicate, slvs, tk_9, ze_9, sz_9, tk_43, ze_43, sz_43, tk_46, ze_46, sz_46, kn_46, tk_50, ze_50, sz_50, tk_73, ze_73, sz_73, kn_73]; repeat (with_reducible refine And.intro ?_ ?_; focus (first | decide | omega | (simp only [ln]; omega)))); try ((first | refine hK _ _ ?_ | refine hK _ ?_); clear hK K; simp only [lp])) | ((first | refine wi ?_ | refine wj ?_ | refine wk ?_ | refine wl ?_ | refine wm ?_ | refine wn ?_); simp only [lt, ↓reduceIte, Nat.reduceEqDiff]) | refine wo ?_)
    refine sat_cond rfl (fun hb => ?_) (fun hb => ?_)
    · simp only [decide_eq_true_eq, Int.ofNat_lt] at hb
      obtain ⟨s, hs⟩ : ∃ s, x.slaves[i]? = some s := ⟨_, List.getElem?_eq_getElem hb⟩
      have hw := wrap_succ (i := i) (by omega)
      repeat (first | refine wa ?_ | refine wb rfl ?_ | refine wc rfl rfl hM ?_ | refine wd rfl hM ?_ | ((first | refine we rfl fun K hK => ?_ | refine wf rfl rfl fun K hK => ?_ | refine wg rfl rfl fun K hK => ?_ | refine wh rfl fun K hK => ?_); (simp only [lo, ld, ↓aop, ↓aCall, hP, hG, Nat.reduceLT, ↓reduceIte, Nat.reduceEqDiff, Nat.reduceAdd, Nat.reduceMul, Nat.reduceLeDiff, reduceCtorEq, D.cs, D.plain, fillD, chop, List.replicate, slvs, tk_9, ze_9, sz_9, tk_43, ze_43, sz_43, tk_46, ze_46, sz_46, kn_46, tk_50, ze_50, sz_50, tk_73, ze_73, sz_73, kn_73, hs, hb, hw]; repeat (with_reducible refine And.intro ?_ ?_; focus (first | decide | omega | (simp only [ln]; omega)))); try ((first | refine hK _ _ ?_ | refine hK _ ?_); clear hK K; simp only [lp])) | ((first | refine wi ?_ | refine wj ?_ | refine wk ?_ | refine wl ?_ | refine wm ?_ | refine wn ?_); simp only [lt, ↓reduceIte, Nat.reduceEqDiff]) | refine wo ?_)
      refine ⟨x.slaves.length - (i + 1), _, _, by omega, ?_, i + 1, ver + 1, out ++ [s.link], rfl, by omega, by omega, by simp [ho, List.take_add_one, hs], rfl, rfl⟩
      refine Ent.rnd hE ?_ ?_ ?_ ?_
      · simp only [List.length_append, List.length_cons, List.length_nil]; simp only [le, ↓reduceIte, Nat.reduceEqDiff, and_true]; repeat' (first | exact trivial | exact D.le_refl _ | exact D.le_any _ | with_reducible refine And.intro ?_ ?_)
      · simp [slvs]
      · simp [ltAll, ltObs, Ob.lt, D.lt, D.ltL, or_imp, forall_and]
      · simp [ltAll, ltObs, Ob.lt, D.lt, D.ltL, or_imp, forall_and]
    · simp only [decide_eq_false_iff_not, Int.ofNat_lt, Nat.not_lt] at hb
      repeat (first | refine wa ?_ | refine wb rfl ?_ | refine wc rfl rfl hM ?_ | refine wd rfl hM ?_ | ((first | refine we rfl fun K hK => ?_ | refine wf rfl rfl fun K hK => ?_ | refine wg rfl rfl fun K hK => ?_ | refine wh rfl fun K hK => ?_); (simp only [lo, ld, ↓aop, ↓aCall, hP, hG, Nat.reduceLT, ↓reduceIte, Nat.reduceEqDiff, Nat.reduceAdd, Nat.reduceMul, Nat.reduceLeDiff, reduceCtorEq, D.cs, D.plain, fillD, chop, List.replicate, slvs]; repeat (with_reducible refine And.intro ?_ ?_; focus (first | decide | omega | (simp only [ln]; omega)))); try ((first | refine hK _ _ ?_ | refine hK _ ?_); clear hK K; simp only [lp])) | ((first | refine wi ?_ | refine wj ?_ | refine wk ?_ | refine wl ?_ | refine wm ?_ | refine wn ?_); simp only [lt, ↓reduceIte, Nat.reduceEqDiff]) | refine wo ?_)
      have e : i = x.slaves.length := by omega
      have ho : out = links x := by rw [ho, e, take_len]; rfl
      subst ho
      refine Fin.pub 1 ver 1 0 (links x).length ((links x).map fun s => [.str s]) hE (by decide) rfl ?_ (Nat.zero_le _) (by simp) ?_
      · simp
      · simpa only [strs, take_len_map] using hK
set_option maxHeartbeats 4000000 in
theorem spec_rNames (x : Alt) (hx : x.slaves.length ≤ 1099511627776) (H : List Ob) (K : D → List Ob → Prop) (hK : K (.v (strs (names x))) H) : ACalls Tryd.prog G 53 [altd x] H K := by
  refine ACalls.go Tryd.f53 _ 25 [2] Tryd.func53 rfl Tryd.ntmps53 (by kernel_rfl) rfl (by simp) (fun E hE hP hG hH => ?_)
  have hM : E.P.follows .mixedOrders = true := hP ▸ mixed
  subst hH
  simp only [args0, altd]
  repeat (first | refine wa ?_ | refine wb rfl ?_ | refine wc rfl rfl hM ?_ | refine wd rfl hM ?_ | ((first | refine we rfl fun K hK => ?_ | refine wf rfl rfl fun K hK => ?_ | refine wg rfl rfl fun K hK => ?_ | refine wh rfl fun K hK => ?_); (simp only [lo, ld, ↓aop, ↓aCall, hP, hG, Nat.reduceLT, ↓reduceIte, Nat.reduceEqDiff, Nat.reduceAdd, Nat.reduceMul, Nat.reduceLeDiff, reduceCtorEq, D.cs, D.plain, fillD, chop, List.replicate, tk_9, ze_9, sz_9, tk_43, ze_43, sz_43, tk_46, ze_46, sz_46, kn_46, tk_50, ze_50, sz_50, tk_73, ze_73, sz_73, kn_73]; repeat (with_reducible refine And.intro ?_ ?_; focus (first | decide | omega | (simp only [ln]; omega)))); try ((first | refine hK _ _ ?_ | refine hK _ ?_); clear hK K; simp only [lp])) | ((first | refine wi ?_ | refine wj ?_ | refine wk ?_ | refine wl ?_ | refine wm ?_ | refine wn ?_); simp only [lt, ↓reduceIte, Nat.reduceEqDiff]) | refine wo ?_)
  refine sat_loop_ent (fun n ts H => ∃ (i ver : Nat) (out : List Str), n = x.slaves.length - i ∧ i ≤ x.slaves.length ∧ 1 ≤ ver ∧ out = x.name :: (x.slaves.take i).map (·.name) ∧
    ts = fr 25 [(4, .v (.int .i64 i)), (3, .own (E.H0.length + 1) ver out.length), (1, .ptr E.H0.length 0)] ∧
    H = E.H0 ++ [.box [.v (.str x.name), .v (.str x.link), .v (.bool x.manual), .v (.str x.cur), .v (slvs x.slaves), .v (chos x.choices)], .arr ver 1 (out.map fun s => [.v (.str s)]) 0]) (x.slaves.length) (.weakFr ?_) ⟨0, 1, _, rfl, Nat.zero_le _, Nat.le_refl _, rfl, rfl, rfl⟩ ?_
  · simp only [le, ↓reduceIte, Nat.reduceEqDiff, and_true]; repeat' (first | exact trivial | exact D.le_refl _ | exact D.le_any _ | with_reducible refine And.intro ?_ ?_)
  · rintro n ts H ⟨i, ver, out, rfl, hi, hv, ho, rfl, rfl⟩
    have hol : out.length = i + 1 := by subst ho; simp; omega
    repeat (first | refine wa ?_ | refine wb rfl ?_ | refine wc rfl rfl hM ?_ | refine wd rfl hM ?_ | ((first | refine we rfl fun K hK => ?_ | refine wf rfl rfl fun K hK => ?_ | refine wg rfl rfl fun K hK => ?_ | refine wh rfl fun K hK => ?_); (simp only [lo, ld, ↓aop, ↓aCall, hP, hG, Nat.reduceLT, ↓reduceIte, Nat.reduceEqDiff, Nat.reduceAdd, Nat.reduceMul, Nat.reduceLeDiff, reduceCtorEq, D.cs, D.plain, fillD, chop, List.replicate, slvs, tk_9, ze_9, sz_9, tk_43, ze_43, sz_43, tk_46, ze_46, sz_46, kn_46, tk_50, ze_50, sz_50, tk_73, ze_73, sz_73, kn_73]; repeat (with_reducible refine And.intro ?_ ?_; focus (first | decide | omega | (simp only [ln]; omega)))); try ((first | refine hK _ _ ?_ | refine hK _ ?_); clear hK K; simp only [lp])) | ((first | refine wi ?_ | refine wj ?_ | refine wk ?_ | refine wl ?_ | refine wm ?_ | refine wn ?_); simp only [lt, ↓reduceIte, Nat.reduceEqDiff]) | refine wo ?_)
    refine sat_cond rfl (fun hb => ?_) (fun hb => ?_)
    · simp only [decide_eq_true_eq, Int.ofNat_lt] at hb
      obtain ⟨s, hs⟩ : ∃ s, x.slaves[i]? = some s := ⟨_, List.getElem?_eq_getElem hb⟩
      have hw := wrap_succ (i := i) (by omega)
      repeat (first | refine wa ?_ | refine wb rfl ?_ | refine wc rfl rfl hM ?_ | refine wd rfl hM ?_ | ((first | refine we rfl fun K hK => ?_ | refine wf rfl rfl fun K hK => ?_ | refine wg rfl rfl fun K hK => ?_ | refine wh rfl fun K hK => ?_); (simp only [lo, ld, ↓aop, ↓aCall, hP, hG, Nat.reduceLT, ↓reduceIte, Nat.reduceEqDiff, Nat.reduceAdd, Nat.reduceMul, Nat.reduceLeDiff, reduceCtorEq, D.cs, D.plain, fillD, chop, List.replicate, slvs, tk_9, ze_9, sz_9, tk_43, ze_43, sz_43, tk_46, ze_46, sz_46, kn_46, tk_50, ze_50, sz_50, tk_73, ze_73, sz_73, kn_73, hs, hb, hw]; repeat (with_reducible refine And.intro ?_ ?_; focus (first | decide | omega | (simp only [ln]; omega)))); try ((first | refine hK _ _ ?_ | refine hK _ ?_); clear hK K; simp only [lp])) | ((first | refine wi ?_ | refine wj ?_ | refine wk ?_ | refine wl ?_ | refine wm ?_ | refine wn ?_); simp only [lt, ↓reduceIte, Nat.reduceEqDiff]) | refine wo ?_)
      refine ⟨x.slaves.length - (i + 1), _, _, by omega, ?_, i + 1, ver + 1, out ++ [s.name], rfl, by omega, by omega, by simp [ho, List.take_add_one, hs], rfl, rfl⟩
      refine Ent.rnd hE ?_ ?_ ?_ ?_
      · simp only [List.length_append, List.length_cons, List.length_nil]; simp only [le, ↓reduceIte, Nat.reduceEqDiff, and_true]; repeat' (first | exact trivial | exact D.le_refl _ | exact D.le_any _ | with_reducible refine And.intro ?_ ?_)
      · simp [slvs]
      · simp [ltAll, ltObs, Ob.lt, D.lt, D.ltL, or_imp, forall_and]
      · simp [ltAll, ltObs, Ob.lt, D.lt, D.ltL, or_imp, forall_and]
    · simp only [decide_eq_false_iff_not, Int.ofNat_lt, Nat.not_lt] at hb
      repeat (first | refine wa ?_ | refine wb rfl ?_ | refine wc rfl rfl hM ?_ | refine wd rfl hM ?_ | ((first | refine we rfl fun K hK => ?_ | refine wf rfl rfl fun K hK => ?_ | refine wg rfl rfl fun K hK => ?_ | refine wh rfl fun K hK => ?_); (simp only [lo, ld, ↓aop, ↓aCall, hP, hG, Nat.reduceLT, ↓reduceIte, Nat.reduceEqDiff, Nat.reduceAdd, Nat.reduceMul, Nat.reduceLeDiff, reduceCtorEq, D.cs, D.plain, fillD, chop, List.replicate, slvs]; repeat (with_reducible refine And.intro ?_ ?_; focus (first | decide | omega | (simp only [ln]; omega)))); try ((first | refine hK _ _ ?_ | refine hK _ ?_); clear hK K; simp only [lp])) | ((first | refine wi ?_ | refine wj ?_ | refine wk ?_ | refine wl ?_ | refine wm ?_ | refine wn ?_); simp only [lt, ↓reduceIte, Nat.reduceEqDiff]) | refine wo ?_)
      have e : i = x.slaves.length := by omega
      have ho : out = names x := by rw [ho, e, take_len]; rfl
      subst ho
      refine Fin.pub 1 ver 1 0 (names x).length ((names x).map fun s => [.str s]) hE (by decide) rfl ?_ (Nat.zero_le _) (by simp) ?_
      · simp
      · simpa only [strs, take_len_map] using hK

set_option maxHeartbeats 4000000 in
theorem spec_rChoice (x : Alt) (p : Str) (hl : x.choices.length ≤ 1099511627776) (H : List Ob) (K : D → List Ob → Prop) (hK : K (.v (.int .i64 (choAt x.choices p))) H) : ACalls Tryd.prog G 71 [altd x, .v (.str p)] H K := by
  refine ACalls.go Tryd.f71 _ 22 [4] Tryd.func71 rfl Tryd.ntmps71 (by kernel_rfl) rfl (by simp) (fun E hE hP hG hH => ?_)
  have hM : E.P.follows .mixedOrders = true := hP ▸ mixed
  subst hH
  simp only [args0, altd]
  repeat (first | refine wa ?_ | refine wb rfl ?_ | refine wc rfl rfl hM ?_ | refine wd rfl hM ?_ | ((first | refine we rfl fun K hK => ?_ | refine wf rfl rfl fun K hK => ?_ | refine wg rfl rfl fun K hK => ?_ | refine wh rfl fun K hK => ?_); (simp only [lo, ld, ↓aop, ↓aCall, hP, hG, Nat.reduceLT, ↓reduceIte, Nat.reduceEqDiff, Nat.reduceAdd, Nat.reduceMul, Nat.reduceLeDiff, reduceCtorEq, D.cs, D.plain, fillD, chop, List.replicate, tk_9, ze_9, sz_9, tk_52, ze_52, sz_52, kn_52, tk_46, ze_46, sz_46, kn_46, tk_44, ze_44, sz_44]; repeat (with_reducible refine And.intro ?_ ?_; focus (first | decide | omega | (simp only [ln]; omega)))); try ((first | refine hK _ _ ?_ | refine hK _ ?_); clear hK K; simp only [lp])) | ((first | refine wi ?_ | refine wj ?_ | refine wk ?_ | refine wl ?_ | refine wm ?_ | refine wn ?_); simp only [lt, ↓reduceIte, Nat.reduceEqDiff]) | refine wo ?_)
  refine sat_loop_ent (fun n ts H => ∃ (i : Nat), n = x.choices.length - i ∧ i ≤ x.choices.length ∧ (x.choices.take i).any (fun c => c.path == p) = false ∧
    ts = fr 22 [(5, .v (.int .i64 i)), (2, .ptr E.H0.length 0), (1, .v (.str p))] ∧ H = E.H0 ++ [.box [.v (.str x.name), .v (.str x.link), .v (.bool x.manual), .v (.str x.cur), .v (slvs x.slaves), .v (chos x.choices)]]) (x.choices.length) (.weakFr ?_) ⟨0, rfl, Nat.zero_le _, rfl, rfl, rfl⟩ ?_
  · simp only [le, ↓reduceIte, Nat.reduceEqDiff, and_true]; repeat' (first | exact trivial | exact D.le_refl _ | exact D.le_any _ | with_reducible refine And.intro ?_ ?_)
  rintro n ts H ⟨i, rfl, hi, hall, rfl, rfl⟩
  repeat (first | refine wa ?_ | refine wb rfl ?_ | refine wc rfl rfl hM ?_ | refine wd rfl hM ?_ | ((first | refine we rfl fun K hK => ?_ | refine wf rfl rfl fun K hK => ?_ | refine wg rfl rfl fun K hK => ?_ | refine wh rfl fun K hK => ?_); (simp only [lo, ld, ↓aop, ↓aCall, hP, hG, Nat.reduceLT, ↓reduceIte, Nat.reduceEqDiff, Nat.reduceAdd, Nat.reduceMul, Nat.reduceLeDiff, reduceCtorEq, D.cs, D.plain, fillD, chop, List.replicate, chos, tk_3, ze_3, sz_3, tk_9, ze_9, sz_9, tk_44, ze_44, sz_44, tk_52, ze_52, sz_52, kn_52, tk_46, ze_46, sz_46, kn_46]; repeat (with_reducible refine And.intro ?_ ?_; focus (first | decide | omega | (simp only [ln]; omega)))); try ((first | refine hK _ _ ?_ | refine hK _ ?_); clear hK K; simp only [lp])) | ((first | refine wi ?_ | refine wj ?_ | refine wk ?_ | refine wl ?_ | refine wm ?_ | refine wn ?_); simp only [lt, ↓reduceIte, Nat.reduceEqDiff]) | refine wo ?_)
  refine sat_cond rfl (fun hc => ?_) (fun hc => ?_)
  · simp at hc
    obtain ⟨c, hx⟩ : ∃ c, x.choices[i]? = some c := ⟨_, List.getElem?_eq_getElem hc⟩
    have hw := wrap_succ (i := i) (by omega)
    repeat (first | refine wa ?_ | refine wb rfl ?_ | refine wc rfl rfl hM ?_ | refine wd rfl hM ?_ | ((first | refine we rfl fun K hK => ?_ | refine wf rfl rfl fun K hK => ?_ | refine wg rfl rfl fun K hK => ?_ | refine wh rfl fun K hK => ?_); (simp only [lo, ld, ↓aop, ↓aCall, hP, hG, Nat.reduceLT, ↓reduceIte, Nat.reduceEqDiff, Nat.reduceAdd, Nat.reduceMul, Nat.reduceLeDiff, reduceCtorEq, D.cs, D.plain, fillD, chop, List.replicate, chos, tk_3, ze_3, sz_3, tk_9, ze_9, sz_9, tk_44, ze_44, sz_44, tk_52, ze_52, sz_52, kn_52, tk_46, ze_46, sz_46, kn_46, hc, hx]; repeat (with_reducible refine And.intro ?_ ?_; focus (first | decide | omega | (simp only [ln]; omega)))); try ((first | refine hK _ _ ?_ | refine hK _ ?_); clear hK K; simp only [lp])) | ((first | refine wi ?_ | refine wj ?_ | refine wk ?_ | refine wl ?_ | refine wm ?_ | refine wn ?_); simp only [lt, ↓reduceIte, Nat.reduceEqDiff]) | refine wo ?_)
    refine sat_cond rfl (fun hb => ?_) (fun hb => ?_)
    · repeat (first | refine wa ?_ | refine wb rfl ?_ | refine wc rfl rfl hM ?_ | refine wd rfl hM ?_ | ((first | refine we rfl fun K hK => ?_ | refine wf rfl rfl fun K hK => ?_ | refine wg rfl rfl fun K hK => ?_ | refine wh rfl fun K hK => ?_); (simp only [lo, ld, ↓aop, ↓aCall, hP, hG, Nat.reduceLT, ↓reduceIte, Nat.reduceEqDiff, Nat.reduceAdd, Nat.reduceMul, Nat.reduceLeDiff, reduceCtorEq, D.cs, D.plain, fillD, chop, List.replicate]; repeat (with_reducible refine And.intro ?_ ?_; focus (first | decide | omega | (simp only [ln]; omega)))); try ((first | refine hK _ _ ?_ | refine hK _ ?_); clear hK K; simp only [lp])) | ((first | refine wi ?_ | refine wj ?_ | refine wk ?_ | refine wl ?_ | refine wm ?_ | refine wn ?_); simp only [lt, ↓reduceIte, Nat.reduceEqDiff]) | refine wo ?_)
      refine Fin.gc (.v (.int .i64 i)) hE (by decide) rfl (by simp only [D.lt]) ?_
      rwa [choAt, findIdx_hit hx hb hall] at hK
    · repeat (first | refine wa ?_ | refine wb rfl ?_ | refine wc rfl rfl hM ?_ | refine wd rfl hM ?_ | ((first | refine we rfl fun K hK => ?_ | refine wf rfl rfl fun K hK => ?_ | refine wg rfl rfl fun K hK => ?_ | refine wh rfl fun K hK => ?_); (simp only [lo, ld, ↓aop, ↓aCall, hP, hG, Nat.reduceLT, ↓reduceIte, Nat.reduceEqDiff, Nat.reduceAdd, Nat.reduceMul, Nat.reduceLeDiff, reduceCtorEq, D.cs, D.plain, fillD, chop, List.replicate, hw]; repeat (with_reducible refine And.intro ?_ ?_; focus (first | decide | omega | (simp only [ln]; omega)))); try ((first | refine hK _ _ ?_ | refine hK _ ?_); clear hK K; simp only [lp])) | ((first | refine wi ?_ | refine wj ?_ | refine wk ?_ | refine wl ?_ | refine wm ?_ | refine wn ?_); simp only [lt, ↓reduceIte, Nat.reduceEqDiff]) | refine wo ?_)
      refine ⟨x.choices.length - (i + 1), _, _, by omega, .weakFr ?_, i + 1, rfl, by omega, ?_, rfl, rfl⟩
      · simp only [le, ↓reduceIte, Nat.reduceEqDiff, and_true]; repeat' (first | exact trivial | exact D.le_refl _ | exact D.le_any _ | with_reducible refine And.intro ?_ ?_)
      · rw [take_snoc hx, List.any_append, hall]; simp [hb]
  · simp at hc
    have e : x.choices.take i = x.choices := List.take_of_length_le (by omega)
    rw [e] at hall
    repeat (first | refine wa ?_ | refine wb rfl ?_ | refine wc rfl rfl hM ?_ | refine wd rfl hM ?_ | ((first | refine we rfl fun K hK => ?_ | refine wf rfl rfl fun K hK => ?_ | refine wg rfl rfl fun K hK => ?_ | refine wh rfl fun K hK => ?_); (simp only [lo, ld, ↓aop, ↓aCall, hP, hG, Nat.reduceLT, ↓reduceIte, Nat.reduceEqDiff, Nat.reduceAdd, Nat.reduceMul, Nat.reduceLeDiff, reduceCtorEq, D.cs, D.plain, fillD, chop, List.replicate]; repeat (with_reducible refine And.intro ?_ ?_; focus (first | decide | omega | (simp only [ln]; omega)))); try ((first | refine hK _ _ ?_ | refine hK _ ?_); clear hK K; simp only [lp])) | ((first | refine wi ?_ | refine wj ?_ | refine wk ?_ | refine wl ?_ | refine wm ?_ | refine wn ?_); simp only [lt, ↓reduceIte, Nat.reduceEqDiff]) | refine wo ?_)
    refine Fin.gc (.v (.int .i64 (-1))) hE (by decide) rfl (by simp only [D.lt]) ?_
    rwa [choAt, findIdx_miss hall] at hK
end Go.Ag
/- AGo, part 27: a box that stays as it is; an array that is told by value to a call. -/
namespace Go.Ag
open Go Go.RowKit

theorem relL_imp {M M' : Mem} {μ μ' : Mu} {f g : Nat → D} (h : ∀ i y, Rel M μ (f i) y → Rel M' μ' (g i) y) : ∀ (l : List Nat) (vs : List Value), RelL M μ (l.map f) vs → RelL M' μ' (l.map g) vs
  | [], vs, hv => by simpa only [List.map_nil, RelL] using hv
  | i :: l, vs, hv => by
    rw [List.map_cons, RelL.cons] at hv ⊢
    obtain ⟨v, vs', rfl, h1, h2⟩ := hv
    exact ⟨v, vs', rfl, h i v h1, relL_imp h l vs' h2⟩
theorem relRow_of_relL {M : Mem} {μ : Mu} {b : Nat} {cs : List V} {vs : List Value} (hr : RelL M μ (cs.map .v) vs) {M' : Mem} (hle : M.le M') (hm : ∀ o, M' b o = vs[o]?) : RelRow M' b 0 cs :=
  RelRow.of_get fun j x hx => by
    obtain ⟨y, h1, h2⟩ := hr.get j (.v x) (by rw [List.getElem?_map, hx]; rfl)
    simp only [Rel] at h2
    have h3 : Rel M' μ (.v x) y := Rel.mono hle (.refl _) (by simp only [Rel]; exact h2)
    simp only [Rel] at h3
    exact ⟨y, by rw [Nat.zero_add, hm, h1], h3⟩

theorem R.freeze {E : Env} {M : Mem} {μ : Mu} {H : List Ob} {w : World} (h : R E M μ H w) {b : Nat} {cs : List V} {p : Pt} (hb : H[b]? = some (.box (cs.map .v))) (hp : μ b = some p) :
    ∃ M', M.le M' ∧ R E M' μ (H.set b .dead) w ∧ RelRow M' p.blk 0 cs := by
  obtain ⟨h1, h2, h3, vs, t, h4, h5⟩ := h.obj b _ p hb hp
  have hle : M.le (memWith M p.blk vs) := memWith_le h3
  have hlt : b < H.length := h.dom b p hp
  refine ⟨memWith M p.blk vs, hle, ?_, relRow_of_relL h5 hle (memWith_self M p.blk vs)⟩
  have back : ∀ (j : Nat) (oj : Ob), (H.set b .dead)[j]? = some oj → oj ≠ .dead → H[j]? = some oj ∧ j ≠ b := fun j oj hj dj => by
    by_cases e : j = b
    · subst e
      rw [List.getElem?_set_self hlt] at hj; cases hj; exact absurd rfl dj
    · rw [List.getElem?_set_ne (fun x => e x.symm)] at hj; exact ⟨hj, e⟩
  refine ⟨h.below, fun b' o y hy => ?_, fun g cs hg => (h.glob g cs hg).mono hle, fun j q hq => by simpa using h.dom j q hq, fun j oj q hj hq => ?_, fun i j oi oj pi pj hij hi hj di dj hpi hpj => h.sep i j oi oj pi pj hij (back i oi hi di).1 (back j oj hj dj).1 di dj hpi hpj, fun j hj => h.tot j (by simpa using hj)⟩
  · by_cases e : b' = p.blk
    · subst e
      rw [memWith_self] at hy
      rw [cell?_block h4]; exact hy
    · simp only [memWith, e, if_false] at hy; exact h.imm b' o y hy
  · by_cases hd : oj = .dead
    · subst hd; trivial
    obtain ⟨hj', hjb⟩ := back j oj hj hd
    have hob := h.obj j oj q hj' hq
    have hne : q.blk ≠ p.blk := h.sep j b oj _ q p hjb hj' hb hd (by simp) hq hp
    cases oj with
    | dead => trivial
    | box ds =>
      obtain ⟨a1, a2, a3, ws, t, a4, a5⟩ := hob
      exact ⟨a1, a2, fun o => by simp only [memWith, hne, if_false]; exact a3 o, ws, t, a4, a5.mono hle (.refl _)⟩
    | arr ver sz xs esc =>
      obtain ⟨a1, a2, a3, a4, a5, ws, t, a6, a7, a8⟩ := hob
      exact ⟨a1, a2, a3, fun o y hy => by simp only [memWith, hne, if_false] at hy; exact a4 o y hy, a5, ws, t, a6, a7, a8.mono hle (.refl _)⟩
    | mp es =>
      obtain ⟨a1, a2, a3, ents, c, a4, a5, a6, a7⟩ := hob
      exact ⟨a1, a2, fun o => by simp only [memWith, hne, if_false]; exact a3 o, ents, c, a4, a5.mono hle (.refl _), a6, a7⟩

/-- A box is told to stay as it is. -/
theorem Ent.freeze {E : Env} {n : Nat} {l : List (Nat × D)} {H : List Ob} (s b : Nat) (cs : List V) (l' : List (Nat × D)) (hb : H[b]? = some (.box (cs.map .v))) (hd : look l s = .ptr b 0) (h1 : leAll l l') :
    Ent E (fr n l) H (fr n ((s, .rptr cs) :: l')) (H.set b .dead) := by
  refine (Ent.weakFr (l' := (s, .ptr b 0) :: l') ⟨hd ▸ D.le_refl _, h1⟩).trans ?_
  intro M μ w vs g1 g2 hr ht
  obtain ⟨p, hp⟩ := hr.tot b (List.getElem?_eq_some_iff.1 hb).1
  obtain ⟨M', k1, k2, k3⟩ := hr.freeze hb hp
  refine ⟨M', μ, g1.trans k1, g2, k2, relL_imp (fun i y hy => ?_) _ _ ht⟩
  simp only [look_cons] at hy ⊢
  split
  · rename_i e
    rw [if_pos e] at hy
    simp only [Rel] at hy ⊢
    obtain ⟨q, hq, _, rfl⟩ := hy
    rw [hp] at hq; cases hq
    exact ⟨p.blk, 0, rfl, k3⟩
  · rename_i e
    rw [if_neg e] at hy
    exact Rel.mono k1 (.refl _) hy

/-- An array of one's own is told to a call by value. -/
theorem ACalls.pub {P : Program} {G : Nat → Option (List V)} {f : FuncId} {H : List Ob} {K : D → List Ob → Prop} (b : Nat) {ver sz len esc : Nat} (ys : List (List V)) (hb : H[b]? = some (.arr ver sz (ys.map (·.map .v)) esc)) (he : esc ≤ ys.length) (hl : len ≤ ys.length)
    (h : ACalls P G f [.v (.list sz (ys.take len))] (H.set b (.arr ver sz (ys.map (·.map .v)) ys.length)) K) : ACalls P G f [.own b ver len] H K := by
  refine ⟨h.1, ?_⟩
  rintro ⟨P', G', w0, M0, μ0, H0⟩ e1 e2 M μ w vs hr hv
  have hR : R ⟨P', G', w0, M, μ, H⟩ M μ H w := ⟨hr.below, hr.imm, hr.glob, hr.dom, hr.obj, hr.sep, hr.tot⟩
  obtain ⟨M', μ', g1, g2, g3, g4⟩ := Ent.pub (E := ⟨P', G', w0, M, μ, H⟩) (ts := [.own b ver len]) b ys hb (by simpa using he) rfl M μ w vs (.refl _) (.refl _) hR hv
  have e : D.convL b ver sz ys [.own b ver len] = [.v (.list sz (ys.take len))] := by
    simp only [D.convL, D.conv, true_and, hl, if_true]
  rw [e] at g4
  have hR2 : R ⟨P', G', w0, M0, μ0, H0⟩ M' μ' (H.set b (.arr ver sz (ys.map (·.map .v)) ys.length)) w := ⟨g3.below, g3.imm, g3.glob, g3.dom, g3.obj, g3.sep, g3.tot⟩
  refine (h.2 ⟨P', G', w0, M0, μ0, H0⟩ e1 e2 M' μ' w vs hR2 g4).mono ?_
  rintro e w' ⟨v, d, M'', μ'', H'', a1, a2, a3, a4, a5, a6⟩
  exact ⟨v, d, M'', μ'', H'', a1, g1.trans a2, g2.trans a3, a4, a5, a6⟩

theorem ACalls.pubL {P : Program} {G : Nat → Option (List V)} {f : FuncId} {H : List Ob} {K : D → List Ob → Prop} {args : List D} (b : Nat) {ver sz esc : Nat} (ys : List (List V)) (hb : H[b]? = some (.arr ver sz (ys.map (·.map .v)) esc)) (he : esc ≤ ys.length)
    (h : ACalls P G f (D.convL b ver sz ys args) (H.set b (.arr ver sz (ys.map (·.map .v)) ys.length)) K) : ACalls P G f args H K := by
  refine ⟨h.1, ?_⟩
  rintro ⟨P', G', w0, M0, μ0, H0⟩ e1 e2 M μ w vs hr hv
  have hR : R ⟨P', G', w0, M, μ, H⟩ M μ H w := ⟨hr.below, hr.imm, hr.glob, hr.dom, hr.obj, hr.sep, hr.tot⟩
  obtain ⟨M', μ', g1, g2, g3, g4⟩ := Ent.pub (E := ⟨P', G', w0, M, μ, H⟩) (ts := args) b ys hb (by simpa using he) rfl M μ w vs (.refl _) (.refl _) hR hv
  have hR2 : R ⟨P', G', w0, M0, μ0, H0⟩ M' μ' (H.set b (.arr ver sz (ys.map (·.map .v)) ys.length)) w := ⟨g3.below, g3.imm, g3.glob, g3.dom, g3.obj, g3.sep, g3.tot⟩
  refine (h.2 ⟨P', G', w0, M0, μ0, H0⟩ e1 e2 M' μ' w vs hR2 g4).mono ?_
  rintro e w' ⟨v, d, M'', μ'', H'', a1, a2, a3, a4, a5, a6⟩
  exact ⟨v, d, M'', μ'', H'', a1, g1.trans a2, g2.trans a3, a4, a5, a6⟩
theorem ACalls.pub1 {P : Program} {G : Nat → Option (List V)} {f : FuncId} {H : List Ob} {K : D → List Ob → Prop} {y : V} (b : Nat) {ver sz len esc : Nat} (ys : List (List V)) (hb : H[b]? = some (.arr ver sz (ys.map (·.map .v)) esc)) (he : esc ≤ ys.length) (hl : len ≤ ys.length)
    (h : ACalls P G f [.v (.list sz (ys.take len)), .v y] (H.set b (.arr ver sz (ys.map (·.map .v)) ys.length)) K) : ACalls P G f [.own b ver len, .v y] H K := by
  refine ACalls.pubL b ys hb he ?_
  have e : D.convL b ver sz ys [.own b ver len, .v y] = [.v (.list sz (ys.take len)), .v y] := by
    simp only [D.convL, D.conv, true_and, hl, if_true]
  rw [e]; exact h
end Go.Ag
/- AGo, part 30: a function whose first result is a variable's content; arrays told by value where a box holds them. -/
namespace Go.Ag
open Go Go.RowKit

/-- What is asked behind the body, where the first result is loaded. -/
def KC (E : Env) (t : TypeId) (K : D → List Ob → Prop) : D → List Ob → Prop := fun d H => ∃ b e, d = .tup [.ptr b 0, e] ∧ aLoad E.P t (.ptr b 0) H fun d => ∃ d' e' H3, Ent E [d, e] H [d', e'] H3 ∧ K (.tup [d', e']) H3

theorem results_runC {P : Program} {w : World} {fn : Func} {x : Tmp} {t : TypeId} {s : Tmp} (hr : fn.results.toList = [.cell x t, .tmp s]) (a : Array Value) {ad : Addr} {v : Value} (ha : a.getD x undef = .pointer (some ad)) (hl : (Instr.loadAt t (.pointer (some ad))).run P w = .ok v w) :
    (results fn a).run P w = Result.ok (.tuple #[v, a.getD s undef]) w := by
  have hres : fn.results = #[.cell x t, .tmp s] := by apply Array.toList_inj.1; simpa using hr
  have hl2 : (loadVar t ad).run P w = .ok v w := by simpa [Instr.loadAt, Instr.sureAddr] using hl
  unfold results
  rw [hres, Array.mapM_eq_mapM_toList]
  have ha2 : a[x]?.getD undef = .pointer (some ad) := by simpa using ha
  simp [List.mapM_cons, Sem.run_bind, Sem.run_pure, ha2, asAddr, hl2, Result.andThen]

theorem ACalls.bodyC {P : Program} {G : Nat → Option (List V)} {f : FuncId} {args : List D} {H : List Ob} {K : D → List Ob → Prop} (fn : Func) (c : Code) (x : Tmp) (t : TypeId) (s : Tmp) (hf : P.funcs[f]? = some fn) (hb : fn.body = some c) (hc : callB P f = true) (hr : fn.results.toList = [.cell x t, .tmp s])
    (h : ∀ E : Env, E.P = P → E.G = G → E.H0 = H → E.Closed → Sat E c (args ++ List.replicate (fn.ntmps - args.length) (.tup [])) H fun e ts H' => (e = .normal ∨ e = .ret) ∧ ∃ ts' H'', Ent E ts H' ts' H'' ∧ KC E t K (retD [x, s] ts') H'') : ACalls P G f args H K := by
  refine ⟨hc, ?_⟩
  rintro ⟨P', G', w0, M0, μ0, H0⟩ e1 e2 M μ w vs h1 h2
  simp only at e1 e2
  subst e1; subst e2
  have hcl : Env.Closed ⟨P', G', w0, M, μ, H⟩ := ⟨h1.tot, h1.dom, fun i o p ho hp => (h1.obj i o p ho hp).olt h1.dom⟩
  have hR : R ⟨P', G', w0, M, μ, H⟩ M μ H w := ⟨h1.below, h1.imm, h1.glob, h1.dom, h1.obj, h1.sep, h1.tot⟩
  have hl := h2.length
  refine calls_of_wp hf hb (wp_mono (h ⟨P', G', w0, M, μ, H⟩ rfl rfl rfl hcl M μ w ⟨vs.toArray ++ Array.replicate (fn.ntmps - vs.toArray.size) undef, []⟩ (Mem.le.refl _) (Mu.le.refl _) hR ?_ rfl) ?_)
  · simp only [Array.toList_append, List.toList_toArray, Array.toList_replicate, List.size_toArray, hl]
    refine h2.append ?_
    generalize fn.ntmps - args.length = n
    induction n with
    | zero => simp [RelL]
    | succ n ih => rw [List.replicate_succ, List.replicate_succ, RelL.cons_iff]; exact ⟨by simp only [Rel, RelL]; exact ⟨[], rfl, rfl⟩, ih⟩
  · rintro e a' w' ⟨M', μ', ts', H', g1, g2, g3, g4, g5, g6, ts2, H2, g7, b, e0, hre, hld⟩
    obtain ⟨M2, μ2, k1, k2, k3, k4⟩ := g7 M' μ' w' _ g1 g2 g3 g4
    simp only [retD, List.map, D.tup.injEq, List.cons.injEq, and_true] at hre
    obtain ⟨hx, hs⟩ := hre
    have rx := getD_rel k4 x
    have rs := getD_rel k4 s
    rw [hx] at rx; rw [hs] at rs
    obtain ⟨v, d, q1, q2, d', e', H3, q3, q4⟩ := aLoad_sound k3 rx hld
    obtain ⟨M3, μ3, m1, m2, m3, m4⟩ := q3 M2 μ2 w' [v, a'.tmps.getD s undef] (k1) (k2) k3 (by simp only [RelL]; exact ⟨_, _, rfl, q2, _, _, rfl, rs, rfl⟩)
    have hptr : ∃ ad, a'.tmps.getD x undef = .pointer (some ad) := by
      simp only [Rel] at rx
      obtain ⟨p, _, _, e⟩ := rx
      exact ⟨_, e⟩
    obtain ⟨ad, hptr⟩ := hptr
    rw [hptr] at q1
    have hval : Rel M3 μ3 (.tup [d', e']) (.tuple #[v, a'.tmps.getD s undef]) := by
      simp only [Rel]
      exact ⟨_, rfl, m4⟩
    have hfin : ∃ v, (results fn a'.tmps).run P' w' = .ok v w' ∧ ∃ v_1 d M' μ' H', Ending.returned v = .returned v_1 ∧ M.le M' ∧ μ.le μ' ∧ R ⟨P', G', w0, M0, μ0, H0⟩ M' μ' H' w' ∧ Rel M' μ' d v_1 ∧ K d H' :=
      ⟨_, results_runC hr _ hptr q1, _, _, M3, μ3, H3, rfl, m1, m2, ⟨m3.below, m3.imm, m3.glob, m3.dom, m3.obj, m3.sep, m3.tot⟩, hval, q4⟩
    rcases g6 with rfl | rfl
    · exact ⟨g5, hfin⟩
    · exact ⟨g5, hfin⟩

theorem ACalls.goC {P : Program} {G : Nat → Option (List V)} {f : FuncId} {args : List D} {H : List Ob} {K : D → List Ob → Prop} (fn : Func) (c : Code) (n : Nat) (x : Tmp) (t : TypeId) (s : Tmp) (hf : P.funcs[f]? = some fn) (hb : fn.body = some c) (hn : fn.ntmps = n) (hc : callB P f = true) (hr : fn.results.toList = [.cell x t, .tmp s]) (hl : args.length ≤ n)
    (h : ∀ E : Env, E.Closed → E.P = P → E.G = G → E.H0 = H → Sat E c (fr n (args0 0 args)) H (Out E [x, s] (KC E t K))) : ACalls P G f args H K := by
  refine ACalls.bodyC fn c x t s hf hb hc hr ?_
  rintro E e1 e2 e3 hcl
  refine sat_ent (Ent.weak ?_) ((h E hcl e1 e2 e3).mono ?_)
  · rw [hn]
    have hlen : (args ++ List.replicate (n - args.length) (D.tup [])).length = n := by simp; omega
    have e : args ++ List.replicate (n - args.length) (D.tup []) = (List.range n).map fun i => (args ++ List.replicate (n - args.length) (D.tup [])).getD i (.tup []) := by
      apply List.ext_getElem?
      intro i
      rw [List.getElem?_map]
      by_cases hi : i < n
      · rw [List.getElem?_range hi, List.getElem?_eq_getElem (by omega)]
        simp only [Option.map_some, List.getD_eq_getElem?_getD]
        rw [List.getElem?_eq_getElem (by omega)]; rfl
      · rw [List.getElem?_eq_none (by omega), List.getElem?_eq_none (by simp; omega)]; rfl
    rw [e]
    refine leL_map _ _ _ fun i => ?_
    by_cases hi : i < args.length
    · have h1 := look_args args 0 i args[i] (List.getElem?_eq_getElem hi)
      rw [Nat.zero_add] at h1
      rw [h1, List.getD_eq_getElem?_getD, List.getElem?_append_left hi, List.getElem?_eq_getElem hi]
      exact D.le_refl _
    · have h1 := look_args_none args 0 i (by omega)
      rw [Nat.zero_add] at h1
      rw [h1]; exact D.le_any _
  · intro e ts H hq
    cases e with
    | normal => exact ⟨.inl rfl, hq⟩
    | ret => exact ⟨.inr rfl, hq⟩
    | exit i => exact hq.elim
    | _ => exact hq.elim

/-- Its end: the variable's box holds data alone; all that was made is forgotten. -/
theorem Fin.cell {E : Env} {n : Nat} {l : List (Nat × D)} {L : List Ob} {x : Tmp} {t : TypeId} {s : Tmp} {K : D → List Ob → Prop} (k : Nat) (cs : List V) (e : V) (hE : E.Closed) (hx : x < n) (hs : s < n) (hdx : look l x = .ptr (E.H0.length + k) 0) (hds : look l s = .v e)
    (hL : L[k]? = some (.box (cs.map .v))) (ht : (tk E.P t).row = some cs.length) (h : K (.tup [.agg (cs.map .v), .v e]) E.H0) : Fin E (fr n l) (E.H0 ++ L) [x, s] (KC E t K) := by
  refine Fin.here ⟨E.H0.length + k, .v e, ?_, ?_⟩
  · simp only [retD, List.map, getD_fr hx, getD_fr hs, hdx, hds]
  · unfold aLoad
    rw [ht]
    simp only [hp_get, hL]
    refine ⟨by simp, _, _, _, ?_, h⟩
    have e1 : ((cs.map D.v).drop 0).take cs.length = cs.map .v := by rw [List.drop_zero]; exact List.take_of_length_le (by simp)
    rw [e1]
    have := Ent.gc (E := E) (ts := [D.agg (cs.map .v), .v e]) (H := E.H0 ++ L) E.H0.length hE (Nat.le_refl _) (by simp only [D.ltL, D.lt, and_true]; exact ltL_v _ _) (fun i o hi ho => by
      rw [List.getElem?_append_left hi] at ho; exact .inl ho)
    rwa [List.take_left] at this

/-- Another telling of an object that is there. -/
theorem R.reOb {E : Env} {M : Mem} {μ : Mu} {H : List Ob} {w : World} (h : R E M μ H w) {k : Nat} {o o' : Ob} (hk : H[k]? = some o) (hl : o ≠ .dead) (ho : ∀ p, μ k = some p → ObRel E.w0.heap.size M μ w o p → ObRel E.w0.heap.size M μ w o' p) : R E M μ (H.set k o') w := by
  have hlt : k < H.length := (List.getElem?_eq_some_iff.1 hk).1
  have back : ∀ (j : Nat) (oj : Ob), (H.set k o')[j]? = some oj → oj ≠ .dead → ∃ oj', H[j]? = some oj' ∧ oj' ≠ .dead := fun j oj hj dj => by
    by_cases e : j = k
    · subst e; exact ⟨_, hk, hl⟩
    · rw [List.getElem?_set_ne (fun x => e x.symm)] at hj; exact ⟨oj, hj, dj⟩
  refine ⟨h.below, h.imm, h.glob, fun j q hq => by simpa using h.dom j q hq, fun j oj q hj hq => ?_, fun i j oi oj pi pj hij hi hj di dj hpi hpj => ?_, fun j hj => h.tot j (by simpa using hj)⟩
  · by_cases e : j = k
    · subst e
      rw [List.getElem?_set_self hlt] at hj; cases hj
      exact ho q hq (h.obj j o q hk hq)
    · rw [List.getElem?_set_ne (fun x => e x.symm)] at hj
      exact h.obj j oj q hj hq
  · obtain ⟨oi', hi', di'⟩ := back i oi hi di
    obtain ⟨oj', hj', dj'⟩ := back j oj hj dj
    exact h.sep i j oi' oj' pi pj hij hi' hj' di' dj' hpi hpj

/-- An array's rows are told, by value: in the slots, and in a box. -/
theorem Ent.pubBox {E : Env} {ts : List D} {H : List Ob} (b k : Nat) {ver sz esc : Nat} {cs : List D} (ys : List (List V)) (hb : H[b]? = some (.arr ver sz (ys.map (·.map .v)) esc)) (hk : H[k]? = some (.box cs)) (he : esc ≤ ys.length) :
    Ent E ts H (D.convL b ver sz ys ts) ((H.set b (.arr ver sz (ys.map (·.map .v)) ys.length)).set k (.box (D.convL b ver sz ys cs))) := by
  intro M μ w vs h1 h2 h3 h4
  obtain ⟨p, hp⟩ := h3.tot b (List.getElem?_eq_some_iff.1 hb).1
  obtain ⟨M', g1, g2, vs', g3, g4, g5⟩ := h3.publish hb hp (by simpa using he)
  have hver := (h3.obj b _ p hb hp).2.1
  rw [List.length_map] at g2 g4 g5
  have hbk : b ≠ k := fun e => by subst e; rw [hb] at hk; cases hk
  have hr := rows_of_pub g3 g4 g5
  refine ⟨M', μ, h1.trans g1, h2, g2.reOb (o := .box cs) (by rw [List.getElem?_set_ne hbk]; exact hk) (by simp) (fun q hq ho => ?_), RelL.conv hp hver hr (RelL.mono g1 (.refl _) h4)⟩
  obtain ⟨a1, a2, a3, ws, t, a4, a5⟩ := ho
  exact ⟨a1, a2, a3, ws, t, a4, RelL.conv hp hver hr a5⟩

/-- A box's content, told more weakly. -/
theorem Ent.weakBox {E : Env} {ts : List D} {H : List Ob} (k : Nat) {cs cs' : List D} (hk : H[k]? = some (.box cs)) (h : leL cs cs') : Ent E ts H ts (H.set k (.box cs')) := by
  intro M μ w vs h1 h2 h3 h4
  refine ⟨M, μ, h1, h2, h3.reOb hk (by simp) (fun q hq ho => ?_), h4⟩
  obtain ⟨a1, a2, a3, ws, t, a4, a5⟩ := ho
  exact ⟨a1, a2, a3, ws, t, a4, h.rel a5⟩
/-- A gathered slice in a box is told by value. -/
theorem Ent.pubIn {E : Env} {n : Nat} {l l' : List (Nat × D)} {H : List Ob} (b k : Nat) {ver sz esc : Nat} {cs cs' : List D} (ys : List (List V)) (hb : H[b]? = some (.arr ver sz (ys.map (·.map .v)) esc)) (hk : H[k]? = some (.box cs)) (he : esc ≤ ys.length) (h1 : leAll l l') (hc : convFr b ver sz ys l' = l') (hcs : leL (D.convL b ver sz ys cs) cs') :
    Ent E (fr n l) H (fr n l') ((H.set b (.arr ver sz (ys.map (·.map .v)) ys.length)).set k (.box cs')) := by
  have h := Ent.pubBox (E := E) (ts := fr n l') b k ys hb hk he
  have e : D.convL b ver sz ys (fr n l') = fr n (convFr b ver sz ys l') := by
    unfold fr
    rw [convL_map]
    apply List.map_congr_left
    intro i _
    exact (look_conv l' i).symm
  rw [e, hc] at h
  have hlt : k < (H.set b (.arr ver sz (ys.map (·.map .v)) ys.length)).length := by
    have := (List.getElem?_eq_some_iff.1 hk).1
    simpa using this
  have h2 := Ent.weakBox (E := E) (ts := fr n l') (H := (H.set b (.arr ver sz (ys.map (·.map .v)) ys.length)).set k (.box (D.convL b ver sz ys cs))) k (List.getElem?_set_self hlt) hcs
  rw [List.set_set] at h2
  exact (Ent.weakFr h1).trans (h.trans h2)
/-- An array's rows, told more weakly. -/
def leRows : List (List D) → List (List D) → Prop
  | [], [] => True
  | x :: xs, y :: ys => leL x y ∧ leRows xs ys
  | _, _ => False
theorem leL_len : ∀ {a b : List D}, leL a b → a.length = b.length
  | [], [], _ => rfl
  | x :: a, y :: b, h => by simp only [leL] at h; simp only [List.length_cons, leL_len h.2]
  | [], _ :: _, h => h.elim
  | _ :: _, [], h => h.elim
theorem leRows.get : ∀ {xs ys : List (List D)}, leRows xs ys → xs.length = ys.length ∧ ∀ (i : Nat) (y : List D), ys[i]? = some y → ∃ x : List D, xs[i]? = some x ∧ leL x y
  | [], [], _ => ⟨rfl, fun i y h => by simp at h⟩
  | x :: xs, y :: ys, h => by
    obtain ⟨h1, h2⟩ := h
    obtain ⟨g1, g2⟩ := h2.get
    refine ⟨by simp [g1], fun i z hz => ?_⟩
    cases i with
    | zero => simp at hz; subst hz; exact ⟨x, rfl, h1⟩
    | succ i => simp at hz; obtain ⟨a, b, c⟩ := g2 i z hz; exact ⟨a, by simpa using b, c⟩
  | [], _ :: _, h => h.elim
  | _ :: _, [], h => h.elim
theorem Ent.weakArr {E : Env} {ts : List D} {H : List Ob} (k : Nat) {ver sz esc : Nat} {xs xs' : List (List D)} (hk : H[k]? = some (.arr ver sz xs esc)) (h : leRows xs xs') : Ent E ts H ts (H.set k (.arr ver sz xs' esc)) := by
  intro M μ w vs h1 h2 h3 h4
  obtain ⟨g1, g2⟩ := h.get
  refine ⟨M, μ, h1, h2, h3.reOb hk (by simp) (fun q hq ho => ?_), h4⟩
  obtain ⟨a1, a2, a3, a4, a5, ws, t, a6, a7, a8⟩ := ho
  refine ⟨a1, a2, a3, a4, by omega, ws, t, a6, a7, fun i y hy => ?_⟩
  obtain ⟨x, hx, hl⟩ := g2 i y hy
  obtain ⟨b1, b2⟩ := a8 i x hx
  exact ⟨by rw [← leL_len hl]; exact b1, hl.rel b2⟩
/-- A call's arguments and heap, told otherwise. -/
theorem ACalls.ent {P : Program} {G : Nat → Option (List V)} {f : FuncId} {H H' : List Ob} {K : D → List Ob → Prop} {args args' : List D} (he : ∀ E : Env, Ent E args H args' H') (h : ACalls P G f args' H' K) : ACalls P G f args H K := by
  refine ⟨h.1, ?_⟩
  rintro ⟨P', G', w0, M0, μ0, H0⟩ e1 e2 M μ w vs hr hv
  have hR : R ⟨P', G', w0, M, μ, H⟩ M μ H w := ⟨hr.below, hr.imm, hr.glob, hr.dom, hr.obj, hr.sep, hr.tot⟩
  obtain ⟨M', μ', g1, g2, g3, g4⟩ := he ⟨P', G', w0, M, μ, H⟩ M μ w vs (.refl _) (.refl _) hR hv
  have hR2 : R ⟨P', G', w0, M0, μ0, H0⟩ M' μ' H' w := ⟨g3.below, g3.imm, g3.glob, g3.dom, g3.obj, g3.sep, g3.tot⟩
  refine (h.2 ⟨P', G', w0, M0, μ0, H0⟩ e1 e2 M' μ' w vs hR2 g4).mono ?_
  rintro e w' ⟨v, d, M'', μ'', H'', a1, a2, a3, a4, a5, a6⟩
  exact ⟨v, d, M'', μ'', H'', a1, g1.trans a2, g2.trans a3, a4, a5, a6⟩
/-- An array's rows stay as they are from here on; one's own slots stay. -/
theorem Ent.pubK {E : Env} {ts : List D} {H : List Ob} (b : Nat) {ver sz esc : Nat} {xs : List (List D)} (hb : H[b]? = some (.arr ver sz xs esc)) (he : esc ≤ xs.length) : Ent E ts H ts (H.set b (.arr ver sz xs xs.length)) := by
  intro M μ w vs h1 h2 h3 h4
  obtain ⟨p, hp⟩ := h3.tot b (List.getElem?_eq_some_iff.1 hb).1
  obtain ⟨M', g1, g2, _⟩ := h3.publish hb hp he
  exact ⟨M', μ, h1.trans g1, h2, g2, RelL.mono g1 (.refl _) h4⟩
theorem set_same {H : List Ob} {b : Nat} {o : Ob} (h : H[b]? = some o) : H.set b o = H := by
  apply List.ext_getElem?
  intro i
  by_cases e : b = i
  · subst e; rw [List.getElem?_set_self (List.getElem?_eq_some_iff.1 h).1, h]
  · rw [List.getElem?_set_ne e]
end Go.Ag
namespace Go.Ag
open Go Go.Proofs
variable {G : Nat → Option (List V)}
attribute [local irreducible] aops qops Sat aop

def dig (n : Nat) : UInt8 := UInt8.ofNat (48 + n % 10)
/-- The digits of a number; none of nothing. -/
def dz (n : Nat) : Str := if h : n = 0 then [] else dz (n / 10) ++ [dig n]
termination_by n
decreasing_by omega
theorem dz0 : dz 0 = [] := by unfold dz; rfl
theorem dzS {n : Nat} (h : 0 < n) : dz n = dz (n / 10) ++ [dig n] := by rw [dz]; simp [Nat.pos_iff_ne_zero.1 h]
def natT (n : Nat) : Str := dz (n / 10) ++ [dig n]
def intT (n : Int) : Str := if n < 0 then 45 :: natT n.natAbs else natT n.natAbs
theorem wrap_u64 (n : Int) (h0 : 0 ≤ n) (h : n < 18446744073709551616) : IntKind.u64.wrap n = n := by
  simp only [IntKind.wrap, IntKind.signed, IntKind.bits, Bool.false_and, Bool.false_eq_true, if_false]; omega
theorem wrap_neg (n : Int) (h0 : n < 0) (h : -9223372036854775808 ≤ n) : IntKind.u64.wrap (0 - IntKind.u64.wrap n) = n.natAbs := by
  simp only [IntKind.wrap, IntKind.signed, IntKind.bits, Bool.false_and, Bool.false_eq_true, if_false]; omega
theorem wf64 {n : Int} (h : (Lit.int .i64 n).wf = true) : -9223372036854775808 ≤ n ∧ n < 9223372036854775808 := by
  simp [Lit.wf, IntKind.min, IntKind.max, IntKind.signed, IntKind.bits] at h
  omega
theorem dig_int (n : Nat) : ((dig n).toNat : Int) = 48 + n % 10 := by
  have h : 48 + n % 10 < 256 := by omega
  simp only [dig, UInt8.toNat_ofNat']
  rw [Nat.mod_eq_of_lt (by omega)]; omega
theorem enc_dig (n : Nat) : (Utf8.encode (48 + (n : Int) % 10)).data.toList = [dig n] := by
  have e : (48 + (n : Int) % 10) = ((48 + n % 10 : Nat) : Int) := by omega
  have h : n % 10 < 10 := by omega
  rw [e, dig]
  generalize n % 10 = k at h
  rcases k with _|_|_|_|_|_|_|_|_|_|k <;> first | (decide +kernel) | omega
theorem tm (n : Nat) : Int.tmod (n : Int) 10 = ((n % 10 : Nat) : Int) := by rw [Int.tmod_eq_emod_of_nonneg (by omega)]; omega
theorem td (n : Nat) : Int.tdiv (n : Int) 10 = ((n / 10 : Nat) : Int) := by rw [Int.tdiv_eq_ediv_of_nonneg (by omega)]; omega
/-- The digits so far. -/
def dInv (u0 u : Nat) (s : Str) : Prop := u * 10 ^ s.length ≤ u0 ∧ ((s = [] ∧ u = u0) ∨ (s ≠ [] ∧ dz u ++ s = natT u0))
theorem dInv.step {u0 u : Nat} {s : Str} (h : dInv u0 u s) (h0 : s = [] ∨ 0 < u) : dInv u0 (u / 10) (dig u :: s) := by
  obtain ⟨h1, h2⟩ := h
  refine ⟨?_, .inr ⟨by simp, ?_⟩⟩
  · rw [List.length_cons, Nat.pow_succ, Nat.mul_comm (10 ^ s.length), ← Nat.mul_assoc]
    exact Nat.le_trans (Nat.mul_le_mul_right _ (Nat.div_mul_le_self u 10)) h1
  · rcases h2 with ⟨rfl, rfl⟩ | ⟨h3, h4⟩
    · rfl
    · have hp : 0 < u := h0.resolve_left h3
      rw [dzS hp, List.append_assoc] at h4
      exact h4
theorem dInv.len {u0 u : Nat} {s : Str} (h : dInv u0 u s) (hb : u0 < 18446744073709551616) (h0 : s = [] ∨ 0 < u) : s.length < 20 := by
  rcases h0 with rfl | h0
  · simp
  obtain ⟨h1, _⟩ := h
  apply Nat.lt_of_not_le
  intro hc
  have h2 : 10 ^ 20 ≤ 10 ^ s.length := Nat.pow_le_pow_right (by omega) hc
  have h3 : 10 ^ s.length ≤ u * 10 ^ s.length := Nat.le_mul_of_pos_left _ h0
  omega
theorem dInv.done {u0 : Nat} {s : Str} (h : dInv u0 0 s) (h0 : s ≠ []) : s = natT u0 := by
  rcases h.2 with ⟨h1, _⟩ | ⟨_, h1⟩
  · exact absurd h1 h0
  · rwa [dz0, List.nil_append] at h1
theorem dz_len : ∀ (k n : Nat), n < 10 ^ k → (dz n).length ≤ k
  | 0, n, h => by have : n = 0 := by simpa using h
                  subst this; rw [dz0]; simp
  | k + 1, n, h => by
    by_cases h0 : n = 0
    · subst h0; rw [dz0]; simp
    · rw [dzS (by omega), List.length_append, List.length_singleton]
      have := dz_len k (n / 10) (by rw [Nat.pow_succ] at h; omega)
      omega
theorem natT_len {n : Nat} (h : n < 18446744073709551616) : (natT n).length ≤ 20 := by
  have := dz_len 19 (n / 10) (by omega)
  simp only [natT, List.length_append, List.length_singleton]; omega
theorem dInv.start (u0 : Nat) : dInv u0 u0 [] := ⟨by simp, .inl ⟨rfl, rfl⟩⟩

set_option maxHeartbeats 4000000 in
theorem spec_rText (n : Int) (hn : (Lit.int .i64 n).wf = true) (H : List Ob) (K : D → List Ob → Prop) (hK : K (.v (.str (intT n))) H) : ACalls Tryd.prog G 47 [.v (.int .i64 n)] H K := by
  refine ACalls.go Tryd.f47 _ 34 [2] Tryd.func47 rfl Tryd.ntmps47 (by kernel_rfl) rfl (by simp) (fun E hE hP hG hH => ?_)
  have hM : E.P.follows .mixedOrders = true := hP ▸ mixed
  obtain ⟨n1, n2⟩ := wf64 hn
  have hb : n.natAbs < 18446744073709551616 := by omega
  subst hH
  simp only [args0]
  repeat (first | refine wa ?_ | refine wb rfl ?_ | refine wc rfl rfl hM ?_ | refine wd rfl hM ?_ | ((first | refine we rfl fun K hK => ?_ | refine wf rfl rfl fun K hK => ?_ | refine wg rfl rfl fun K hK => ?_ | refine wh rfl fun K hK => ?_); (simp only [lo, ld, ↓aop, ↓aCall, hP, hG, Nat.reduceLT, ↓reduceIte, Nat.reduceEqDiff, Nat.reduceAdd, Nat.reduceMul, Nat.reduceLeDiff, reduceCtorEq, D.cs, D.plain, fillD, chop, List.replicate, tk_3, ze_3, sz_3, tk_9, ze_9, sz_9, tk_104, ze_104, sz_104, tk_21, ze_21, sz_21]; repeat (with_reducible refine And.intro ?_ ?_; focus (first | decide | omega | (simp only [ln]; omega)))); try ((first | refine hK _ _ ?_ | refine hK _ ?_); clear hK K; simp only [lp])) | ((first | refine wi ?_ | refine wj ?_ | refine wk ?_ | refine wl ?_ | refine wm ?_ | refine wn ?_); simp only [lt, ↓reduceIte, Nat.reduceEqDiff]) | refine wo ?_)
  refine sat_thru (fr 34 [(3, .v (.int .u64 n.natAbs)), (2, .v (.str [])), (0, .v (.int .i64 n))]) E.H0 ?_ ?_
  · refine sat_cond rfl (fun hb => ?_) (fun hb => ?_)
    · simp at hb
      have hw := wrap_neg n hb n1
      repeat (first | refine wa ?_ | refine wb rfl ?_ | refine wc rfl rfl hM ?_ | refine wd rfl hM ?_ | ((first | refine we rfl fun K hK => ?_ | refine wf rfl rfl fun K hK => ?_ | refine wg rfl rfl fun K hK => ?_ | refine wh rfl fun K hK => ?_); (simp only [lo, ld, ↓aop, ↓aCall, hP, hG, Nat.reduceLT, ↓reduceIte, Nat.reduceEqDiff, Nat.reduceAdd, Nat.reduceMul, Nat.reduceLeDiff, reduceCtorEq, D.cs, D.plain, fillD, chop, List.replicate, tk_3, ze_3, sz_3, tk_9, ze_9, sz_9, tk_104, ze_104, sz_104, tk_21, ze_21, sz_21, hw]; repeat (with_reducible refine And.intro ?_ ?_; focus (first | decide | omega | (simp only [ln]; omega)))); try ((first | refine hK _ _ ?_ | refine hK _ ?_); clear hK K; simp only [lp])) | ((first | refine wi ?_ | refine wj ?_ | refine wk ?_ | refine wl ?_ | refine wm ?_ | refine wn ?_); simp only [lt, ↓reduceIte, Nat.reduceEqDiff]) | refine wo ?_)
      refine .weakFr ?_
      simp only [le, ↓reduceIte, Nat.reduceEqDiff, and_true]; repeat' (first | exact trivial | exact D.le_refl _ | exact D.le_any _ | with_reducible refine And.intro ?_ ?_)
    · simp at hb
      have hw := wrap_u64 n hb (by omega)
      have hw2 : (n.natAbs : Int) = n := by omega
      repeat (first | refine wa ?_ | refine wb rfl ?_ | refine wc rfl rfl hM ?_ | refine wd rfl hM ?_ | ((first | refine we rfl fun K hK => ?_ | refine wf rfl rfl fun K hK => ?_ | refine wg rfl rfl fun K hK => ?_ | refine wh rfl fun K hK => ?_); (simp only [lo, ld, ↓aop, ↓aCall, hP, hG, Nat.reduceLT, ↓reduceIte, Nat.reduceEqDiff, Nat.reduceAdd, Nat.reduceMul, Nat.reduceLeDiff, reduceCtorEq, D.cs, D.plain, fillD, chop, List.replicate, tk_3, ze_3, sz_3, tk_9, ze_9, sz_9, tk_104, ze_104, sz_104, tk_21, ze_21, sz_21, hw]; repeat (with_reducible refine And.intro ?_ ?_; focus (first | decide | omega | (simp only [ln]; omega)))); try ((first | refine hK _ _ ?_ | refine hK _ ?_); clear hK K; simp only [lp])) | ((first | refine wi ?_ | refine wj ?_ | refine wk ?_ | refine wl ?_ | refine wm ?_ | refine wn ?_); simp only [lt, ↓reduceIte, Nat.reduceEqDiff]) | refine wo ?_)
      refine .weakFr ?_
      rw [hw, hw2]
      simp only [le, ↓reduceIte, Nat.reduceEqDiff, and_true]; repeat' (first | exact trivial | exact D.le_refl _ | exact D.le_any _ | with_reducible refine And.intro ?_ ?_)
  generalize hu : n.natAbs = u0 at hb
  have e0 : IntKind.u64.wrap (48 + ((u0 % 10 : Nat) : Int)) = 48 + (u0 : Int) % 10 := by rw [wrap_u64] <;> omega
  have e1 : IntKind.i32.wrap (48 + (u0 : Int) % 10) = 48 + (u0 : Int) % 10 := by
    simp only [IntKind.wrap, IntKind.signed, IntKind.bits, Bool.true_and]
    rw [if_neg] <;> simp <;> omega
  have e2 := wrap_u64 ((u0 / 10 : Nat) : Int) (by omega) (by omega)
  repeat (first | refine wa ?_ | refine wb rfl ?_ | refine wc rfl rfl hM ?_ | refine wd rfl hM ?_ | ((first | refine we rfl fun K hK => ?_ | refine wf rfl rfl fun K hK => ?_ | refine wg rfl rfl fun K hK => ?_ | refine wh rfl fun K hK => ?_); (simp only [lo, ld, ↓aop, ↓aCall, hP, hG, Nat.reduceLT, ↓reduceIte, Nat.reduceEqDiff, Nat.reduceAdd, Nat.reduceMul, Nat.reduceLeDiff, reduceCtorEq, D.cs, D.plain, fillD, chop, List.replicate, tk_3, ze_3, sz_3, tk_9, ze_9, sz_9, tk_104, ze_104, sz_104, tk_21, ze_21, sz_21, tm, td, e0, e1, e2, enc_dig]; repeat (with_reducible refine And.intro ?_ ?_; focus (first | decide | omega | (simp only [ln]; omega)))); try ((first | refine hK _ _ ?_ | refine hK _ ?_); clear hK K; simp only [lp])) | ((first | refine wi ?_ | refine wj ?_ | refine wk ?_ | refine wl ?_ | refine wm ?_ | refine wn ?_); simp only [lt, ↓reduceIte, Nat.reduceEqDiff]) | refine wo ?_)
  refine sat_loop_ent (fun m ts H => ∃ (u : Nat) (s : Str), m = u ∧ s ≠ [] ∧ dInv u0 u s ∧
    ts = fr 34 [(4, .v (.str s)), (3, .v (.int .u64 u)), (2, .v (.str [])), (0, .v (.int .i64 n))] ∧ H = E.H0) (u0 / 10) (.weakFr ?_) ⟨u0 / 10, [dig u0], rfl, by simp, (dInv.start u0).step (.inl rfl), rfl, rfl⟩ ?_
  · simp only [le, ↓reduceIte, Nat.reduceEqDiff, and_true]; repeat' (first | exact trivial | exact D.le_refl _ | exact D.le_any _ | with_reducible refine And.intro ?_ ?_)
  rintro u ts H ⟨_, s, rfl, hs, hI, rfl, rfl⟩
  have hub : u < 18446744073709551616 := Nat.lt_of_le_of_lt (Nat.le_trans (Nat.le_mul_of_pos_right u (Nat.pow_pos (by omega))) hI.1) hb
  repeat (first | refine wa ?_ | refine wb rfl ?_ | refine wc rfl rfl hM ?_ | refine wd rfl hM ?_ | ((first | refine we rfl fun K hK => ?_ | refine wf rfl rfl fun K hK => ?_ | refine wg rfl rfl fun K hK => ?_ | refine wh rfl fun K hK => ?_); (simp only [lo, ld, ↓aop, ↓aCall, hP, hG, Nat.reduceLT, ↓reduceIte, Nat.reduceEqDiff, Nat.reduceAdd, Nat.reduceMul, Nat.reduceLeDiff, reduceCtorEq, D.cs, D.plain, fillD, chop, List.replicate, tk_3, ze_3, sz_3, tk_9, ze_9, sz_9, tk_104, ze_104, sz_104, tk_21, ze_21, sz_21]; repeat (with_reducible refine And.intro ?_ ?_; focus (first | decide | omega | (simp only [ln]; omega)))); try ((first | refine hK _ _ ?_ | refine hK _ ?_); clear hK K; simp only [lp])) | ((first | refine wi ?_ | refine wj ?_ | refine wk ?_ | refine wl ?_ | refine wm ?_ | refine wn ?_); simp only [lt, ↓reduceIte, Nat.reduceEqDiff]) | refine wo ?_)
  refine sat_cond rfl (fun hc => ?_) (fun hc => ?_)
  · simp at hc
    have hlen := hI.len hb (.inr hc)
    have e0 : IntKind.u64.wrap (48 + ((u % 10 : Nat) : Int)) = 48 + (u : Int) % 10 := by rw [wrap_u64] <;> omega
    have e1 : IntKind.i32.wrap (48 + (u : Int) % 10) = 48 + (u : Int) % 10 := by
      simp only [IntKind.wrap, IntKind.signed, IntKind.bits, Bool.true_and]
      rw [if_neg] <;> simp <;> omega
    have e2 := wrap_u64 ((u / 10 : Nat) : Int) (by omega) (by omega)
    repeat (first | refine wa ?_ | refine wb rfl ?_ | refine wc rfl rfl hM ?_ | refine wd rfl hM ?_ | ((first | refine we rfl fun K hK => ?_ | refine wf rfl rfl fun K hK => ?_ | refine wg rfl rfl fun K hK => ?_ | refine wh rfl fun K hK => ?_); (simp only [lo, ld, ↓aop, ↓aCall, hP, hG, Nat.reduceLT, ↓reduceIte, Nat.reduceEqDiff, Nat.reduceAdd, Nat.reduceMul, Nat.reduceLeDiff, reduceCtorEq, D.cs, D.plain, fillD, chop, List.replicate, tk_3, ze_3, sz_3, tk_9, ze_9, sz_9, tk_104, ze_104, sz_104, tk_21, ze_21, sz_21, tm, td, e0, e1, e2, enc_dig]; repeat (with_reducible refine And.intro ?_ ?_; focus (first | decide | omega | (simp only [ln]; omega)))); try ((first | refine hK _ _ ?_ | refine hK _ ?_); clear hK K; simp only [lp])) | ((first | refine wi ?_ | refine wj ?_ | refine wk ?_ | refine wl ?_ | refine wm ?_ | refine wn ?_); simp only [lt, ↓reduceIte, Nat.reduceEqDiff]) | refine wo ?_)
    refine ⟨u / 10, _, _, by omega, .weakFr ?_, u / 10, dig u :: s, rfl, by simp, hI.step (.inr hc), rfl, rfl⟩
    simp only [le, ↓reduceIte, Nat.reduceEqDiff, and_true]; repeat' (first | exact trivial | exact D.le_refl _ | exact D.le_any _ | with_reducible refine And.intro ?_ ?_)
  · simp at hc
    subst hc
    have hd := hI.done hs
    have hl := natT_len hb
    rw [← hd] at hl
    repeat (first | refine wa ?_ | refine wb rfl ?_ | refine wc rfl rfl hM ?_ | refine wd rfl hM ?_ | ((first | refine we rfl fun K hK => ?_ | refine wf rfl rfl fun K hK => ?_ | refine wg rfl rfl fun K hK => ?_ | refine wh rfl fun K hK => ?_); (simp only [lo, ld, ↓aop, ↓aCall, hP, hG, Nat.reduceLT, ↓reduceIte, Nat.reduceEqDiff, Nat.reduceAdd, Nat.reduceMul, Nat.reduceLeDiff, reduceCtorEq, D.cs, D.plain, fillD, chop, List.replicate, tk_3, ze_3, sz_3, tk_9, ze_9, sz_9, tk_104, ze_104, sz_104, tk_21, ze_21, sz_21]; repeat (with_reducible refine And.intro ?_ ?_; focus (first | decide | omega | (simp only [ln]; omega)))); try ((first | refine hK _ _ ?_ | refine hK _ ?_); clear hK K; simp only [lp])) | ((first | refine wi ?_ | refine wj ?_ | refine wk ?_ | refine wl ?_ | refine wm ?_ | refine wn ?_); simp only [lt, ↓reduceIte, Nat.reduceEqDiff]) | refine wo ?_)
    refine sat_cond rfl (fun hb => ?_) (fun hb => ?_)
    · repeat (first | refine wa ?_ | refine wb rfl ?_ | refine wc rfl rfl hM ?_ | refine wd rfl hM ?_ | ((first | refine we rfl fun K hK => ?_ | refine wf rfl rfl fun K hK => ?_ | refine wg rfl rfl fun K hK => ?_ | refine wh rfl fun K hK => ?_); (simp only [lo, ld, ↓aop, ↓aCall, hP, hG, Nat.reduceLT, ↓reduceIte, Nat.reduceEqDiff, Nat.reduceAdd, Nat.reduceMul, Nat.reduceLeDiff, reduceCtorEq, D.cs, D.plain, fillD, chop, List.replicate, tk_3, ze_3, sz_3, tk_9, ze_9, sz_9, tk_104, ze_104, sz_104, tk_21, ze_21, sz_21]; repeat (with_reducible refine And.intro ?_ ?_; focus (first | decide | omega | (simp only [ln]; omega)))); try ((first | refine hK _ _ ?_ | refine hK _ ?_); clear hK K; simp only [lp])) | ((first | refine wi ?_ | refine wj ?_ | refine wk ?_ | refine wl ?_ | refine wm ?_ | refine wn ?_); simp only [lt, ↓reduceIte, Nat.reduceEqDiff]) | refine wo ?_)
      refine Fin.is _ (by decide) rfl ?_
      have : intT n = [45] ++ s := by simp at hb; simp only [intT, hb, if_true, hu, hd]; rfl
      rwa [this] at hK
    · repeat (first | refine wa ?_ | refine wb rfl ?_ | refine wc rfl rfl hM ?_ | refine wd rfl hM ?_ | ((first | refine we rfl fun K hK => ?_ | refine wf rfl rfl fun K hK => ?_ | refine wg rfl rfl fun K hK => ?_ | refine wh rfl fun K hK => ?_); (simp only [lo, ld, ↓aop, ↓aCall, hP, hG, Nat.reduceLT, ↓reduceIte, Nat.reduceEqDiff, Nat.reduceAdd, Nat.reduceMul, Nat.reduceLeDiff, reduceCtorEq, D.cs, D.plain, fillD, chop, List.replicate, tk_3, ze_3, sz_3, tk_9, ze_9, sz_9, tk_104, ze_104, sz_104, tk_21, ze_21, sz_21]; repeat (with_reducible refine And.intro ?_ ?_; focus (first | decide | omega | (simp only [ln]; omega)))); try ((first | refine hK _ _ ?_ | refine hK _ ?_); clear hK K; simp only [lp])) | ((first | refine wi ?_ | refine wj ?_ | refine wk ?_ | refine wl ?_ | refine wm ?_ | refine wn ?_); simp only [lt, ↓reduceIte, Nat.reduceEqDiff]) | refine wo ?_)
      refine Fin.is _ (by decide) rfl ?_
      have : intT n = s := by simp at hb; simp only [intT, Int.not_lt.2 hb, if_false, hu, hd]
      rwa [this] at hK

def u8V (c : UInt8) : V := .int .u8 c.toNat
theorem bytesOfV_u8 : ∀ s : Str, bytesOfV (s.map fun c => [u8V c]) = some s
  | [] => rfl
  | c :: s => by
    have h := bytesOfV_u8 s
    simp only [u8V] at h
    simp [bytesOfV, u8V, h]
def buf (a : Nat) (s : Str) : List V := List.replicate a (.int .u8 0) ++ s.map u8V
theorem buf_len (a : Nat) (s : Str) : (buf a s).length = a + s.length := by simp [buf]
theorem buf_put (b : Nat) (s : Str) (c : UInt8) : ((buf (b + 1) s).map D.v).take b ++ [.v (u8V c)] ++ ((buf (b + 1) s).map D.v).drop (b + 1) = (buf b (c :: s)).map D.v := by
  simp [buf, List.take_append, List.drop_append, List.take_replicate, List.drop_replicate]
theorem buf_drop (a : Nat) (s : Str) : (buf a s).drop a = s.map u8V := by simp [buf]

set_option maxHeartbeats 4000000 in
theorem spec_Text (n : Int) (hn : (Lit.int .i64 n).wf = true) (H : List Ob) (K : D → List Ob → Prop) (hK : K (.v (.str (intT n))) H) : ACalls Tryd.prog G 44 [.v (.int .i64 n)] H K := by
  refine ACalls.go Tryd.f44 _ 37 [2] Tryd.func44 rfl Tryd.ntmps44 (by kernel_rfl) rfl (by simp) (fun E hE hP hG hH => ?_)
  have hM : E.P.follows .mixedOrders = true := hP ▸ mixed
  obtain ⟨n1, n2⟩ := wf64 hn
  have hb : n.natAbs < 18446744073709551616 := by omega
  subst hH
  simp only [args0]
  repeat (first | refine wa ?_ | refine wb rfl ?_ | refine wc rfl rfl hM ?_ | refine wd rfl hM ?_ | ((first | refine we rfl fun K hK => ?_ | refine wf rfl rfl fun K hK => ?_ | refine wg rfl rfl fun K hK => ?_ | refine wh rfl fun K hK => ?_); (simp only [lo, ld, ↓aop, ↓aCall, hP, hG, Nat.reduceLT, ↓reduceIte, Nat.reduceEqDiff, Nat.reduceAdd, Nat.reduceMul, Nat.reduceLeDiff, reduceCtorEq, D.cs, D.plain, fillD, chop, List.replicate, tk_3, ze_3, sz_3, tk_9, ze_9, sz_9, tk_104, ze_104, sz_104, tk_21, ze_21, sz_21]; repeat (with_reducible refine And.intro ?_ ?_; focus (first | decide | omega | (simp only [ln]; omega)))); try ((first | refine hK _ _ ?_ | refine hK _ ?_); clear hK K; simp only [lp])) | ((first | refine wi ?_ | refine wj ?_ | refine wk ?_ | refine wl ?_ | refine wm ?_ | refine wn ?_); simp only [lt, ↓reduceIte, Nat.reduceEqDiff]) | refine wo ?_)
  refine sat_thru (fr 37 [(3, .v (.int .u64 n.natAbs)), (2, .v (.str [])), (0, .v (.int .i64 n))]) E.H0 ?_ ?_
  · refine sat_cond rfl (fun hb => ?_) (fun hb => ?_)
    · simp at hb
      have hw := wrap_neg n hb n1
      repeat (first | refine wa ?_ | refine wb rfl ?_ | refine wc rfl rfl hM ?_ | refine wd rfl hM ?_ | ((first | refine we rfl fun K hK => ?_ | refine wf rfl rfl fun K hK => ?_ | refine wg rfl rfl fun K hK => ?_ | refine wh rfl fun K hK => ?_); (simp only [lo, ld, ↓aop, ↓aCall, hP, hG, Nat.reduceLT, ↓reduceIte, Nat.reduceEqDiff, Nat.reduceAdd, Nat.reduceMul, Nat.reduceLeDiff, reduceCtorEq, D.cs, D.plain, fillD, chop, List.replicate, tk_3, ze_3, sz_3, tk_9, ze_9, sz_9, tk_104, ze_104, sz_104, tk_21, ze_21, sz_21, hw]; repeat (with_reducible refine And.intro ?_ ?_; focus (first | decide | omega | (simp only [ln]; omega)))); try ((first | refine hK _ _ ?_ | refine hK _ ?_); clear hK K; simp only [lp])) | ((first | refine wi ?_ | refine wj ?_ | refine wk ?_ | refine wl ?_ | refine wm ?_ | refine wn ?_); simp only [lt, ↓reduceIte, Nat.reduceEqDiff]) | refine wo ?_)
      refine .weakFr ?_
      simp only [le, ↓reduceIte, Nat.reduceEqDiff, and_true]; repeat' (first | exact trivial | exact D.le_refl _ | exact D.le_any _ | with_reducible refine And.intro ?_ ?_)
    · simp at hb
      have hw := wrap_u64 n hb (by omega)
      have hw2 : (n.natAbs : Int) = n := by omega
      repeat (first | refine wa ?_ | refine wb rfl ?_ | refine wc rfl rfl hM ?_ | refine wd rfl hM ?_ | ((first | refine we rfl fun K hK => ?_ | refine wf rfl rfl fun K hK => ?_ | refine wg rfl rfl fun K hK => ?_ | refine wh rfl fun K hK => ?_); (simp only [lo, ld, ↓aop, ↓aCall, hP, hG, Nat.reduceLT, ↓reduceIte, Nat.reduceEqDiff, Nat.reduceAdd, Nat.reduceMul, Nat.reduceLeDiff, reduceCtorEq, D.cs, D.plain, fillD, chop, List.replicate, tk_3, ze_3, sz_3, tk_9, ze_9, sz_9, tk_104, ze_104, sz_104, tk_21, ze_21, sz_21, hw]; repeat (with_reducible refine And.intro ?_ ?_; focus (first | decide | omega | (simp only [ln]; omega)))); try ((first | refine hK _ _ ?_ | refine hK _ ?_); clear hK K; simp only [lp])) | ((first | refine wi ?_ | refine wj ?_ | refine wk ?_ | refine wl ?_ | refine wm ?_ | refine wn ?_); simp only [lt, ↓reduceIte, Nat.reduceEqDiff]) | refine wo ?_)
      refine .weakFr ?_
      rw [hw, hw2]
      simp only [le, ↓reduceIte, Nat.reduceEqDiff, and_true]; repeat' (first | exact trivial | exact D.le_refl _ | exact D.le_any _ | with_reducible refine And.intro ?_ ?_)
  generalize hu : n.natAbs = u0 at hb
  repeat (first | refine wa ?_ | refine wb rfl ?_ | refine wc rfl rfl hM ?_ | refine wd rfl hM ?_ | ((first | refine we rfl fun K hK => ?_ | refine wf rfl rfl fun K hK => ?_ | refine wg rfl rfl fun K hK => ?_ | refine wh rfl fun K hK => ?_); (simp only [lo, ld, ↓aop, ↓aCall, hP, hG, Nat.reduceLT, ↓reduceIte, Nat.reduceEqDiff, Nat.reduceAdd, Nat.reduceMul, Nat.reduceLeDiff, reduceCtorEq, D.cs, D.plain, fillD, chop, List.replicate, tk_3, ze_3, sz_3, tk_9, ze_9, sz_9, tk_104, ze_104, sz_104, tk_21, ze_21, sz_21, tk_105, ze_105, sz_105, kn_105]; repeat (with_reducible refine And.intro ?_ ?_; focus (first | decide | omega | (simp only [ln]; omega)))); try ((first | refine hK _ _ ?_ | refine hK _ ?_); clear hK K; simp only [lp])) | ((first | refine wi ?_ | refine wj ?_ | refine wk ?_ | refine wl ?_ | refine wm ?_ | refine wn ?_); simp only [lt, ↓reduceIte, Nat.reduceEqDiff]) | refine wo ?_)
  refine sat_loop_ent (fun m ts H => ∃ (a u : Nat) (s : Str), m = u + (if s = [] then 1 else 0) ∧ a + s.length = 20 ∧ dInv u0 u s ∧
    ts = fr 37 [(5, .v (.int .i64 a)), (4, .ptr E.H0.length 0), (3, .v (.int .u64 u)), (2, .v (.str [])), (0, .v (.int .i64 n))] ∧ H = E.H0 ++ [.box ((buf a s).map .v)]) (u0 + 1) (.weakFr ?_) ⟨20, u0, [], rfl, rfl, dInv.start u0, rfl, rfl⟩ ?_
  · simp only [le, ↓reduceIte, Nat.reduceEqDiff, and_true]; repeat' (first | exact trivial | exact D.le_refl _ | exact D.le_any _ | with_reducible refine And.intro ?_ ?_)
  rintro m ts H ⟨a, u, s, rfl, ha, hI, rfl, rfl⟩
  have hub : u < 18446744073709551616 := Nat.lt_of_le_of_lt (Nat.le_trans (Nat.le_mul_of_pos_right u (Nat.pow_pos (by omega))) hI.1) hb
  repeat (first | refine wa ?_ | refine wb rfl ?_ | refine wc rfl rfl hM ?_ | refine wd rfl hM ?_ | ((first | refine we rfl fun K hK => ?_ | refine wf rfl rfl fun K hK => ?_ | refine wg rfl rfl fun K hK => ?_ | refine wh rfl fun K hK => ?_); (simp only [lo, ld, ↓aop, ↓aCall, hP, hG, Nat.reduceLT, ↓reduceIte, Nat.reduceEqDiff, Nat.reduceAdd, Nat.reduceMul, Nat.reduceLeDiff, reduceCtorEq, D.cs, D.plain, fillD, chop, List.replicate]; repeat (with_reducible refine And.intro ?_ ?_; focus (first | decide | omega | (simp only [ln]; omega)))); try ((first | refine hK _ _ ?_ | refine hK _ ?_); clear hK K; simp only [lp])) | ((first | refine wi ?_ | refine wj ?_ | refine wk ?_ | refine wl ?_ | refine wm ?_ | refine wn ?_); simp only [lt, ↓reduceIte, Nat.reduceEqDiff]) | refine wo ?_)
  refine sat_thru (fr 37 [(17, .v (.bool (decide (a = 20) || decide (0 < u)))), (5, .v (.int .i64 a)), (4, .ptr E.H0.length 0), (3, .v (.int .u64 u)), (2, .v (.str [])), (0, .v (.int .i64 n))]) (E.H0 ++ [.box ((buf a s).map .v)]) ?_ ?_
  · (first | refine wr ?_ | refine wp rfl hM ?_ | refine wq hM ?_); repeat' (first | ((first | refine wx ?_ | refine wy ?_ | refine wz ?_); (simp only [lo, ld, ↓aop, ↓aCall, hP, hG, Nat.reduceLT, ↓reduceIte, Nat.reduceEqDiff, Nat.reduceAdd, Nat.reduceMul, Nat.reduceLeDiff, reduceCtorEq, D.cs, D.plain, fillD, chop, List.replicate, tk_3, ze_3, sz_3, tk_9, ze_9, sz_9, tk_104, ze_104, sz_104]; repeat (with_reducible refine And.intro ?_ ?_; focus (first | decide | omega | (simp only [ln]; omega)))); try ((first | refine hK _ _ ?_ | refine hK _ ?_); clear hK K; simp only [lp])) | refine we rfl fun K hK => ?_ | refine wf rfl rfl fun K hK => ?_ | refine wg rfl rfl fun K hK => ?_ | refine wh rfl fun K hK => ?_ | ((first | refine Xg rfl rfl (by decide) ?_ fun K hK => ?_ | refine Yg rfl rfl (by decide) ?_ fun K hK => ?_ | refine Zg rfl rfl rfl (by decide) ?_ fun K hK => ?_); (focus (simp only [look_cons, ↓reduceIte, Nat.reduceEqDiff, Bool.not_true, Bool.not_false]; done))) | ((first | refine Xn rfl rfl (by decide) ?_ ?_ | refine Yn rfl rfl (by decide) ?_ ?_ | refine Zn rfl rfl rfl (by decide) ?_ ?_); (focus (simp only [look_cons, ↓reduceIte, Nat.reduceEqDiff, Bool.not_true, Bool.not_false]; done)); simp only [lp]) | ((first | refine Xo rfl rfl (by decide) ?_ ?_ | refine Yo rfl rfl (by decide) ?_ ?_ | refine Zo rfl rfl rfl (by decide) ?_ ?_); (focus (simp only [look_cons, ↓reduceIte, Nat.reduceEqDiff, Bool.not_true, Bool.not_false]; done)); simp only [lp]) | ((first | refine Xs rfl rfl (by decide) rfl (fun h K hK => ?_) fun h => ?_ | refine Ys rfl rfl (by decide) rfl (fun h K hK => ?_) fun h => ?_ | refine Zs rfl rfl rfl (by decide) rfl (fun h K hK => ?_) fun h => ?_); rotate_left; (focus (simp only [Bool.not_true, Bool.not_false, lp])); rotate_left) | ((first | refine wi ?_ | refine wj ?_ | refine wk ?_); simp only [lt, ↓reduceIte, Nat.reduceEqDiff]))
    all_goals refine .weakFr ?_
    all_goals simp only [le, ↓reduceIte, Nat.reduceEqDiff, and_true]; repeat' (first | exact trivial | exact D.le_refl _ | exact D.le_any _ | with_reducible refine And.intro ?_ ?_)
    all_goals refine D.le_eq (congrArg D.v (congrArg V.bool (Bool.eq_iff_iff.2 ?_))); simp only [decide_eq_true_eq, decide_eq_false_iff_not, Bool.or_eq_true, Bool.and_eq_true, Bool.or_eq_false_iff, Bool.and_eq_false_iff, Bool.not_eq_true', Bool.not_eq_false', Bool.not_eq_eq_eq_not, Bool.not_true, Bool.not_false, beq_iff_eq, beq_eq_false_iff_ne, bne_iff_ne, ne_eq, Bool.false_eq_true, Bool.true_eq_false, true_iff, false_iff, iff_true, iff_false, not_true_eq_false, not_false_eq_true] at *; omega
  refine sat_cond rfl (fun hc => ?_) (fun hc => ?_)
  · have hs : s = [] ∨ 0 < u := by
      simp at hc
      rcases hc with hc | hc
      · left; exact List.length_eq_zero_iff.1 (by omega)
      · exact .inr hc
    have hlen := hI.len hb hs
    obtain ⟨b, rfl⟩ : ∃ b, a = b + 1 := ⟨a - 1, by omega⟩
    have hw := wpred b (by omega)
    have hbl := buf_len (b + 1) s
    have e0 : IntKind.u8.wrap ((u % 10 : Nat) : Int) = ((u % 10 : Nat) : Int) := by
      simp only [IntKind.wrap, IntKind.signed, IntKind.bits, Bool.false_and, Bool.false_eq_true, if_false]; omega
    have e2 := wrap_u64 ((u / 10 : Nat) : Int) (by omega) (by omega)
    repeat (first | refine wa ?_ | refine wb rfl ?_ | refine wc rfl rfl hM ?_ | refine wd rfl hM ?_ | ((first | refine we rfl fun K hK => ?_ | refine wf rfl rfl fun K hK => ?_ | refine wg rfl rfl fun K hK => ?_ | refine wh rfl fun K hK => ?_); (simp only [lo, ld, ↓aop, ↓aCall, hP, hG, Nat.reduceLT, ↓reduceIte, Nat.reduceEqDiff, Nat.reduceAdd, Nat.reduceMul, Nat.reduceLeDiff, reduceCtorEq, D.cs, D.plain, fillD, chop, List.replicate, tk_3, ze_3, sz_3, tk_9, ze_9, sz_9, tk_104, ze_104, sz_104, tk_21, ze_21, sz_21, tk_105, ze_105, sz_105, kn_105, tk_5, ze_5, sz_5, tm, td, e0, e2, hw, hbl]; repeat (with_reducible refine And.intro ?_ ?_; focus (first | decide | omega | (simp only [ln]; omega)))); try ((first | refine hK _ _ ?_ | refine hK _ ?_); clear hK K; simp only [lp])) | ((first | refine wi ?_ | refine wj ?_ | refine wk ?_ | refine wl ?_ | refine wm ?_ | refine wn ?_); simp only [lt, ↓reduceIte, Nat.reduceEqDiff]) | refine wo ?_)
    have e3 : IntKind.u8.wrap (48 + ((u % 10 : Nat) : Int)) = (dig u).toNat := by
      rw [dig_int]
      simp only [IntKind.wrap, IntKind.signed, IntKind.bits, Bool.false_and, Bool.false_eq_true, if_false]; omega
    rw [Nat.mul_one, e3]
    refine ⟨u / 10 + 0, _, _, ?_, ?_, b, u / 10, dig u :: s, by simp, by simp only [List.length_cons]; omega, hI.step hs, rfl, rfl⟩
    · rcases hs with rfl | hs
      · simp; omega
      · split <;> omega
    · rw [show D.v (V.int IntKind.u8 (dig u).toNat) = D.v (u8V (dig u)) from rfl, buf_put]
      refine .weakFr ?_
      simp only [le, ↓reduceIte, Nat.reduceEqDiff, and_true]; repeat' (first | exact trivial | exact D.le_refl _ | exact D.le_any _ | with_reducible refine And.intro ?_ ?_)
  · have hu0 : u = 0 := by simp at hc; omega
    subst hu0
    have hne : s ≠ [] := by rintro rfl; simp at hc ha; omega
    have hd := hI.done hne
    have hl := natT_len hb
    have hbl := buf_len a s
    have hal : a ≤ 20 := by omega
    have hcut : bytesOfV (List.map (fun c => [c]) (List.drop a (List.take 20 (buf a s)))) = some s := by
      rw [List.take_of_length_le (by omega), buf_drop, List.map_map]; exact bytesOfV_u8 s
    rw [← hd] at hl
    repeat (first | refine wa ?_ | refine wb rfl ?_ | refine wc rfl rfl hM ?_ | refine wd rfl hM ?_ | ((first | refine we rfl fun K hK => ?_ | refine wf rfl rfl fun K hK => ?_ | refine wg rfl rfl fun K hK => ?_ | refine wh rfl fun K hK => ?_); (simp only [lo, ld, ↓aop, ↓aCall, hP, hG, Nat.reduceLT, ↓reduceIte, Nat.reduceEqDiff, Nat.reduceAdd, Nat.reduceMul, Nat.reduceLeDiff, reduceCtorEq, D.cs, D.plain, fillD, chop, List.replicate, tk_3, ze_3, sz_3, tk_9, ze_9, sz_9, tk_104, ze_104, sz_104]; repeat (with_reducible refine And.intro ?_ ?_; focus (first | decide | omega | (simp only [ln]; omega)))); try ((first | refine hK _ _ ?_ | refine hK _ ?_); clear hK K; simp only [lp])) | ((first | refine wi ?_ | refine wj ?_ | refine wk ?_ | refine wl ?_ | refine wm ?_ | refine wn ?_); simp only [lt, ↓reduceIte, Nat.reduceEqDiff]) | refine wo ?_)
    refine sat_ent (Ent.freeze 4 E.H0.length (buf a s) [(29, .v (.bool (decide (n < 0)))), (5, .v (.int .i64 a)), (4, .ptr E.H0.length 0), (2, .v (.str [])), (0, .v (.int .i64 n))] (by rw [hp_get0]; rfl) rfl ?_) ?_
    · simp only [le, ↓reduceIte, Nat.reduceEqDiff, and_true]; repeat' (first | exact trivial | exact D.le_refl _ | exact D.le_any _ | with_reducible refine And.intro ?_ ?_)
    rw [hp_set0]
    change Sat _ _ _ (E.H0 ++ [.dead]) _
    refine sat_cond rfl (fun hb => ?_) (fun hb => ?_)
    · repeat (first | refine wa ?_ | refine wb rfl ?_ | refine wc rfl rfl hM ?_ | refine wd rfl hM ?_ | ((first | refine we rfl fun K hK => ?_ | refine wf rfl rfl fun K hK => ?_ | refine wg rfl rfl fun K hK => ?_ | refine wh rfl fun K hK => ?_); (simp only [lo, ld, ↓aop, ↓aCall, hP, hG, Nat.reduceLT, ↓reduceIte, Nat.reduceEqDiff, Nat.reduceAdd, Nat.reduceMul, Nat.reduceLeDiff, reduceCtorEq, D.cs, D.plain, fillD, chop, List.replicate, tk_3, ze_3, sz_3, tk_9, ze_9, sz_9, tk_104, ze_104, sz_104, tk_105, ze_105, sz_105, kn_105, tk_93, ze_93, sz_93, tk_5, ze_5, sz_5, hbl, ha, hal, hcut]; repeat (with_reducible refine And.intro ?_ ?_; focus (first | decide | omega | (simp only [ln]; omega)))); try ((first | refine hK _ _ ?_ | refine hK _ ?_); clear hK K; simp only [lp])) | ((first | refine wi ?_ | refine wj ?_ | refine wk ?_ | refine wl ?_ | refine wm ?_ | refine wn ?_); simp only [lt, ↓reduceIte, Nat.reduceEqDiff]) | refine wo ?_)
      refine Fin.gc _ hE (by decide) rfl trivial ?_
      have : intT n = [45] ++ s := by simp at hb; simp only [intT, hb, if_true, hu, hd]; rfl
      rwa [this] at hK
    · repeat (first | refine wa ?_ | refine wb rfl ?_ | refine wc rfl rfl hM ?_ | refine wd rfl hM ?_ | ((first | refine we rfl fun K hK => ?_ | refine wf rfl rfl fun K hK => ?_ | refine wg rfl rfl fun K hK => ?_ | refine wh rfl fun K hK => ?_); (simp only [lo, ld, ↓aop, ↓aCall, hP, hG, Nat.reduceLT, ↓reduceIte, Nat.reduceEqDiff, Nat.reduceAdd, Nat.reduceMul, Nat.reduceLeDiff, reduceCtorEq, D.cs, D.plain, fillD, chop, List.replicate, tk_3, ze_3, sz_3, tk_9, ze_9, sz_9, tk_104, ze_104, sz_104, tk_105, ze_105, sz_105, kn_105, tk_93, ze_93, sz_93, tk_5, ze_5, sz_5, hbl, ha, hal, hcut]; repeat (with_reducible refine And.intro ?_ ?_; focus (first | decide | omega | (simp only [ln]; omega)))); try ((first | refine hK _ _ ?_ | refine hK _ ?_); clear hK K; simp only [lp])) | ((first | refine wi ?_ | refine wj ?_ | refine wk ?_ | refine wl ?_ | refine wm ?_ | refine wn ?_); simp only [lt, ↓reduceIte, Nat.reduceEqDiff]) | refine wo ?_)
      refine Fin.gc _ hE (by decide) rfl trivial ?_
      have : intT n = s := by simp at hb; simp only [intT, Int.not_lt.2 hb, if_false, hu, hd]
      rwa [this] at hK
end Go.Ag
namespace Go.Ag
open Go Go.Proofs
variable {G : Nat → Option (List V)}
attribute [local irreducible] aops qops Sat aop

def choMid (c : Cho) : Prop := c.path.length ≤ 1000000 ∧ c.slaves.length ≤ 1000000 ∧ ∀ t ∈ c.slaves, t.length ≤ 1000000
theorem getD_len {l : List Str} {m : Nat} (h : ∀ t ∈ l, t.length ≤ m) (i : Nat) : (l.getD i []).length ≤ m := by
  rw [List.getD_eq_getElem?_getD]
  cases hi : l[i]? with
  | none => simp
  | some t => exact h t (List.mem_of_getElem? hi)
theorem slv_mid {x : Alt} (h : altMid x) (i : Nat) : (x.slaves.getD i slv0).name.length ≤ 1000000 ∧ (x.slaves.getD i slv0).link.length ≤ 1000000 := by
  rw [List.getD_eq_getElem?_getD]
  cases hi : x.slaves[i]? with
  | none => simp [slv0]
  | some t => exact h.2.2.2.2.2.1 t (List.mem_of_getElem? hi)
theorem choR_lt (n : Nat) (c : Cho) : ltObs n [.box ((choR c).map .v)] := ⟨by simp only [Ob.lt]; exact ltL_v _ _, trivial⟩
theorem ltObs_two {n : Nat} {a b : Ob} (h1 : ltObs n [a]) (h2 : ltObs n [b]) : ltObs n [a, b] := ⟨h1.1, h2.1, trivial⟩

theorem right_cho {x : Alt} (h : rightP x = true) : (∀ c ∈ x.choices, c.slaves.length = x.slaves.length) ∧ ∃ k : Nat, best x.choices = k ∧ k < x.choices.length := by
  simp only [rightP, choicesOk, Bool.and_eq_true, List.all_eq_true, decide_eq_true_eq] at h
  obtain ⟨⟨⟨_, h1, h2, _⟩, _⟩, _⟩ := h
  constructor
  · intro c hc
    obtain ⟨i, hi, rfl⟩ := List.getElem_of_mem hc
    have h3 := h1 i (List.mem_range.2 hi)
    have e : x.choices.getD i cho0 = x.choices[i] := by simp [List.getD_eq_getElem?_getD, hi]
    rw [e] at h3
    simp [choBad] at h3
    exact h3.1.1.2
  · rcases bestN_rng x.choices x.choices.length with ⟨_, h4⟩ | h4
    · omega
    · exact h4
theorem cho_mid {x : Alt} (h : altMid x) {c : Cho} (hc : c ∈ x.choices) : choMid c := h.2.2.2.2.2.2 c hc
theorem intT_len {n : Int} (h : (Lit.int .i64 n).wf = true) : (intT n).length ≤ 21 := by
  obtain ⟨n1, n2⟩ := wf64 h
  have := natT_len (n := n.natAbs) (by omega)
  unfold intT
  split <;> (try simp only [List.length_cons]) <;> omega
end Go.Ag
namespace Go.Ag
open Go Go.Proofs
variable {G : Nat → Option (List V)}
attribute [local irreducible] aops qops Sat aop

/-! ### alternatives as lines -/
def modeA (x : Alt) : Str := if x.manual then [109, 97, 110, 117, 97, 108, 32] ++ x.cur else [97, 117, 116, 111]
def slvW (x : Alt) : Nat → List Str
  | 0 => []
  | n + 1 => slvW x n ++ [(x.slaves.getD n slv0).name, (x.slaves.getD n slv0).link]
def choW (x : Alt) : Nat → List Str
  | 0 => []
  | n + 1 => choW x n ++ ([(x.choices.getD n cho0).path, intT (x.choices.getD n cho0).prio] ++ (x.choices.getD n cho0).slaves)
def linesA (x : Alt) : List Str := [modeA x, x.link] ++ (slvW x x.slaves.length ++ ([[]] ++ (choW x x.choices.length ++ [[]])))
def textA (x : Alt) : Str := Lib.join (linesA x) [10] ++ [10]
def ShortL (m : Nat) (l : List Str) : Prop := ∀ s ∈ l, s.length ≤ m
theorem join_short {m : Nat} {l : List Str} (h : ShortL m l) : (Lib.join l [10]).length ≤ l.length * (m + 1) := by
  cases l with
  | nil => simp [Lib.join_nil]
  | cons a l =>
    have : (Lib.join (a :: l) [10]).length + 1 = (a :: l).length + ((a :: l).map List.length).sum := by
      clear h
      induction l generalizing a with
      | nil => simp [Lib.join_one]; omega
      | cons b l ih =>
        have h1 := ih b
        have h2 : Lib.join (a :: b :: l) [10] = a ++ ([10] ++ Lib.join (b :: l) [10]) := by simp [Lib.join, List.intercalate]
        rw [h2]
        simp only [List.length_append, List.length_cons, List.length_nil, List.map_cons, List.sum_cons] at h1 ⊢
        omega
    have h3 : ∀ l : List Str, ShortL m l → (l.map List.length).sum ≤ l.length * m := by
      intro l
      induction l with
      | nil => simp
      | cons a l ih =>
        intro h
        have h4 := ih fun s hs => h s (List.mem_cons_of_mem _ hs)
        have h5 := h a (by simp)
        simp only [List.map_cons, List.sum_cons, List.length_cons, Nat.add_mul, Nat.one_mul]; omega
    have h4 := h3 _ h
    rw [Nat.mul_add, Nat.mul_one]; omega
theorem ShortL.append {m : Nat} {a b : List Str} (h1 : ShortL m a) (h2 : ShortL m b) : ShortL m (a ++ b) := fun s hs => (List.mem_append.1 hs).elim (h1 s) (h2 s)
theorem slvW_short {x : Alt} (h : altMid x) : ∀ n, ShortL 1000007 (slvW x n) ∧ (slvW x n).length = n * 2
  | 0 => ⟨fun s hs => by simp [slvW] at hs, rfl⟩
  | n + 1 => by
    obtain ⟨h1, h2⟩ := slvW_short h n
    have h3 := slv_mid h n
    refine ⟨h1.append fun s hs => ?_, by simp only [slvW, List.length_append, h2, List.length_cons, List.length_nil]; omega⟩
    rcases List.mem_cons.1 hs with rfl | hs
    · omega
    · rw [List.mem_singleton] at hs; subst hs; omega
theorem cho_mem {x : Alt} {n : Nat} (h : n < x.choices.length) : x.choices.getD n cho0 ∈ x.choices := by
  rw [List.getD_eq_getElem?_getD, List.getElem?_eq_getElem h]
  exact List.getElem_mem _
theorem choW_short {x : Alt} (h : altMid x) (hr : rightP x = true) (hw : ∀ c ∈ x.choices, (Lit.int .i64 c.prio).wf = true) : ∀ n, n ≤ x.choices.length → ShortL 1000007 (choW x n) ∧ (choW x n).length = n * (x.slaves.length + 2)
  | 0, _ => ⟨fun s hs => by simp [choW] at hs, by simp [choW]⟩
  | n + 1, hn => by
    obtain ⟨h1, h2⟩ := choW_short h hr hw n (by omega)
    have h3 := cho_mem (x := x) (n := n) (by omega)
    have h4 := cho_mid h h3
    have h5 := intT_len (hw _ h3)
    have h6 := (right_cho hr).1 _ h3
    refine ⟨h1.append fun s hs => ?_, by simp only [choW, List.length_append, h2, List.length_cons, List.length_nil, h6, Nat.add_mul, Nat.one_mul]; omega⟩
    rcases List.mem_append.1 hs with hs | hs
    · rcases List.mem_cons.1 hs with rfl | hs
      · exact Nat.le_trans h4.1 (by omega)
      · rw [List.mem_singleton] at hs; subst hs; omega
    · exact Nat.le_trans (h4.2.2 s hs) (by omega)
theorem right_few {x : Alt} (h : rightP x = true) : x.slaves.length ≤ 64 ∧ x.choices.length ≤ 64 := by
  simp only [rightP, choicesOk, slavesOk, Bool.and_eq_true, decide_eq_true_eq] at h
  omega
theorem modeA_len {x : Alt} (h : altMid x) : (modeA x).length ≤ 1000007 := by
  have := h.2.2.1
  unfold modeA
  split <;> simp only [List.length_append, List.length_cons, List.length_nil] <;> omega
theorem linesA_short {x : Alt} (h : altMid x) (hr : rightP x = true) (hw : ∀ c ∈ x.choices, (Lit.int .i64 c.prio).wf = true) : ShortL 1000007 (linesA x) ∧ (linesA x).length ≤ 5000 := by
  obtain ⟨h1, h2⟩ := slvW_short h x.slaves.length
  obtain ⟨h3, h4⟩ := choW_short h hr hw x.choices.length (Nat.le_refl _)
  obtain ⟨h5, h6⟩ := right_few hr
  have h7 := modeA_len h
  have h8 := h.2.1
  refine ⟨ShortL.append (fun s hs => ?_) (h1.append (ShortL.append (fun s hs => ?_) (h3.append fun s hs => ?_))), ?_⟩
  · simp at hs
    rcases hs with rfl | rfl <;> omega
  · simp at hs; subst hs; simp
  · simp at hs; subst hs; simp
  · have h9 : x.choices.length * (x.slaves.length + 2) ≤ 64 * 66 := Nat.mul_le_mul h6 (by omega)
    simp only [linesA, List.length_append, h2, h4, List.length_cons, List.length_nil]; omega

/-! ### the place of a text -/
def idxS (l : List Str) (v : Str) : Int := match l.findIdx? (· == v) with | some i => (i : Int) | none => -1
set_option maxHeartbeats 4000000 in
theorem spec_Index (l : List Str) (v : Str) (hl : l.length ≤ 1099511627776) (H : List Ob) (K : D → List Ob → Prop) (hK : K (.v (.int .i64 (idxS l v))) H) : ACalls Tryd.prog G 88 [.v (strs l), .v (.str v)] H K := by
  refine ACalls.go Tryd.f88 _ 19 [4] Tryd.func88 rfl Tryd.ntmps88 (by kernel_rfl) rfl (by simp) (fun E hE hP hG hH => ?_)
  have hM : E.P.follows .mixedOrders = true := hP ▸ mixed
  subst hH
  simp only [args0]
  repeat (first | refine wa ?_ | refine wb rfl ?_ | refine wc rfl rfl hM ?_ | refine wd rfl hM ?_ | ((first | refine we rfl fun K hK => ?_ | refine wf rfl rfl fun K hK => ?_ | refine wg rfl rfl fun K hK => ?_ | refine wh rfl fun K hK => ?_); (simp only [lo, ld, ↓aop, ↓aCall, hP, hG, Nat.reduceLT, ↓reduceIte, Nat.reduceEqDiff, Nat.reduceAdd, Nat.reduceMul, Nat.reduceLeDiff, reduceCtorEq, D.cs, D.plain, fillD, chop, List.replicate, strs, tk_3, ze_3, sz_3, tk_9, ze_9, sz_9, tk_50, ze_50, sz_50]; repeat (with_reducible refine And.intro ?_ ?_; focus (first | decide | omega | (simp only [ln]; omega)))); try ((first | refine hK _ _ ?_ | refine hK _ ?_); clear hK K; simp only [lp])) | ((first | refine wi ?_ | refine wj ?_ | refine wk ?_ | refine wl ?_ | refine wm ?_ | refine wn ?_); simp only [lt, ↓reduceIte, Nat.reduceEqDiff]) | refine wo ?_)
  refine sat_loop_ent (fun n ts H => ∃ (i : Nat), n = l.length - i ∧ i ≤ l.length ∧ (∀ j, j < i → ∀ s, l[j]? = some s → s ≠ v) ∧
    ts = fr 19 [(8, .v (.int .i64 i)), (7, .v (.int .i64 l.length)), (4, .v (.int .i64 0)), (1, .v (.str v)), (0, .v (strs l))] ∧ H = E.H0) (l.length) (.weakFr ?_) ⟨0, rfl, Nat.zero_le _, by simp, rfl, rfl⟩ ?_
  · simp only [le, ↓reduceIte, Nat.reduceEqDiff, and_true]; repeat' (first | exact trivial | exact D.le_refl _ | exact D.le_any _ | with_reducible refine And.intro ?_ ?_)
  rintro n ts H ⟨i, rfl, hi, hall, rfl, rfl⟩
  repeat (first | refine wa ?_ | refine wb rfl ?_ | refine wc rfl rfl hM ?_ | refine wd rfl hM ?_ | ((first | refine we rfl fun K hK => ?_ | refine wf rfl rfl fun K hK => ?_ | refine wg rfl rfl fun K hK => ?_ | refine wh rfl fun K hK => ?_); (simp only [lo, ld, ↓aop, ↓aCall, hP, hG, Nat.reduceLT, ↓reduceIte, Nat.reduceEqDiff, Nat.reduceAdd, Nat.reduceMul, Nat.reduceLeDiff, reduceCtorEq, D.cs, D.plain, fillD, chop, List.replicate, strs, tk_3, ze_3, sz_3, tk_9, ze_9, sz_9, tk_50, ze_50, sz_50]; repeat (with_reducible refine And.intro ?_ ?_; focus (first | decide | omega | (simp only [ln]; omega)))); try ((first | refine hK _ _ ?_ | refine hK _ ?_); clear hK K; simp only [lp])) | ((first | refine wi ?_ | refine wj ?_ | refine wk ?_ | refine wl ?_ | refine wm ?_ | refine wn ?_); simp only [lt, ↓reduceIte, Nat.reduceEqDiff]) | refine wo ?_)
  refine sat_cond rfl (fun hc => ?_) (fun hc => ?_)
  · simp at hc
    obtain ⟨s, hx⟩ : ∃ s, l[i]? = some s := ⟨_, List.getElem?_eq_getElem hc⟩
    have hw := wrap_succ (i := i) (by omega)
    repeat (first | refine wa ?_ | refine wb rfl ?_ | refine wc rfl rfl hM ?_ | refine wd rfl hM ?_ | ((first | refine we rfl fun K hK => ?_ | refine wf rfl rfl fun K hK => ?_ | refine wg rfl rfl fun K hK => ?_ | refine wh rfl fun K hK => ?_); (simp only [lo, ld, ↓aop, ↓aCall, hP, hG, Nat.reduceLT, ↓reduceIte, Nat.reduceEqDiff, Nat.reduceAdd, Nat.reduceMul, Nat.reduceLeDiff, reduceCtorEq, D.cs, D.plain, fillD, chop, List.replicate, strs, tk_3, ze_3, sz_3, tk_9, ze_9, sz_9, tk_50, ze_50, sz_50, hc, hx]; repeat (with_reducible refine And.intro ?_ ?_; focus (first | decide | omega | (simp only [ln]; omega)))); try ((first | refine hK _ _ ?_ | refine hK _ ?_); clear hK K; simp only [lp])) | ((first | refine wi ?_ | refine wj ?_ | refine wk ?_ | refine wl ?_ | refine wm ?_ | refine wn ?_); simp only [lt, ↓reduceIte, Nat.reduceEqDiff]) | refine wo ?_)
    refine sat_cond rfl (fun hb => ?_) (fun hb => ?_)
    · repeat (first | refine wa ?_ | refine wb rfl ?_ | refine wc rfl rfl hM ?_ | refine wd rfl hM ?_ | ((first | refine we rfl fun K hK => ?_ | refine wf rfl rfl fun K hK => ?_ | refine wg rfl rfl fun K hK => ?_ | refine wh rfl fun K hK => ?_); (simp only [lo, ld, ↓aop, ↓aCall, hP, hG, Nat.reduceLT, ↓reduceIte, Nat.reduceEqDiff, Nat.reduceAdd, Nat.reduceMul, Nat.reduceLeDiff, reduceCtorEq, D.cs, D.plain, fillD, chop, List.replicate]; repeat (with_reducible refine And.intro ?_ ?_; focus (first | decide | omega | (simp only [ln]; omega)))); try ((first | refine hK _ _ ?_ | refine hK _ ?_); clear hK K; simp only [lp])) | ((first | refine wi ?_ | refine wj ?_ | refine wk ?_ | refine wl ?_ | refine wm ?_ | refine wn ?_); simp only [lt, ↓reduceIte, Nat.reduceEqDiff]) | refine wo ?_)
      refine Fin.is _ (by decide) rfl ?_
      have hb' : v = s := by simpa using hb
      subst hb'
      have : idxS l v = i := by
        have h1 : l.findIdx? (· == v) = some i := by
          rw [List.findIdx?_eq_some_iff_getElem]
          refine ⟨hc, ?_, fun j hj => ?_⟩
          · rw [List.getElem?_eq_getElem hc] at hx; cases hx; simp
          · simpa using hall j hj _ (List.getElem?_eq_getElem (by omega))
        rw [idxS, h1]
      rwa [this] at hK
    · repeat (first | refine wa ?_ | refine wb rfl ?_ | refine wc rfl rfl hM ?_ | refine wd rfl hM ?_ | ((first | refine we rfl fun K hK => ?_ | refine wf rfl rfl fun K hK => ?_ | refine wg rfl rfl fun K hK => ?_ | refine wh rfl fun K hK => ?_); (simp only [lo, ld, ↓aop, ↓aCall, hP, hG, Nat.reduceLT, ↓reduceIte, Nat.reduceEqDiff, Nat.reduceAdd, Nat.reduceMul, Nat.reduceLeDiff, reduceCtorEq, D.cs, D.plain, fillD, chop, List.replicate, hw]; repeat (with_reducible refine And.intro ?_ ?_; focus (first | decide | omega | (simp only [ln]; omega)))); try ((first | refine hK _ _ ?_ | refine hK _ ?_); clear hK K; simp only [lp])) | ((first | refine wi ?_ | refine wj ?_ | refine wk ?_ | refine wl ?_ | refine wm ?_ | refine wn ?_); simp only [lt, ↓reduceIte, Nat.reduceEqDiff]) | refine wo ?_)
      refine ⟨l.length - (i + 1), _, _, by omega, .weakFr ?_, i + 1, rfl, by omega, fun j hj s' hs' => ?_, rfl, rfl⟩
      · simp only [le, ↓reduceIte, Nat.reduceEqDiff, and_true]; repeat' (first | exact trivial | exact D.le_refl _ | exact D.le_any _ | with_reducible refine And.intro ?_ ?_)
      · by_cases hji : j = i
        · subst hji
          rw [hx] at hs'; cases hs'
          have hb' : ¬ v = s := by simpa using hb
          exact fun h => hb' h.symm
        · exact hall j (by omega) s' hs'
  · simp at hc
    repeat (first | refine wa ?_ | refine wb rfl ?_ | refine wc rfl rfl hM ?_ | refine wd rfl hM ?_ | ((first | refine we rfl fun K hK => ?_ | refine wf rfl rfl fun K hK => ?_ | refine wg rfl rfl fun K hK => ?_ | refine wh rfl fun K hK => ?_); (simp only [lo, ld, ↓aop, ↓aCall, hP, hG, Nat.reduceLT, ↓reduceIte, Nat.reduceEqDiff, Nat.reduceAdd, Nat.reduceMul, Nat.reduceLeDiff, reduceCtorEq, D.cs, D.plain, fillD, chop, List.replicate]; repeat (with_reducible refine And.intro ?_ ?_; focus (first | decide | omega | (simp only [ln]; omega)))); try ((first | refine hK _ _ ?_ | refine hK _ ?_); clear hK K; simp only [lp])) | ((first | refine wi ?_ | refine wj ?_ | refine wk ?_ | refine wl ?_ | refine wm ?_ | refine wn ?_); simp only [lt, ↓reduceIte, Nat.reduceEqDiff]) | refine wo ?_)
    refine Fin.is _ (by decide) rfl ?_
    have : idxS l v = -1 := by
      have h1 : l.findIdx? (· == v) = none := by
        rw [List.findIdx?_eq_none_iff]
        intro s hs
        obtain ⟨j, hj, rfl⟩ := List.getElem_of_mem hs
        simpa using hall j (by omega) _ (List.getElem?_eq_getElem hj)
      rw [idxS, h1]
    rwa [this] at hK
end Go.Ag
namespace Go.Ag
open Go Go.Proofs
variable {G : Nat → Option (List V)}
attribute [local irreducible] aops qops Sat aop

def printA (x : Alt) : Str × Int := if rightP x then (textA x, 0) else ([], 1)
theorem rowsS_len (l : List Str) : (rowsS l).length = l.length := by simp [rowsS]
theorem rowsS_app (a b : List Str) : rowsS (a ++ b) = rowsS a ++ rowsS b := by simp [rowsS]
theorem rowsS_take (l : List Str) : (rowsS l).take l.length = rowsS l := List.take_of_length_le (by simp [rowsS])
theorem rowsS_v (l : List Str) : rowsS l = (l.map fun s => [V.str s]).map (·.map .v) := by simp [rowsS]
theorem rowsS_lt (n v : Nat) (l : List Str) : Ob.lt n (.arr v 1 (rowsS l) 0) := by
  rw [rowsS_v]; exact ltRows n _
set_option maxRecDepth 20000 in
set_option maxHeartbeats 8000000 in
theorem spec_AltPrint (x : Alt) (m : Int) (hm : altMid x) (hw : ∀ c ∈ x.choices, (Lit.int .i64 c.prio).wf = true) (hG0 : G 0 = some [.int .i64 m]) (H : List Ob) (K : D → List Ob → Prop) (hK : K (.tup [.v (.str (printA x).1), .v (.int .i64 (printA x).2)]) H) : ACalls Tryd.prog G 48 [altd x] H K := by
  refine ACalls.go Tryd.f48 _ 65 [2, 3] Tryd.func48 rfl Tryd.ntmps48 (by kernel_rfl) rfl (by simp) (fun E hE hP hG hH => ?_)
  have hM : E.P.follows .mixedOrders = true := hP ▸ mixed
  have hm0 := hm
  obtain ⟨m1, m2, m3, m4, m5, m6, m7⟩ := hm0
  subst hH
  simp only [args0, altd]
  repeat (first | refine wa ?_ | refine wb rfl ?_ | refine wc rfl rfl hM ?_ | refine wd rfl hM ?_ | ((first | refine we rfl fun K hK => ?_ | refine wf rfl rfl fun K hK => ?_ | refine wg rfl rfl fun K hK => ?_ | refine wh rfl fun K hK => ?_); (simp only [lo, ld, ↓aop, ↓aCall, hP, hG, Nat.reduceLT, ↓reduceIte, Nat.reduceEqDiff, Nat.reduceAdd, Nat.reduceMul, Nat.reduceLeDiff, reduceCtorEq, D.cs, D.plain, fillD, chop, List.replicate, altB, altV, tk_3, ze_3, sz_3, tk_9, ze_9, sz_9, tk_46, ze_46, sz_46, kn_46, tk_24, ze_24, sz_24]; repeat (with_reducible refine And.intro ?_ ?_; focus (first | decide | omega | (simp only [ln]; omega)))); try ((first | refine hK _ _ ?_ | refine hK _ ?_); clear hK K; simp only [lp])) | ((first | refine wi ?_ | refine wj ?_ | refine wk ?_ | refine wl ?_ | refine wm ?_ | refine wn ?_); simp only [lt, ↓reduceIte, Nat.reduceEqDiff]) | refine wo ?_)
  refine spec_AltRight x m hm hG0 _ _ (hK _ _ ?_)
  clear hK K; simp only [lp]
  repeat (first | refine wa ?_ | refine wb rfl ?_ | refine wc rfl rfl hM ?_ | refine wd rfl hM ?_ | ((first | refine we rfl fun K hK => ?_ | refine wf rfl rfl fun K hK => ?_ | refine wg rfl rfl fun K hK => ?_ | refine wh rfl fun K hK => ?_); (simp only [lo, ld, ↓aop, ↓aCall, hP, hG, Nat.reduceLT, ↓reduceIte, Nat.reduceEqDiff, Nat.reduceAdd, Nat.reduceMul, Nat.reduceLeDiff, reduceCtorEq, D.cs, D.plain, fillD, chop, List.replicate, altB, altV, tk_3, ze_3, sz_3, tk_9, ze_9, sz_9, tk_46, ze_46, sz_46, kn_46, tk_24, ze_24, sz_24]; repeat (with_reducible refine And.intro ?_ ?_; focus (first | decide | omega | (simp only [ln]; omega)))); try ((first | refine hK _ _ ?_ | refine hK _ ?_); clear hK K; simp only [lp])) | ((first | refine wi ?_ | refine wj ?_ | refine wk ?_ | refine wl ?_ | refine wm ?_ | refine wn ?_); simp only [lt, ↓reduceIte, Nat.reduceEqDiff]) | refine wo ?_)
  refine sat_cond rfl (fun hb => ?_) (fun hb => ?_)
  · repeat (first | refine wa ?_ | refine wb rfl ?_ | refine wc rfl rfl hM ?_ | refine wd rfl hM ?_ | ((first | refine we rfl fun K hK => ?_ | refine wf rfl rfl fun K hK => ?_ | refine wg rfl rfl fun K hK => ?_ | refine wh rfl fun K hK => ?_); (simp only [lo, ld, ↓aop, ↓aCall, hP, hG, Nat.reduceLT, ↓reduceIte, Nat.reduceEqDiff, Nat.reduceAdd, Nat.reduceMul, Nat.reduceLeDiff, reduceCtorEq, D.cs, D.plain, fillD, chop, List.replicate, tk_24, ze_24, sz_24]; repeat (with_reducible refine And.intro ?_ ?_; focus (first | decide | omega | (simp only [ln]; omega)))); try ((first | refine hK _ _ ?_ | refine hK _ ?_); clear hK K; simp only [lp])) | ((first | refine wi ?_ | refine wj ?_ | refine wk ?_ | refine wl ?_ | refine wm ?_ | refine wn ?_); simp only [lt, ↓reduceIte, Nat.reduceEqDiff]) | refine wo ?_)
    refine Fin.gc2 _ _ hE (by decide) (by decide) (by decide) rfl rfl trivial trivial ?_
    have : printA x = ([], 1) := by rw [Bool.not_eq_true'] at hb; simp [printA, hb]
    rwa [this] at hK
  have hr : rightP x = true := by rw [Bool.not_eq_false'] at hb; exact hb
  obtain ⟨hcs, -⟩ := right_cho hr
  obtain ⟨f1, f2⟩ := right_few hr
  obtain ⟨s1, s2⟩ := linesA_short hm hr hw
  repeat (first | refine wa ?_ | refine wb rfl ?_ | refine wc rfl rfl hM ?_ | refine wd rfl hM ?_ | ((first | refine we rfl fun K hK => ?_ | refine wf rfl rfl fun K hK => ?_ | refine wg rfl rfl fun K hK => ?_ | refine wh rfl fun K hK => ?_); (simp only [lo, ld, ↓aop, ↓aCall, hP, hG, Nat.reduceLT, ↓reduceIte, Nat.reduceEqDiff, Nat.reduceAdd, Nat.reduceMul, Nat.reduceLeDiff, reduceCtorEq, D.cs, D.plain, fillD, chop, List.replicate, altB, altV, tk_3, ze_3, sz_3, tk_4, ze_4, sz_4, tk_9, ze_9, sz_9, tk_46, ze_46, sz_46, kn_46, tk_24, ze_24, sz_24]; repeat (with_reducible refine And.intro ?_ ?_; focus (first | decide | omega | (simp only [ln]; omega)))); try ((first | refine hK _ _ ?_ | refine hK _ ?_); clear hK K; simp only [lp])) | ((first | refine wi ?_ | refine wj ?_ | refine wk ?_ | refine wl ?_ | refine wm ?_ | refine wn ?_); simp only [lt, ↓reduceIte, Nat.reduceEqDiff]) | refine wo ?_)
  refine sat_thru (fr 65 [(4, .v (.str (modeA x))), (3, .v (.int .i64 0)), (2, .v (.str [])), (1, .ptr E.H0.length 0)]) (E.H0 ++ [altB x]) ?_ ?_
  · refine sat_cond rfl (fun hb => ?_) (fun hb => ?_)
    · have e : modeA x = [109, 97, 110, 117, 97, 108, 32] ++ x.cur := by simp only [modeA, hb, if_true]
      repeat (first | refine wa ?_ | refine wb rfl ?_ | refine wc rfl rfl hM ?_ | refine wd rfl hM ?_ | ((first | refine we rfl fun K hK => ?_ | refine wf rfl rfl fun K hK => ?_ | refine wg rfl rfl fun K hK => ?_ | refine wh rfl fun K hK => ?_); (simp only [lo, ld, ↓aop, ↓aCall, hP, hG, Nat.reduceLT, ↓reduceIte, Nat.reduceEqDiff, Nat.reduceAdd, Nat.reduceMul, Nat.reduceLeDiff, reduceCtorEq, D.cs, D.plain, fillD, chop, List.replicate, altB, altV, tk_3, ze_3, sz_3, tk_4, ze_4, sz_4, tk_9, ze_9, sz_9, tk_46, ze_46, sz_46, kn_46]; repeat (with_reducible refine And.intro ?_ ?_; focus (first | decide | omega | (simp only [ln]; omega)))); try ((first | refine hK _ _ ?_ | refine hK _ ?_); clear hK K; simp only [lp])) | ((first | refine wi ?_ | refine wj ?_ | refine wk ?_ | refine wl ?_ | refine wm ?_ | refine wn ?_); simp only [lt, ↓reduceIte, Nat.reduceEqDiff]) | refine wo ?_)
      refine .weakFr ?_
      rw [e]
      simp only [le, ↓reduceIte, Nat.reduceEqDiff, and_true]; repeat' (first | exact trivial | exact D.le_refl _ | exact D.le_any _ | with_reducible refine And.intro ?_ ?_)
    · have e : modeA x = [97, 117, 116, 111] := by simp only [modeA, hb]; rfl
      repeat (first | refine wa ?_ | refine wb rfl ?_ | refine wc rfl rfl hM ?_ | refine wd rfl hM ?_ | ((first | refine we rfl fun K hK => ?_ | refine wf rfl rfl fun K hK => ?_ | refine wg rfl rfl fun K hK => ?_ | refine wh rfl fun K hK => ?_); (simp only [lo, ld, ↓aop, ↓aCall, hP, hG, Nat.reduceLT, ↓reduceIte, Nat.reduceEqDiff, Nat.reduceAdd, Nat.reduceMul, Nat.reduceLeDiff, reduceCtorEq, D.cs, D.plain, fillD, chop, List.replicate]; repeat (with_reducible refine And.intro ?_ ?_; focus (first | decide | omega | (simp only [ln]; omega)))); try ((first | refine hK _ _ ?_ | refine hK _ ?_); clear hK K; simp only [lp])) | ((first | refine wi ?_ | refine wj ?_ | refine wk ?_ | refine wl ?_ | refine wm ?_ | refine wn ?_); simp only [lt, ↓reduceIte, Nat.reduceEqDiff]) | refine wo ?_)
      refine .weakFr ?_
      rw [e]
      simp only [le, ↓reduceIte, Nat.reduceEqDiff, and_true]; repeat' (first | exact trivial | exact D.le_refl _ | exact D.le_any _ | with_reducible refine And.intro ?_ ?_)
  repeat (first | refine wa ?_ | refine wb rfl ?_ | refine wc rfl rfl hM ?_ | refine wd rfl hM ?_ | ((first | refine we rfl fun K hK => ?_ | refine wf rfl rfl fun K hK => ?_ | refine wg rfl rfl fun K hK => ?_ | refine wh rfl fun K hK => ?_); (simp only [lo, ld, ↓aop, ↓aCall, hP, hG, Nat.reduceLT, ↓reduceIte, Nat.reduceEqDiff, Nat.reduceAdd, Nat.reduceMul, Nat.reduceLeDiff, reduceCtorEq, D.cs, D.plain, fillD, chop, List.replicate, altB, altV, slvs, tk_3, ze_3, sz_3, tk_4, ze_4, sz_4, tk_9, ze_9, sz_9, tk_46, ze_46, sz_46, kn_46, tk_50, ze_50, sz_50, tk_43, ze_43, sz_43]; repeat (with_reducible refine And.intro ?_ ?_; focus (first | decide | omega | (simp only [ln]; omega)))); try ((first | refine hK _ _ ?_ | refine hK _ ?_); clear hK K; simp only [lp])) | ((first | refine wi ?_ | refine wj ?_ | refine wk ?_ | refine wl ?_ | refine wm ?_ | refine wn ?_); simp only [lt, ↓reduceIte, Nat.reduceEqDiff]) | refine wo ?_)
  refine sat_loop_ent (fun n ts H => ∃ (i ver : Nat) (l : List Str), n = x.slaves.length - i ∧ i ≤ x.slaves.length ∧ l = [modeA x, x.link] ++ slvW x i ∧ 1 ≤ ver ∧
    ts = fr 65 [(25, .v (.int .i64 i)), (24, .v (.int .i64 x.slaves.length)), (23, .v (slvs x.slaves)), (5, .own (E.H0.length + 1) ver l.length), (2, .v (.str [])), (1, .ptr E.H0.length 0)] ∧ H = E.H0 ++ [altB x, .arr ver 1 (rowsS l) 0]) (x.slaves.length) (.weakFr ?_) ⟨0, 1, _, rfl, Nat.zero_le _, rfl, Nat.le_refl _, rfl, rfl⟩ ?_
  · simp only [le, ↓reduceIte, Nat.reduceEqDiff, and_true]; repeat' (first | exact trivial | exact D.le_refl _ | exact D.le_any _ | with_reducible refine And.intro ?_ ?_)
  rintro n ts H ⟨i, ver, l, rfl, hi, hl, hv, rfl, rfl⟩
  have hll : l.length = 2 + i * 2 := by rw [hl, List.length_append, (slvW_short hm i).2]; rfl
  repeat (first | refine wa ?_ | refine wb rfl ?_ | refine wc rfl rfl hM ?_ | refine wd rfl hM ?_ | ((first | refine we rfl fun K hK => ?_ | refine wf rfl rfl fun K hK => ?_ | refine wg rfl rfl fun K hK => ?_ | refine wh rfl fun K hK => ?_); (simp only [lo, ld, ↓aop, ↓aCall, hP, hG, Nat.reduceLT, ↓reduceIte, Nat.reduceEqDiff, Nat.reduceAdd, Nat.reduceMul, Nat.reduceLeDiff, reduceCtorEq, D.cs, D.plain, fillD, chop, List.replicate, slvs, tk_3, ze_3, sz_3, tk_9, ze_9, sz_9, tk_46, ze_46, sz_46, kn_46, tk_43, ze_43, sz_43, tk_73, ze_73, sz_73, kn_73]; repeat (with_reducible refine And.intro ?_ ?_; focus (first | decide | omega | (simp only [ln]; omega)))); try ((first | refine hK _ _ ?_ | refine hK _ ?_); clear hK K; simp only [lp])) | ((first | refine wi ?_ | refine wj ?_ | refine wk ?_ | refine wl ?_ | refine wm ?_ | refine wn ?_); simp only [lt, ↓reduceIte, Nat.reduceEqDiff]) | refine wo ?_)
  refine sat_cond rfl (fun hb => ?_) (fun hb => ?_)
  · simp at hb
    obtain ⟨s, hx⟩ : ∃ s, x.slaves[i]? = some s := ⟨_, List.getElem?_eq_getElem hb⟩
    have hw := wrap_succ (i := i) (by omega)
    have gx : x.slaves.getD i slv0 = s := by simp [List.getD_eq_getElem?_getD, hx]
    repeat (first | refine wa ?_ | refine wb rfl ?_ | refine wc rfl rfl hM ?_ | refine wd rfl hM ?_ | ((first | refine we rfl fun K hK => ?_ | refine wf rfl rfl fun K hK => ?_ | refine wg rfl rfl fun K hK => ?_ | refine wh rfl fun K hK => ?_); (simp only [lo, ld, ↓aop, ↓aCall, hP, hG, Nat.reduceLT, ↓reduceIte, Nat.reduceEqDiff, Nat.reduceAdd, Nat.reduceMul, Nat.reduceLeDiff, reduceCtorEq, D.cs, D.plain, fillD, chop, List.replicate, slvs, tk_3, ze_3, sz_3, tk_9, ze_9, sz_9, tk_46, ze_46, sz_46, kn_46, tk_43, ze_43, sz_43, tk_73, ze_73, sz_73, kn_73, tk_50, ze_50, sz_50, hb, hx, hw, rowsS_len, rowsS_take]; repeat (with_reducible refine And.intro ?_ ?_; focus (first | decide | omega | (simp only [ln]; omega)))); try ((first | refine hK _ _ ?_ | refine hK _ ?_); clear hK K; simp only [lp])) | ((first | refine wi ?_ | refine wj ?_ | refine wk ?_ | refine wl ?_ | refine wm ?_ | refine wn ?_); simp only [lt, ↓reduceIte, Nat.reduceEqDiff]) | refine wo ?_)
    refine ⟨x.slaves.length - (i + 1), _, _, by omega, ?_, i + 1, ver + 1, l ++ [s.name, s.link], rfl, by omega, by rw [hl, slvW, gx, List.append_assoc], by omega, rfl, rfl⟩
    refine Ent.rnd hE ?_ ?_ ?_ ?_
    · rw [List.length_append]
      simp only [le, ↓reduceIte, Nat.reduceEqDiff, and_true]; repeat' (first | exact trivial | exact D.le_refl _ | exact D.le_any _ | with_reducible refine And.intro ?_ ?_)
    · rw [rowsS_app]; rfl
    · simp [ltAll, ltObs, Ob.lt, D.lt, D.ltL, or_imp, forall_and]
    · exact ⟨(altB_lt _ _).1, rowsS_lt _ _ _, trivial⟩
  simp at hb
  obtain rfl : i = x.slaves.length := by omega
  repeat (first | refine wa ?_ | refine wb rfl ?_ | refine wc rfl rfl hM ?_ | refine wd rfl hM ?_ | ((first | refine we rfl fun K hK => ?_ | refine wf rfl rfl fun K hK => ?_ | refine wg rfl rfl fun K hK => ?_ | refine wh rfl fun K hK => ?_); (simp only [lo, ld, ↓aop, ↓aCall, hP, hG, Nat.reduceLT, ↓reduceIte, Nat.reduceEqDiff, Nat.reduceAdd, Nat.reduceMul, Nat.reduceLeDiff, reduceCtorEq, D.cs, D.plain, fillD, chop, List.replicate, altB, altV, chos, tk_3, ze_3, sz_3, tk_9, ze_9, sz_9, tk_46, ze_46, sz_46, kn_46, tk_43, ze_43, sz_43, tk_50, ze_50, sz_50, tk_44, ze_44, sz_44, rowsS_len, rowsS_take]; repeat (with_reducible refine And.intro ?_ ?_; focus (first | decide | omega | (simp only [ln]; omega)))); try ((first | refine hK _ _ ?_ | refine hK _ ?_); clear hK K; simp only [lp])) | ((first | refine wi ?_ | refine wj ?_ | refine wk ?_ | refine wl ?_ | refine wm ?_ | refine wn ?_); simp only [lt, ↓reduceIte, Nat.reduceEqDiff]) | refine wo ?_)
  refine sat_loop_ent (fun n ts H => ∃ (i ver : Nat) (l2 : List Str), n = x.choices.length - i ∧ i ≤ x.choices.length ∧ l2 = l ++ ([[]] ++ choW x i) ∧ 1 ≤ ver ∧
    ts = fr 65 [(43, .v (.int .i64 i)), (42, .v (.int .i64 x.choices.length)), (41, .v (chos x.choices)), (5, .own (E.H0.length + 1) ver l2.length), (2, .v (.str [])), (1, .ptr E.H0.length 0)] ∧ H = E.H0 ++ [altB x, .arr ver 1 (rowsS l2) 0]) (x.choices.length) (Ent.rnd hE ?_ ?_ ?_ ?_) ⟨0, ver + 1, l ++ [[]], rfl, Nat.zero_le _, rfl, by omega, rfl, rfl⟩ ?_
  · rw [List.length_append]
    simp only [le, ↓reduceIte, Nat.reduceEqDiff, and_true]; repeat' (first | exact trivial | exact D.le_refl _ | exact D.le_any _ | with_reducible refine And.intro ?_ ?_)
  · rw [rowsS_app]; rfl
  · simp [ltAll, ltObs, Ob.lt, D.lt, D.ltL, or_imp, forall_and]
  · exact ⟨(altB_lt _ _).1, rowsS_lt _ _ _, trivial⟩
  rintro n ts H ⟨i, ver, l2, rfl, hi, hl2, hv, rfl, rfl⟩
  have hll2 : l2.length ≤ 5000 := by
    rw [hl2, List.length_append, List.length_append, (choW_short hm hr hw i hi).2, hll]
    have := Nat.mul_le_mul (Nat.le_trans hi f2) (show x.slaves.length + 2 ≤ 66 by omega)
    simp only [List.length_cons, List.length_nil]; omega
  repeat (first | refine wa ?_ | refine wb rfl ?_ | refine wc rfl rfl hM ?_ | refine wd rfl hM ?_ | ((first | refine we rfl fun K hK => ?_ | refine wf rfl rfl fun K hK => ?_ | refine wg rfl rfl fun K hK => ?_ | refine wh rfl fun K hK => ?_); (simp only [lo, ld, ↓aop, ↓aCall, hP, hG, Nat.reduceLT, ↓reduceIte, Nat.reduceEqDiff, Nat.reduceAdd, Nat.reduceMul, Nat.reduceLeDiff, reduceCtorEq, D.cs, D.plain, fillD, chop, List.replicate, chos, tk_3, ze_3, sz_3, tk_9, ze_9, sz_9, tk_46, ze_46, sz_46, kn_46, tk_44, ze_44, sz_44, tk_52, ze_52, sz_52, kn_52]; repeat (with_reducible refine And.intro ?_ ?_; focus (first | decide | omega | (simp only [ln]; omega)))); try ((first | refine hK _ _ ?_ | refine hK _ ?_); clear hK K; simp only [lp])) | ((first | refine wi ?_ | refine wj ?_ | refine wk ?_ | refine wl ?_ | refine wm ?_ | refine wn ?_); simp only [lt, ↓reduceIte, Nat.reduceEqDiff]) | refine wo ?_)
  refine sat_cond rfl (fun hb => ?_) (fun hb => ?_)
  · simp at hb
    obtain ⟨c, hx⟩ : ∃ s, x.choices[i]? = some s := ⟨_, List.getElem?_eq_getElem hb⟩
    have hc := List.mem_of_getElem? hx
    have hw1 := wrap_succ (i := i) (by omega)
    have gx : x.choices.getD i cho0 = c := by simp [List.getD_eq_getElem?_getD, hx]
    have hcn := hcs c hc
    repeat (first | refine wa ?_ | refine wo ?_ | (refine wl ?_; simp only [lt]))
    refine wb rfl ?_
    repeat' (first | ((first | refine wx ?_ | refine wy ?_ | refine wz ?_); (simp only [lo, ld, ↓aop, ↓aCall, hP, hG, Nat.reduceLT, ↓reduceIte, Nat.reduceEqDiff, Nat.reduceAdd, Nat.reduceMul, Nat.reduceLeDiff, reduceCtorEq, D.cs, D.plain, fillD, chop, List.replicate, chos, tk_3, ze_3, sz_3, tk_9, ze_9, sz_9, tk_46, ze_46, sz_46, kn_46, tk_44, ze_44, sz_44, tk_52, ze_52, sz_52, kn_52, tk_50, ze_50, sz_50, hb, hx]; repeat (with_reducible refine And.intro ?_ ?_; focus (first | decide | omega | (simp only [ln]; omega)))); try ((first | refine hK _ _ ?_ | refine hK _ ?_); clear hK K; simp only [lp])) | refine we rfl fun K hK => ?_ | refine wf rfl rfl fun K hK => ?_ | refine wg rfl rfl fun K hK => ?_ | refine wh rfl fun K hK => ?_ | ((first | refine Xg rfl rfl (by decide) ?_ fun K hK => ?_ | refine Yg rfl rfl (by decide) ?_ fun K hK => ?_ | refine Zg rfl rfl rfl (by decide) ?_ fun K hK => ?_); (focus (simp only [look_cons, ↓reduceIte, Nat.reduceEqDiff, Bool.not_true, Bool.not_false]; done))) | ((first | refine Xn rfl rfl (by decide) ?_ ?_ | refine Yn rfl rfl (by decide) ?_ ?_ | refine Zn rfl rfl rfl (by decide) ?_ ?_); (focus (simp only [look_cons, ↓reduceIte, Nat.reduceEqDiff, Bool.not_true, Bool.not_false]; done)); simp only [lp]) | ((first | refine Xo rfl rfl (by decide) ?_ ?_ | refine Yo rfl rfl (by decide) ?_ ?_ | refine Zo rfl rfl rfl (by decide) ?_ ?_); (focus (simp only [look_cons, ↓reduceIte, Nat.reduceEqDiff, Bool.not_true, Bool.not_false]; done)); simp only [lp]) | ((first | refine Xs rfl rfl (by decide) rfl (fun h K hK => ?_) fun h => ?_ | refine Ys rfl rfl (by decide) rfl (fun h K hK => ?_) fun h => ?_ | refine Zs rfl rfl rfl (by decide) rfl (fun h K hK => ?_) fun h => ?_); rotate_left; (focus (simp only [Bool.not_true, Bool.not_false, lp])); rotate_left) | ((first | refine wi ?_ | refine wj ?_ | refine wk ?_); simp only [lt, ↓reduceIte, Nat.reduceEqDiff]))
    refine wa ?_
    refine vb (E.H0.length + 2) ((choR c).map .v) hM (by rw [hp_get]; rfl) ?_
    repeat (first | refine wa ?_ | ((first | refine vl rfl rfl fun K hK => ?_ | refine vf rfl rfl fun K hK => ?_ | refine vg rfl rfl fun K hK => ?_); (simp only [lo, ld, ↓aop, ↓aCall, hP, hG, Nat.reduceLT, ↓reduceIte, Nat.reduceEqDiff, Nat.reduceAdd, Nat.reduceMul, Nat.reduceLeDiff, reduceCtorEq, D.cs, D.plain, fillD, chop, List.replicate, putB_get, choR, tk_3, ze_3, sz_3, tk_9, ze_9, sz_9, tk_52, ze_52, sz_52, kn_52, tk_50, ze_50, sz_50, rowsS_len, rowsS_take]; repeat (with_reducible refine And.intro ?_ ?_; focus (first | decide | omega | (simp only [ln]; omega)))); try ((first | refine hK _ _ (by first | (rw [hp_get]; rfl) | exact hp_old (by assumption)) ?_ | refine hK _ _ ?_ | refine hK _ ?_); clear hK K; simp only [lp])) | (refine vk ?_; simp only [lt, ↓reduceIte, Nat.reduceEqDiff]))
    refine ⟨_, fun H => spec_Text c.prio (hw c hc) _ _ ⟨rfl, rfl⟩, hK _ ?_⟩
    clear hK K; simp only [lp]
    repeat (first | refine wa ?_ | ((first | refine vl rfl rfl fun K hK => ?_ | refine vf rfl rfl fun K hK => ?_ | refine vg rfl rfl fun K hK => ?_); (simp only [lo, ld, ↓aop, ↓aCall, hP, hG, Nat.reduceLT, ↓reduceIte, Nat.reduceEqDiff, Nat.reduceAdd, Nat.reduceMul, Nat.reduceLeDiff, reduceCtorEq, D.cs, D.plain, fillD, chop, List.replicate, putB_get, choR, tk_3, ze_3, sz_3, tk_9, ze_9, sz_9, tk_52, ze_52, sz_52, kn_52, tk_50, ze_50, sz_50, rowsS_len, rowsS_take]; repeat (with_reducible refine And.intro ?_ ?_; focus (first | decide | omega | (simp only [ln]; omega)))); try ((first | refine hK _ _ (by first | (rw [hp_get]; rfl) | exact hp_old (by assumption)) ?_ | refine hK _ _ ?_ | refine hK _ ?_); clear hK K; simp only [lp])) | (refine vk ?_; simp only [lt, ↓reduceIte, Nat.reduceEqDiff]))
    have r1 : rowsS l2 ++ [[D.v (.str c.path)], [D.v (.str (intT c.prio))]] = rowsS (l2 ++ [c.path, intT c.prio]) := by rw [rowsS_app]; rfl
    have r2 : (rowsS (l2 ++ [c.path, intT c.prio])).take (l2.length + 2) = rowsS (l2 ++ [c.path, intT c.prio]) := List.take_of_length_le (by rw [rowsS_len]; simp)
    repeat (first | refine wa ?_ | refine wb rfl ?_ | refine wc rfl rfl hM ?_ | refine wd rfl hM ?_ | ((first | refine we rfl fun K hK => ?_ | refine wf rfl rfl fun K hK => ?_ | refine wg rfl rfl fun K hK => ?_ | refine wh rfl fun K hK => ?_); (simp only [lo, ld, ↓aop, ↓aCall, hP, hG, Nat.reduceLT, ↓reduceIte, Nat.reduceEqDiff, Nat.reduceAdd, Nat.reduceMul, Nat.reduceLeDiff, reduceCtorEq, D.cs, D.plain, fillD, chop, List.replicate, choR, strs, tk_3, ze_3, sz_3, tk_9, ze_9, sz_9, tk_52, ze_52, sz_52, kn_52, tk_50, ze_50, sz_50, rowsS_len, r1, r2, hcn, hw1]; repeat (with_reducible refine And.intro ?_ ?_; focus (first | decide | omega | (simp only [ln]; omega)))); try ((first | refine hK _ _ ?_ | refine hK _ ?_); clear hK K; simp only [lp])) | ((first | refine wi ?_ | refine wj ?_ | refine wk ?_ | refine wl ?_ | refine wm ?_ | refine wn ?_); simp only [lt, ↓reduceIte, Nat.reduceEqDiff]) | refine wo ?_)
    refine ⟨x.choices.length - (i + 1), _, _, by omega, ?_, i + 1, ver + 1 + 1, l2 ++ ([c.path, intT c.prio] ++ c.slaves), rfl, by omega, by rw [hl2, choW, gx]; simp only [List.append_assoc], by omega, rfl, rfl⟩
    have e : (l2 ++ ([c.path, intT c.prio] ++ c.slaves)).length = l2.length + 2 + x.slaves.length := by simp [hcn]; omega
    refine Ent.rnd hE ?_ ?_ ?_ ?_
    · rw [e]
      simp only [le, ↓reduceIte, Nat.reduceEqDiff, and_true]; repeat' (first | exact trivial | exact D.le_refl _ | exact D.le_any _ | with_reducible refine And.intro ?_ ?_)
    · rw [← List.append_assoc, rowsS_app _ c.slaves, rowsS_v c.slaves]; rfl
    · rw [e]
      simp [ltAll, ltObs, Ob.lt, D.lt, D.ltL, or_imp, forall_and]
    · exact ⟨(altB_lt _ _).1, rowsS_lt _ _ _, trivial⟩
  simp at hb
  obtain rfl : i = x.choices.length := by omega
  have el : l2 ++ [[]] = linesA x := by rw [hl2, hl]; simp only [linesA, List.append_assoc]
  have hj : (Lib.join (linesA x) [10]).length ≤ 5000 * 1000008 := Nat.le_trans (join_short s1) (Nat.mul_le_mul_right _ s2)
  repeat (first | refine wa ?_ | refine wb rfl ?_ | refine wc rfl rfl hM ?_ | refine wd rfl hM ?_ | ((first | refine we rfl fun K hK => ?_ | refine wf rfl rfl fun K hK => ?_ | refine wg rfl rfl fun K hK => ?_ | refine wh rfl fun K hK => ?_); (simp only [lo, ld, ↓aop, ↓aCall, hP, hG, Nat.reduceLT, ↓reduceIte, Nat.reduceEqDiff, Nat.reduceAdd, Nat.reduceMul, Nat.reduceLeDiff, reduceCtorEq, D.cs, D.plain, fillD, chop, List.replicate, tk_3, ze_3, sz_3, tk_9, ze_9, sz_9, tk_50, ze_50, sz_50, rowsS_len, rowsS_take]; repeat (with_reducible refine And.intro ?_ ?_; focus (first | decide | omega | (simp only [ln]; omega)))); try ((first | refine hK _ _ ?_ | refine hK _ ?_); clear hK K; simp only [lp])) | ((first | refine wi ?_ | refine wj ?_ | refine wk ?_ | refine wl ?_ | refine wm ?_ | refine wn ?_); simp only [lt, ↓reduceIte, Nat.reduceEqDiff]) | refine wo ?_)
  refine ACalls.pub1 (E.H0.length + 1) ((linesA x).map fun s => [V.str s]) (ver := ver + 1) (esc := 0) (sz := 1) (len := l2.length + 1) ?_ (Nat.zero_le _) ?_ ?_
  · rw [hp_get, ← rowsS_v, ← el, rowsS_app]; rfl
  · rw [← el]; simp
  have et : ((linesA x).map fun s => [V.str s]).take (l2.length + 1) = (linesA x).map fun s => [V.str s] := List.take_of_length_le (by rw [← el]; simp)
  rw [et]
  refine spec_Join (linesA x) [10] (by omega) (by omega) _ _ (hK _ _ ?_)
  clear hK K; simp only [lp]
  rw [hp_set]
  change aops _ _ _ _ (E.H0 ++ [altB x, .arr (ver + 1) 1 _ _, .arr 1 1 [[.v (.str [])]] 0]) _
  repeat (first | refine wa ?_ | refine wb rfl ?_ | refine wc rfl rfl hM ?_ | refine wd rfl hM ?_ | ((first | refine we rfl fun K hK => ?_ | refine wf rfl rfl fun K hK => ?_ | refine wg rfl rfl fun K hK => ?_ | refine wh rfl fun K hK => ?_); (simp only [lo, ld, ↓aop, ↓aCall, hP, hG, Nat.reduceLT, ↓reduceIte, Nat.reduceEqDiff, Nat.reduceAdd, Nat.reduceMul, Nat.reduceLeDiff, reduceCtorEq, D.cs, D.plain, fillD, chop, List.replicate, tk_3, ze_3, sz_3, tk_9, ze_9, sz_9, tk_24, ze_24, sz_24]; repeat (with_reducible refine And.intro ?_ ?_; focus (first | decide | omega | (simp only [ln]; omega)))); try ((first | refine hK _ _ ?_ | refine hK _ ?_); clear hK K; simp only [lp])) | ((first | refine wi ?_ | refine wj ?_ | refine wk ?_ | refine wl ?_ | refine wm ?_ | refine wn ?_); simp only [lt, ↓reduceIte, Nat.reduceEqDiff]) | refine wo ?_)
  refine Fin.gc2 _ _ hE (by decide) (by decide) (by decide) rfl rfl trivial trivial ?_
  have : printA x = (Lib.join (linesA x) [10] ++ [10], 0) := by simp only [printA, hr, if_true, textA]
  rwa [this] at hK
end Go.Ag
namespace Go.Ag
open Go Go.Proofs
variable {G : Nat → Option (List V)}
attribute [local irreducible] aops qops Sat aop

/-! ### the least that is not there yet, again and again -/
def pick (l out : List Str) : Nat → Int
  | 0 => -1
  | i + 1 => if !out.any (· == l.getD i []) && (decide (pick l out i < 0) || Op.bytesLess (l.getD i []) (l.getD (pick l out i).toNat [])) then i else pick l out i
theorem pick_rng (l out : List Str) : ∀ i, pick l out i = -1 ∨ ∃ k : Nat, pick l out i = k ∧ k < i
  | 0 => .inl rfl
  | i + 1 => by
    unfold pick
    split
    · exact .inr ⟨i, rfl, by omega⟩
    · rcases pick_rng l out i with h | ⟨k, h1, h2⟩
      · exact .inl h
      · exact .inr ⟨k, h1, by omega⟩
def selS (l : List Str) : Nat → List Str
  | 0 => []
  | k + 1 => if 0 ≤ pick l (selS l k) l.length then selS l k ++ [l.getD (pick l (selS l k) l.length).toNat []] else selS l k
theorem selS_len (l : List Str) : ∀ k, (selS l k).length ≤ k
  | 0 => by simp [selS]
  | k + 1 => by
    have := selS_len l k
    unfold selS
    split
    · simp; omega
    · omega
theorem pick_in (l out : List Str) : ∀ i, (pick l out i = -1 → ∀ j, j < i → out.any (· == l.getD j []) = true) ∧ ∀ k : Nat, pick l out i = k → out.any (· == l.getD k []) = false
  | 0 => ⟨fun _ j hj => by omega, fun k h => by simp [pick] at h⟩
  | i + 1 => by
    obtain ⟨h1, h2⟩ := pick_in l out i
    unfold pick
    split
    · rename_i hc
      simp only [Bool.and_eq_true, Bool.not_eq_true'] at hc
      refine ⟨fun h => by omega, fun k h => ?_⟩
      obtain rfl : k = i := by omega
      exact hc.1
    · rename_i hc
      refine ⟨fun h j hj => ?_, h2⟩
      rcases Nat.lt_succ_iff_lt_or_eq.1 hj with hj | rfl
      · exact h1 h j hj
      · rw [h] at hc
        simpa using hc
theorem mem_any {l : List Str} {s : Str} : l.any (· == s) = true ↔ s ∈ l := by simp
theorem selS_nd (l : List Str) : ∀ k, (selS l k).Nodup ∧ (∀ s ∈ selS l k, s ∈ l) ∧ ((∀ s ∈ l, s ∈ selS l k) ∨ (selS l k).length = k)
  | 0 => by simp [selS]
  | k + 1 => by
    obtain ⟨h1, h2, h3⟩ := selS_nd l k
    obtain ⟨p1, p2⟩ := pick_in l (selS l k) l.length
    unfold selS
    rcases pick_rng l (selS l k) l.length with h | ⟨a, ha, hal⟩
    · rw [if_neg (by omega)]
      refine ⟨h1, h2, .inl fun s hs => ?_⟩
      obtain ⟨j, hj⟩ := List.mem_iff_getElem?.1 hs
      have := p1 h j (List.getElem?_eq_some_iff.1 hj).1
      rw [List.getD_eq_getElem?_getD, hj] at this
      exact mem_any.1 this
    · rw [if_pos (by omega), ha, Int.toNat_natCast]
      have hn := p2 a ha
      have hni : l.getD a [] ∉ selS l k := fun hm => by rw [mem_any.2 hm] at hn; cases hn
      have hin : l.getD a [] ∈ l := by
        rw [List.getD_eq_getElem?_getD, List.getElem?_eq_getElem hal]; exact List.getElem_mem _
      refine ⟨?_, fun s hs => ?_, ?_⟩
      · rw [List.nodup_append]
        exact ⟨h1, by simp, fun x hx y hy => by rw [List.mem_singleton] at hy; subst hy; exact fun e => hni (e ▸ hx)⟩
      · rcases List.mem_append.1 hs with hs | hs
        · exact h2 s hs
        · rw [List.mem_singleton] at hs; rw [hs]; exact hin
      · rcases h3 with h3 | h3
        · exact absurd (h3 _ hin) hni
        · right; simp [h3]
theorem nodup_le : ∀ {a b : List Str}, a.Nodup → (∀ s ∈ a, s ∈ b) → a.length ≤ b.length
  | [], _, _, _ => by simp
  | x :: a, b, h, hs => by
    rw [List.nodup_cons] at h
    have hx := hs x (by simp)
    have := nodup_le (a := a) (b := b.erase x) h.2 (fun s hs' => (List.mem_erase_of_ne (fun (e : s = x) => h.1 (by rw [← e]; exact hs'))).2 (hs s (by simp [hs'])))
    rw [List.length_erase_of_mem hx] at this
    have hp : 0 < b.length := List.length_pos_of_mem hx
    simp only [List.length_cons]; omega
theorem nodup_of_len : ∀ {a b : List Str}, a.Nodup → (∀ s ∈ a, s ∈ b) → a.length = b.length → b.Nodup
  | [], b, _, _, hl => by simp at hl; rw [List.eq_nil_of_length_eq_zero hl.symm]; simp
  | x :: a, b, h, hs, hl => by
    rw [List.nodup_cons] at h
    have hx := hs x (by simp)
    have hp : 0 < b.length := List.length_pos_of_mem hx
    have hs2 : ∀ s ∈ a, s ∈ b.erase x := fun s hs' => (List.mem_erase_of_ne (fun (e : s = x) => h.1 (by rw [← e]; exact hs'))).2 (hs s (by simp [hs']))
    have hle : (b.erase x).length = a.length := by rw [List.length_erase_of_mem hx]; simp at hl; omega
    have h2 := nodup_of_len h.2 hs2 hle.symm
    have hperm := List.perm_cons_erase hx
    rw [hperm.nodup_iff, List.nodup_cons]
    refine ⟨fun hm => ?_, h2⟩
    -- x would be in a list of a's length beside a
    have : (x :: a).length ≤ (b.erase x).length := nodup_le (List.nodup_cons.2 h) (fun s hs' => by
      rcases List.mem_cons.1 hs' with rfl | hs'
      · exact hm
      · exact hs2 s hs')
    simp only [List.length_cons] at this; omega
/-- What matters: it is as long as the list, if nothing is there twice. -/
theorem selS_iff (l : List Str) : (selS l l.length).length = l.length ↔ l.Nodup := by
  obtain ⟨h1, h2, h3⟩ := selS_nd l l.length
  refine ⟨fun h => nodup_of_len h1 h2 h, fun h => ?_⟩
  rcases h3 with h3 | h3
  · exact Nat.le_antisymm (nodup_le h1 h2) (nodup_le h h3)
  · exact h3

/-! ### the walk -/
def DOut (E : Env) (out : List Str) (d : D) (L : List Ob) : Prop :=
  (out = [] ∧ d = .nils ∧ L = []) ∨ ∃ ver, 1 ≤ ver ∧ out ≠ [] ∧ d = .own (E.H0.length + 1) ver out.length ∧ L = [.dead, .arr ver 1 (rowsS out) out.length]
theorem spec_HasD {E : Env} {out : List Str} {d : D} {L : List Ob} (h : DOut E out d L) (s : Str) (hl : out.length ≤ 1099511627776) (K : D → List Ob → Prop) (hK : K (.v (.bool (out.any (· == s)))) (E.H0 ++ L)) : ACalls Tryd.prog G 70 [d, .v (.str s)] (E.H0 ++ L) K := by
  rcases h with ⟨rfl, rfl, rfl⟩ | ⟨ver, hv, hne, rfl, rfl⟩
  · exact ACalls.ent (args' := [.v (strs []), .v (.str s)]) (fun E' => Ent.weak ⟨D.le_nils 1, D.le_refl _, trivial⟩) (spec_Has [] s hl _ _ hK)
  · have hb : (E.H0 ++ [Ob.dead, .arr ver 1 (rowsS out) out.length])[E.H0.length + 1]? = some (.arr ver 1 (rowsS out) out.length) := by rw [hp_get]; rfl
    refine ACalls.pub1 (E.H0.length + 1) (out.map fun s => [V.str s]) (ver := ver) (esc := out.length) (sz := 1) (len := out.length) (by rw [hb, rowsS_v]) (by simp) (by simp) ?_
    have e1 : (out.map fun s => [V.str s]).take out.length = out.map fun s => [V.str s] := List.take_of_length_le (by simp)
    have e2 : (out.map fun s => [V.str s]).length = out.length := by simp
    rw [e1, ← rowsS_v, e2, set_same hb]
    exact spec_Has out s hl _ _ hK

theorem pubD {E : Env} {ts : List D} {o : List Str} {ver esc : Nat} (h : esc ≤ o.length) : Ent E ts (E.H0 ++ [.dead, .arr ver 1 (rowsS o) esc]) ts (E.H0 ++ [.dead, .arr ver 1 (rowsS o) o.length]) := by
  have := Ent.pubK (E := E) (ts := ts) (H := E.H0 ++ [.dead, .arr ver 1 (rowsS o) esc]) (E.H0.length + 1) (by rw [hp_get]; rfl) (by rw [rowsS_len]; exact h)
  rw [hp_set, rowsS_len] at this
  exact this
set_option maxHeartbeats 16000000 in
theorem spec_rSorted (l : List Str) (hl : l.length ≤ 1099511627) (H : List Ob) (K : D → List Ob → Prop) (hK : K (.v (strs (selS l l.length))) H) : ACalls Tryd.prog G 54 [.v (strs l)] H K := by
  refine ACalls.go Tryd.f54 _ 52 [2] Tryd.func54 rfl Tryd.ntmps54 (by kernel_rfl) rfl (by simp) (fun E hE hP hG hH => ?_)
  have hM : E.P.follows .mixedOrders = true := hP ▸ mixed
  subst hH
  simp only [args0]
  repeat (first | refine wa ?_ | refine wb rfl ?_ | refine wc rfl rfl hM ?_ | refine wd rfl hM ?_ | ((first | refine we rfl fun K hK => ?_ | refine wf rfl rfl fun K hK => ?_ | refine wg rfl rfl fun K hK => ?_ | refine wh rfl fun K hK => ?_); (simp only [lo, ld, ↓aop, ↓aCall, hP, hG, Nat.reduceLT, ↓reduceIte, Nat.reduceEqDiff, Nat.reduceAdd, Nat.reduceMul, Nat.reduceLeDiff, reduceCtorEq, D.cs, D.plain, fillD, chop, List.replicate, strs, tk_3, ze_3, sz_3, tk_9, ze_9, sz_9, tk_50, ze_50, sz_50]; repeat (with_reducible refine And.intro ?_ ?_; focus (first | decide | omega | (simp only [ln]; omega)))); try ((first | refine hK _ _ ?_ | refine hK _ ?_); clear hK K; simp only [lp])) | ((first | refine wi ?_ | refine wj ?_ | refine wk ?_ | refine wl ?_ | refine wm ?_ | refine wn ?_); simp only [lt, ↓reduceIte, Nat.reduceEqDiff]) | refine wo ?_)
  refine sat_loop_ent (fun n ts H => ∃ (k : Nat) (d : D) (L : List Ob), n = l.length - k ∧ k ≤ l.length ∧ DOut E (selS l k) d L ∧
    ts = fr 52 [(4, .v (.int .i64 k)), (3, d), (0, .v (strs l))] ∧ H = E.H0 ++ L) (l.length) (.weakFr ?_) ⟨0, .nils, [], rfl, Nat.zero_le _, .inl ⟨rfl, rfl, rfl⟩, rfl, (List.append_nil _).symm⟩ ?_
  · simp only [le, ↓reduceIte, Nat.reduceEqDiff, and_true]; repeat' (first | exact trivial | exact D.le_refl _ | exact D.le_any _ | with_reducible refine And.intro ?_ ?_)
  rintro n ts H ⟨k, d, L, rfl, hk, hD, rfl, rfl⟩
  have hsl := selS_len l k
  repeat (first | refine wa ?_ | refine wb rfl ?_ | refine wc rfl rfl hM ?_ | refine wd rfl hM ?_ | ((first | refine we rfl fun K hK => ?_ | refine wf rfl rfl fun K hK => ?_ | refine wg rfl rfl fun K hK => ?_ | refine wh rfl fun K hK => ?_); (simp only [lo, ld, ↓aop, ↓aCall, hP, hG, Nat.reduceLT, ↓reduceIte, Nat.reduceEqDiff, Nat.reduceAdd, Nat.reduceMul, Nat.reduceLeDiff, reduceCtorEq, D.cs, D.plain, fillD, chop, List.replicate, strs, tk_3, ze_3, sz_3, tk_9, ze_9, sz_9, tk_50, ze_50, sz_50]; repeat (with_reducible refine And.intro ?_ ?_; focus (first | decide | omega | (simp only [ln]; omega)))); try ((first | refine hK _ _ ?_ | refine hK _ ?_); clear hK K; simp only [lp])) | ((first | refine wi ?_ | refine wj ?_ | refine wk ?_ | refine wl ?_ | refine wm ?_ | refine wn ?_); simp only [lt, ↓reduceIte, Nat.reduceEqDiff]) | refine wo ?_)
  refine sat_cond rfl (fun hc => ?_) (fun hc => ?_)
  · simp at hc
    have hwk := wrap_succ (i := k) (by omega)
    repeat (first | refine wa ?_ | refine wb rfl ?_ | refine wc rfl rfl hM ?_ | refine wd rfl hM ?_ | ((first | refine we rfl fun K hK => ?_ | refine wf rfl rfl fun K hK => ?_ | refine wg rfl rfl fun K hK => ?_ | refine wh rfl fun K hK => ?_); (simp only [lo, ld, ↓aop, ↓aCall, hP, hG, Nat.reduceLT, ↓reduceIte, Nat.reduceEqDiff, Nat.reduceAdd, Nat.reduceMul, Nat.reduceLeDiff, reduceCtorEq, D.cs, D.plain, fillD, chop, List.replicate, strs, tk_3, ze_3, sz_3, tk_9, ze_9, sz_9, tk_50, ze_50, sz_50]; repeat (with_reducible refine And.intro ?_ ?_; focus (first | decide | omega | (simp only [ln]; omega)))); try ((first | refine hK _ _ ?_ | refine hK _ ?_); clear hK K; simp only [lp])) | ((first | refine wi ?_ | refine wj ?_ | refine wk ?_ | refine wl ?_ | refine wm ?_ | refine wn ?_); simp only [lt, ↓reduceIte, Nat.reduceEqDiff]) | refine wo ?_)
    refine sat_loop_ent (fun n ts H => ∃ (i : Nat), n = l.length - i ∧ i ≤ l.length ∧
      ts = fr 52 [(6, .v (.int .i64 i)), (5, .v (.int .i64 (pick l (selS l k) i))), (4, .v (.int .i64 k)), (3, d), (0, .v (strs l))] ∧ H = E.H0 ++ L) (l.length) (.weakFr ?_) ⟨0, rfl, Nat.zero_le _, rfl, rfl⟩ ?_
    · simp only [le, ↓reduceIte, Nat.reduceEqDiff, and_true]; repeat' (first | exact trivial | exact D.le_refl _ | exact D.le_any _ | with_reducible refine And.intro ?_ ?_)
    rintro n ts H ⟨i, rfl, hi, rfl, rfl⟩
    repeat (first | refine wa ?_ | refine wb rfl ?_ | refine wc rfl rfl hM ?_ | refine wd rfl hM ?_ | ((first | refine we rfl fun K hK => ?_ | refine wf rfl rfl fun K hK => ?_ | refine wg rfl rfl fun K hK => ?_ | refine wh rfl fun K hK => ?_); (simp only [lo, ld, ↓aop, ↓aCall, hP, hG, Nat.reduceLT, ↓reduceIte, Nat.reduceEqDiff, Nat.reduceAdd, Nat.reduceMul, Nat.reduceLeDiff, reduceCtorEq, D.cs, D.plain, fillD, chop, List.replicate, strs, tk_3, ze_3, sz_3, tk_9, ze_9, sz_9, tk_50, ze_50, sz_50]; repeat (with_reducible refine And.intro ?_ ?_; focus (first | decide | omega | (simp only [ln]; omega)))); try ((first | refine hK _ _ ?_ | refine hK _ ?_); clear hK K; simp only [lp])) | ((first | refine wi ?_ | refine wj ?_ | refine wk ?_ | refine wl ?_ | refine wm ?_ | refine wn ?_); simp only [lt, ↓reduceIte, Nat.reduceEqDiff]) | refine wo ?_)
    refine sat_cond rfl (fun hd => ?_) (fun hd => ?_)
    · simp at hd
      obtain ⟨x, hx⟩ : ∃ x, l[i]? = some x := ⟨_, List.getElem?_eq_getElem hd⟩
      have hw := wrap_succ (i := i) (by omega)
      have gx : l.getD i [] = x := by simp [List.getD_eq_getElem?_getD, hx]
      repeat (first | refine wa ?_ | refine wb rfl ?_ | refine wc rfl rfl hM ?_ | refine wd rfl hM ?_ | ((first | refine we rfl fun K hK => ?_ | refine wf rfl rfl fun K hK => ?_ | refine wg rfl rfl fun K hK => ?_ | refine wh rfl fun K hK => ?_); (simp only [lo, ld, ↓aop, ↓aCall, hP, hG, Nat.reduceLT, ↓reduceIte, Nat.reduceEqDiff, Nat.reduceAdd, Nat.reduceMul, Nat.reduceLeDiff, reduceCtorEq, D.cs, D.plain, fillD, chop, List.replicate]; repeat (with_reducible refine And.intro ?_ ?_; focus (first | decide | omega | (simp only [ln]; omega)))); try ((first | refine hK _ _ ?_ | refine hK _ ?_); clear hK K; simp only [lp])) | ((first | refine wi ?_ | refine wj ?_ | refine wk ?_ | refine wl ?_ | refine wm ?_ | refine wn ?_); simp only [lt, ↓reduceIte, Nat.reduceEqDiff]) | refine wo ?_)
      refine sat_thru (fr 52 [(40, .v (.bool (!(selS l k).any (· == x) && (decide (pick l (selS l k) i < 0) || Op.bytesLess x (l.getD (pick l (selS l k) i).toNat []))))), (6, .v (.int .i64 i)), (5, .v (.int .i64 (pick l (selS l k) i))), (4, .v (.int .i64 k)), (3, d), (0, .v (strs l))]) (E.H0 ++ L) ?_ ?_
      · rcases pick_rng l (selS l k) i with h1 | ⟨a, h1, h2⟩
        · rw [h1]
          (first | refine wr ?_ | refine wp rfl hM ?_ | refine wq hM ?_); repeat' (first | ((first | refine wx ?_ | refine wy ?_ | refine wz ?_); (simp only [lo, ld, ↓aop, ↓aCall, hP, hG, Nat.reduceLT, ↓reduceIte, Nat.reduceEqDiff, Nat.reduceAdd, Nat.reduceMul, Nat.reduceLeDiff, reduceCtorEq, D.cs, D.plain, fillD, chop, List.replicate, strs, tk_3, ze_3, sz_3, tk_4, ze_4, sz_4, tk_9, ze_9, sz_9, tk_50, ze_50, sz_50, neg1, hd, hx]; repeat (with_reducible refine And.intro ?_ ?_; focus (first | decide | omega | (simp only [ln]; omega)))); try ((first | refine hK _ _ ?_ | refine hK _ ?_); clear hK K; simp only [lp])) | refine we rfl fun K hK => ?_ | refine wf rfl rfl fun K hK => ?_ | refine wg rfl rfl fun K hK => ?_ | refine wh rfl fun K hK => ?_ | ((first | refine Xg rfl rfl (by decide) ?_ fun K hK => ?_ | refine Yg rfl rfl (by decide) ?_ fun K hK => ?_ | refine Zg rfl rfl rfl (by decide) ?_ fun K hK => ?_); (focus (simp only [look_cons, ↓reduceIte, Nat.reduceEqDiff, Bool.not_true, Bool.not_false]; done))) | ((first | refine Xn rfl rfl (by decide) ?_ ?_ | refine Yn rfl rfl (by decide) ?_ ?_ | refine Zn rfl rfl rfl (by decide) ?_ ?_); (focus (simp only [look_cons, ↓reduceIte, Nat.reduceEqDiff, Bool.not_true, Bool.not_false]; done)); simp only [lp]) | ((first | refine Xo rfl rfl (by decide) ?_ ?_ | refine Yo rfl rfl (by decide) ?_ ?_ | refine Zo rfl rfl rfl (by decide) ?_ ?_); (focus (simp only [look_cons, ↓reduceIte, Nat.reduceEqDiff, Bool.not_true, Bool.not_false]; done)); simp only [lp]) | ((first | refine Xs rfl rfl (by decide) rfl (fun h K hK => ?_) fun h => ?_ | refine Ys rfl rfl (by decide) rfl (fun h K hK => ?_) fun h => ?_ | refine Zs rfl rfl rfl (by decide) rfl (fun h K hK => ?_) fun h => ?_); rotate_left; (focus (simp only [Bool.not_true, Bool.not_false, lp])); rotate_left) | ((first | refine wi ?_ | refine wj ?_ | refine wk ?_); simp only [lt, ↓reduceIte, Nat.reduceEqDiff]))
          refine ⟨_, spec_HasD hD x (by omega) _ ⟨rfl, rfl⟩, hK _ ?_⟩
          clear hK K; simp only [lp]
          repeat' (first | ((first | refine wx ?_ | refine wy ?_ | refine wz ?_); (simp only [lo, ld, ↓aop, ↓aCall, hP, hG, Nat.reduceLT, ↓reduceIte, Nat.reduceEqDiff, Nat.reduceAdd, Nat.reduceMul, Nat.reduceLeDiff, reduceCtorEq, D.cs, D.plain, fillD, chop, List.replicate, strs, tk_3, ze_3, sz_3, tk_4, ze_4, sz_4, tk_9, ze_9, sz_9, tk_50, ze_50, sz_50, neg1, hd, hx]; repeat (with_reducible refine And.intro ?_ ?_; focus (first | decide | omega | (simp only [ln]; omega)))); try ((first | refine hK _ _ ?_ | refine hK _ ?_); clear hK K; simp only [lp])) | refine we rfl fun K hK => ?_ | refine wf rfl rfl fun K hK => ?_ | refine wg rfl rfl fun K hK => ?_ | refine wh rfl fun K hK => ?_ | ((first | refine Xg rfl rfl (by decide) ?_ fun K hK => ?_ | refine Yg rfl rfl (by decide) ?_ fun K hK => ?_ | refine Zg rfl rfl rfl (by decide) ?_ fun K hK => ?_); (focus (simp only [look_cons, ↓reduceIte, Nat.reduceEqDiff, Bool.not_true, Bool.not_false]; done))) | ((first | refine Xn rfl rfl (by decide) ?_ ?_ | refine Yn rfl rfl (by decide) ?_ ?_ | refine Zn rfl rfl rfl (by decide) ?_ ?_); (focus (simp only [look_cons, ↓reduceIte, Nat.reduceEqDiff, Bool.not_true, Bool.not_false]; done)); simp only [lp]) | ((first | refine Xo rfl rfl (by decide) ?_ ?_ | refine Yo rfl rfl (by decide) ?_ ?_ | refine Zo rfl rfl rfl (by decide) ?_ ?_); (focus (simp only [look_cons, ↓reduceIte, Nat.reduceEqDiff, Bool.not_true, Bool.not_false]; done)); simp only [lp]) | ((first | refine Xs rfl rfl (by decide) rfl (fun h K hK => ?_) fun h => ?_ | refine Ys rfl rfl (by decide) rfl (fun h K hK => ?_) fun h => ?_ | refine Zs rfl rfl rfl (by decide) rfl (fun h K hK => ?_) fun h => ?_); rotate_left; (focus (simp only [Bool.not_true, Bool.not_false, lp])); rotate_left) | ((first | refine wi ?_ | refine wj ?_ | refine wk ?_); simp only [lt, ↓reduceIte, Nat.reduceEqDiff]))
          all_goals refine .weakFr ?_
          all_goals simp only [le, ↓reduceIte, Nat.reduceEqDiff, and_true]; repeat' (first | exact trivial | exact D.le_refl _ | exact D.le_any _ | with_reducible refine And.intro ?_ ?_)
          all_goals refine D.le_eq (congrArg D.v (congrArg V.bool ?_)); (try simp only [Bool.not_eq_eq_eq_not, Bool.not_true, Bool.not_false] at *); simp only [*, List.getD_eq_getElem?_getD, Bool.and_true, Bool.true_and, Bool.and_false, Bool.false_and, Bool.or_true, Bool.true_or, Bool.or_false, Bool.false_or, Bool.not_true, Bool.not_false, Bool.not_not, neg1]
        · obtain ⟨y, hy⟩ : ∃ y, l[a]? = some y := ⟨_, List.getElem?_eq_getElem (by omega)⟩
          have gy : l.getD a [] = y := by simp [List.getD_eq_getElem?_getD, hy]
          have hal : a < l.length := by omega
          rw [h1, Int.toNat_natCast, gy, natneg, Bool.false_or]
          (first | refine wr ?_ | refine wp rfl hM ?_ | refine wq hM ?_); repeat' (first | ((first | refine wx ?_ | refine wy ?_ | refine wz ?_); (simp only [lo, ld, ↓aop, ↓aCall, hP, hG, Nat.reduceLT, ↓reduceIte, Nat.reduceEqDiff, Nat.reduceAdd, Nat.reduceMul, Nat.reduceLeDiff, reduceCtorEq, D.cs, D.plain, fillD, chop, List.replicate, strs, tk_3, ze_3, sz_3, tk_4, ze_4, sz_4, tk_9, ze_9, sz_9, tk_50, ze_50, sz_50, natneg, hd, hx, hal, hy]; repeat (with_reducible refine And.intro ?_ ?_; focus (first | decide | omega | (simp only [ln]; omega)))); try ((first | refine hK _ _ ?_ | refine hK _ ?_); clear hK K; simp only [lp])) | refine we rfl fun K hK => ?_ | refine wf rfl rfl fun K hK => ?_ | refine wg rfl rfl fun K hK => ?_ | refine wh rfl fun K hK => ?_ | ((first | refine Xg rfl rfl (by decide) ?_ fun K hK => ?_ | refine Yg rfl rfl (by decide) ?_ fun K hK => ?_ | refine Zg rfl rfl rfl (by decide) ?_ fun K hK => ?_); (focus (simp only [look_cons, ↓reduceIte, Nat.reduceEqDiff, Bool.not_true, Bool.not_false]; done))) | ((first | refine Xn rfl rfl (by decide) ?_ ?_ | refine Yn rfl rfl (by decide) ?_ ?_ | refine Zn rfl rfl rfl (by decide) ?_ ?_); (focus (simp only [look_cons, ↓reduceIte, Nat.reduceEqDiff, Bool.not_true, Bool.not_false]; done)); simp only [lp]) | ((first | refine Xo rfl rfl (by decide) ?_ ?_ | refine Yo rfl rfl (by decide) ?_ ?_ | refine Zo rfl rfl rfl (by decide) ?_ ?_); (focus (simp only [look_cons, ↓reduceIte, Nat.reduceEqDiff, Bool.not_true, Bool.not_false]; done)); simp only [lp]) | ((first | refine Xs rfl rfl (by decide) rfl (fun h K hK => ?_) fun h => ?_ | refine Ys rfl rfl (by decide) rfl (fun h K hK => ?_) fun h => ?_ | refine Zs rfl rfl rfl (by decide) rfl (fun h K hK => ?_) fun h => ?_); rotate_left; (focus (simp only [Bool.not_true, Bool.not_false, lp])); rotate_left) | ((first | refine wi ?_ | refine wj ?_ | refine wk ?_); simp only [lt, ↓reduceIte, Nat.reduceEqDiff]))
          refine ⟨_, spec_HasD hD x (by omega) _ ⟨rfl, rfl⟩, hK _ ?_⟩
          clear hK K; simp only [lp]
          repeat' (first | ((first | refine wx ?_ | refine wy ?_ | refine wz ?_); (simp only [lo, ld, ↓aop, ↓aCall, hP, hG, Nat.reduceLT, ↓reduceIte, Nat.reduceEqDiff, Nat.reduceAdd, Nat.reduceMul, Nat.reduceLeDiff, reduceCtorEq, D.cs, D.plain, fillD, chop, List.replicate, strs, tk_3, ze_3, sz_3, tk_4, ze_4, sz_4, tk_9, ze_9, sz_9, tk_50, ze_50, sz_50, natneg, hd, hx, hal, hy]; repeat (with_reducible refine And.intro ?_ ?_; focus (first | decide | omega | (simp only [ln]; omega)))); try ((first | refine hK _ _ ?_ | refine hK _ ?_); clear hK K; simp only [lp])) | refine we rfl fun K hK => ?_ | refine wf rfl rfl fun K hK => ?_ | refine wg rfl rfl fun K hK => ?_ | refine wh rfl fun K hK => ?_ | ((first | refine Xg rfl rfl (by decide) ?_ fun K hK => ?_ | refine Yg rfl rfl (by decide) ?_ fun K hK => ?_ | refine Zg rfl rfl rfl (by decide) ?_ fun K hK => ?_); (focus (simp only [look_cons, ↓reduceIte, Nat.reduceEqDiff, Bool.not_true, Bool.not_false]; done))) | ((first | refine Xn rfl rfl (by decide) ?_ ?_ | refine Yn rfl rfl (by decide) ?_ ?_ | refine Zn rfl rfl rfl (by decide) ?_ ?_); (focus (simp only [look_cons, ↓reduceIte, Nat.reduceEqDiff, Bool.not_true, Bool.not_false]; done)); simp only [lp]) | ((first | refine Xo rfl rfl (by decide) ?_ ?_ | refine Yo rfl rfl (by decide) ?_ ?_ | refine Zo rfl rfl rfl (by decide) ?_ ?_); (focus (simp only [look_cons, ↓reduceIte, Nat.reduceEqDiff, Bool.not_true, Bool.not_false]; done)); simp only [lp]) | ((first | refine Xs rfl rfl (by decide) rfl (fun h K hK => ?_) fun h => ?_ | refine Ys rfl rfl (by decide) rfl (fun h K hK => ?_) fun h => ?_ | refine Zs rfl rfl rfl (by decide) rfl (fun h K hK => ?_) fun h => ?_); rotate_left; (focus (simp only [Bool.not_true, Bool.not_false, lp])); rotate_left) | ((first | refine wi ?_ | refine wj ?_ | refine wk ?_); simp only [lt, ↓reduceIte, Nat.reduceEqDiff]))
          all_goals refine .weakFr ?_
          all_goals simp only [le, ↓reduceIte, Nat.reduceEqDiff, and_true]; repeat' (first | exact trivial | exact D.le_refl _ | exact D.le_any _ | with_reducible refine And.intro ?_ ?_)
          all_goals refine D.le_eq (congrArg D.v (congrArg V.bool ?_)); (try simp only [Bool.not_eq_eq_eq_not, Bool.not_true, Bool.not_false] at *); simp only [*, List.getD_eq_getElem?_getD, Bool.and_true, Bool.true_and, Bool.and_false, Bool.false_and, Bool.or_true, Bool.true_or, Bool.or_false, Bool.false_or, Bool.not_true, Bool.not_false, Bool.not_not]
      refine sat_cond rfl (fun hb => ?_) (fun hb => ?_)
      · have e : pick l (selS l k) (i + 1) = i := by rw [pick, gx, hb, if_pos rfl]
        repeat (first | refine wa ?_ | refine wb rfl ?_ | refine wc rfl rfl hM ?_ | refine wd rfl hM ?_ | ((first | refine we rfl fun K hK => ?_ | refine wf rfl rfl fun K hK => ?_ | refine wg rfl rfl fun K hK => ?_ | refine wh rfl fun K hK => ?_); (simp only [lo, ld, ↓aop, ↓aCall, hP, hG, Nat.reduceLT, ↓reduceIte, Nat.reduceEqDiff, Nat.reduceAdd, Nat.reduceMul, Nat.reduceLeDiff, reduceCtorEq, D.cs, D.plain, fillD, chop, List.replicate, hw]; repeat (with_reducible refine And.intro ?_ ?_; focus (first | decide | omega | (simp only [ln]; omega)))); try ((first | refine hK _ _ ?_ | refine hK _ ?_); clear hK K; simp only [lp])) | ((first | refine wi ?_ | refine wj ?_ | refine wk ?_ | refine wl ?_ | refine wm ?_ | refine wn ?_); simp only [lt, ↓reduceIte, Nat.reduceEqDiff]) | refine wo ?_)
        refine ⟨l.length - (i + 1), _, _, by omega, .weakFr ?_, i + 1, rfl, by omega, rfl, rfl⟩
        rw [e]
        simp only [le, ↓reduceIte, Nat.reduceEqDiff, and_true]; repeat' (first | exact trivial | exact D.le_refl _ | exact D.le_any _ | with_reducible refine And.intro ?_ ?_)
      · have e : pick l (selS l k) (i + 1) = pick l (selS l k) i := by rw [pick, gx, hb, if_neg (by decide)]
        repeat (first | refine wa ?_ | refine wb rfl ?_ | refine wc rfl rfl hM ?_ | refine wd rfl hM ?_ | ((first | refine we rfl fun K hK => ?_ | refine wf rfl rfl fun K hK => ?_ | refine wg rfl rfl fun K hK => ?_ | refine wh rfl fun K hK => ?_); (simp only [lo, ld, ↓aop, ↓aCall, hP, hG, Nat.reduceLT, ↓reduceIte, Nat.reduceEqDiff, Nat.reduceAdd, Nat.reduceMul, Nat.reduceLeDiff, reduceCtorEq, D.cs, D.plain, fillD, chop, List.replicate, hw]; repeat (with_reducible refine And.intro ?_ ?_; focus (first | decide | omega | (simp only [ln]; omega)))); try ((first | refine hK _ _ ?_ | refine hK _ ?_); clear hK K; simp only [lp])) | ((first | refine wi ?_ | refine wj ?_ | refine wk ?_ | refine wl ?_ | refine wm ?_ | refine wn ?_); simp only [lt, ↓reduceIte, Nat.reduceEqDiff]) | refine wo ?_)
        refine ⟨l.length - (i + 1), _, _, by omega, .weakFr ?_, i + 1, rfl, by omega, rfl, rfl⟩
        rw [e]
        simp only [le, ↓reduceIte, Nat.reduceEqDiff, and_true]; repeat' (first | exact trivial | exact D.le_refl _ | exact D.le_any _ | with_reducible refine And.intro ?_ ?_)
    simp at hd
    obtain rfl : i = l.length := by omega
    repeat (first | refine wa ?_ | refine wb rfl ?_ | refine wc rfl rfl hM ?_ | refine wd rfl hM ?_ | ((first | refine we rfl fun K hK => ?_ | refine wf rfl rfl fun K hK => ?_ | refine wg rfl rfl fun K hK => ?_ | refine wh rfl fun K hK => ?_); (simp only [lo, ld, ↓aop, ↓aCall, hP, hG, Nat.reduceLT, ↓reduceIte, Nat.reduceEqDiff, Nat.reduceAdd, Nat.reduceMul, Nat.reduceLeDiff, reduceCtorEq, D.cs, D.plain, fillD, chop, List.replicate, tk_3, ze_3, sz_3]; repeat (with_reducible refine And.intro ?_ ?_; focus (first | decide | omega | (simp only [ln]; omega)))); try ((first | refine hK _ _ ?_ | refine hK _ ?_); clear hK K; simp only [lp])) | ((first | refine wi ?_ | refine wj ?_ | refine wk ?_ | refine wl ?_ | refine wm ?_ | refine wn ?_); simp only [lt, ↓reduceIte, Nat.reduceEqDiff]) | refine wo ?_)
    refine sat_cond rfl (fun hb => ?_) (fun hb => ?_)
    · have hb' : 0 ≤ pick l (selS l k) l.length := by simpa using hb
      obtain ⟨a, ha, hal⟩ : ∃ a : Nat, pick l (selS l k) l.length = a ∧ a < l.length := by
        rcases pick_rng l (selS l k) l.length with h | h
        · omega
        · exact h
      obtain ⟨y, hy⟩ : ∃ y, l[a]? = some y := ⟨_, List.getElem?_eq_getElem hal⟩
      have e : selS l (k + 1) = selS l k ++ [y] := by
        rw [selS, if_pos hb', ha, Int.toNat_natCast, List.getD_eq_getElem?_getD, hy]; rfl
      rw [ha]
      rcases hD with ⟨h0, rfl, rfl⟩ | ⟨ver, hv, hne, rfl, rfl⟩
      · repeat (first | refine wa ?_ | refine wb rfl ?_ | refine wc rfl rfl hM ?_ | refine wd rfl hM ?_ | ((first | refine we rfl fun K hK => ?_ | refine wf rfl rfl fun K hK => ?_ | refine wg rfl rfl fun K hK => ?_ | refine wh rfl fun K hK => ?_); (simp only [lo, ld, ↓aop, ↓aCall, hP, hG, Nat.reduceLT, ↓reduceIte, Nat.reduceEqDiff, Nat.reduceAdd, Nat.reduceMul, Nat.reduceLeDiff, reduceCtorEq, D.cs, D.plain, fillD, chop, List.replicate, strs, tk_3, ze_3, sz_3, tk_9, ze_9, sz_9, tk_50, ze_50, sz_50, hal, hy, hwk]; repeat (with_reducible refine And.intro ?_ ?_; focus (first | decide | omega | (simp only [ln]; omega)))); try ((first | refine hK _ _ ?_ | refine hK _ ?_); clear hK K; simp only [lp])) | ((first | refine wi ?_ | refine wj ?_ | refine wk ?_ | refine wl ?_ | refine wm ?_ | refine wn ?_); simp only [lt, ↓reduceIte, Nat.reduceEqDiff]) | refine wo ?_)
        refine ⟨l.length - (k + 1), _, _, by omega, ?_, k + 1, .own (E.H0.length + 1) 1 1, [.dead, .arr 1 1 (rowsS [y]) 1], rfl, by omega, .inr ⟨1, Nat.le_refl _, ?_, ?_, ?_⟩, rfl, rfl⟩
        · refine Ent.trans (Ent.trip hE ?_ ?_ ?_ ?_) (pubD (o := [y]) (Nat.zero_le _))
          · simp only [le, ↓reduceIte, Nat.reduceEqDiff, and_true]; repeat' (first | exact trivial | exact D.le_refl _ | exact D.le_any _ | with_reducible refine And.intro ?_ ?_)
          · simp [leObs_cons, leObs_nil, rowsS]
          · simp [ltAll, ltObs, Ob.lt, D.lt, D.ltL, or_imp, forall_and]
          · exact ⟨trivial, rowsS_lt _ _ _, trivial⟩
        · rw [e]; simp
        · rw [e, h0]; rfl
        · rw [e, h0]; rfl
      · repeat (first | refine wa ?_ | refine wb rfl ?_ | refine wc rfl rfl hM ?_ | refine wd rfl hM ?_ | ((first | refine we rfl fun K hK => ?_ | refine wf rfl rfl fun K hK => ?_ | refine wg rfl rfl fun K hK => ?_ | refine wh rfl fun K hK => ?_); (simp only [lo, ld, ↓aop, ↓aCall, hP, hG, Nat.reduceLT, ↓reduceIte, Nat.reduceEqDiff, Nat.reduceAdd, Nat.reduceMul, Nat.reduceLeDiff, reduceCtorEq, D.cs, D.plain, fillD, chop, List.replicate, strs, tk_3, ze_3, sz_3, tk_9, ze_9, sz_9, tk_50, ze_50, sz_50, hal, hy, hwk, rowsS_len, rowsS_take]; repeat (with_reducible refine And.intro ?_ ?_; focus (first | decide | omega | (simp only [ln]; omega)))); try ((first | refine hK _ _ ?_ | refine hK _ ?_); clear hK K; simp only [lp])) | ((first | refine wi ?_ | refine wj ?_ | refine wk ?_ | refine wl ?_ | refine wm ?_ | refine wn ?_); simp only [lt, ↓reduceIte, Nat.reduceEqDiff]) | refine wo ?_)
        refine ⟨l.length - (k + 1), _, _, by omega, ?_, k + 1, .own (E.H0.length + 1) (ver + 1) ((selS l k).length + 1), [.dead, .arr (ver + 1) 1 (rowsS (selS l k ++ [y])) (selS l k ++ [y]).length], rfl, by omega, .inr ⟨ver + 1, by omega, ?_, ?_, ?_⟩, rfl, rfl⟩
        · refine Ent.trans (Ent.rnd (L' := [.dead, .arr (ver + 1) 1 (rowsS (selS l k ++ [y])) (selS l k).length]) hE ?_ ?_ ?_ ?_) (pubD (by simp))
          · simp only [le, ↓reduceIte, Nat.reduceEqDiff, and_true]; repeat' (first | exact trivial | exact D.le_refl _ | exact D.le_any _ | with_reducible refine And.intro ?_ ?_)
          · rw [rowsS_app]; rfl
          · simp [ltAll, ltObs, Ob.lt, D.lt, D.ltL, or_imp, forall_and]
          · refine ⟨trivial, ?_, trivial⟩
            rw [rowsS_v]; exact ltRows _ _
        · rw [e]; simp
        · rw [e]; simp
        · rw [e]
    · have hb' : ¬ 0 ≤ pick l (selS l k) l.length := by simpa using hb
      have e : selS l (k + 1) = selS l k := by rw [selS, if_neg hb']
      repeat (first | refine wa ?_ | refine wb rfl ?_ | refine wc rfl rfl hM ?_ | refine wd rfl hM ?_ | ((first | refine we rfl fun K hK => ?_ | refine wf rfl rfl fun K hK => ?_ | refine wg rfl rfl fun K hK => ?_ | refine wh rfl fun K hK => ?_); (simp only [lo, ld, ↓aop, ↓aCall, hP, hG, Nat.reduceLT, ↓reduceIte, Nat.reduceEqDiff, Nat.reduceAdd, Nat.reduceMul, Nat.reduceLeDiff, reduceCtorEq, D.cs, D.plain, fillD, chop, List.replicate, hwk]; repeat (with_reducible refine And.intro ?_ ?_; focus (first | decide | omega | (simp only [ln]; omega)))); try ((first | refine hK _ _ ?_ | refine hK _ ?_); clear hK K; simp only [lp])) | ((first | refine wi ?_ | refine wj ?_ | refine wk ?_ | refine wl ?_ | refine wm ?_ | refine wn ?_); simp only [lt, ↓reduceIte, Nat.reduceEqDiff]) | refine wo ?_)
      refine ⟨l.length - (k + 1), _, _, by omega, .weakFr ?_, k + 1, d, L, rfl, by omega, by rw [e]; exact hD, rfl, rfl⟩
      simp only [le, ↓reduceIte, Nat.reduceEqDiff, and_true]; repeat' (first | exact trivial | exact D.le_refl _ | exact D.le_any _ | with_reducible refine And.intro ?_ ?_)
  simp at hc
  obtain rfl : k = l.length := by omega
  rcases hD with ⟨h0, rfl, rfl⟩ | ⟨ver, hv, hne, rfl, rfl⟩
  · repeat (first | refine wa ?_ | refine wb rfl ?_ | refine wc rfl rfl hM ?_ | refine wd rfl hM ?_ | ((first | refine we rfl fun K hK => ?_ | refine wf rfl rfl fun K hK => ?_ | refine wg rfl rfl fun K hK => ?_ | refine wh rfl fun K hK => ?_); (simp only [lo, ld, ↓aop, ↓aCall, hP, hG, Nat.reduceLT, ↓reduceIte, Nat.reduceEqDiff, Nat.reduceAdd, Nat.reduceMul, Nat.reduceLeDiff, reduceCtorEq, D.cs, D.plain, fillD, chop, List.replicate]; repeat (with_reducible refine And.intro ?_ ?_; focus (first | decide | omega | (simp only [ln]; omega)))); try ((first | refine hK _ _ ?_ | refine hK _ ?_); clear hK K; simp only [lp])) | ((first | refine wi ?_ | refine wj ?_ | refine wk ?_ | refine wl ?_ | refine wm ?_ | refine wn ?_); simp only [lt, ↓reduceIte, Nat.reduceEqDiff]) | refine wo ?_)
    refine Fin.ent (Ent.weakFr (l' := [(2, .v (strs []))]) ⟨D.le_nils 1, trivial⟩) (Fin.is _ (by decide) rfl ?_)
    rwa [h0] at hK
  · repeat (first | refine wa ?_ | refine wb rfl ?_ | refine wc rfl rfl hM ?_ | refine wd rfl hM ?_ | ((first | refine we rfl fun K hK => ?_ | refine wf rfl rfl fun K hK => ?_ | refine wg rfl rfl fun K hK => ?_ | refine wh rfl fun K hK => ?_); (simp only [lo, ld, ↓aop, ↓aCall, hP, hG, Nat.reduceLT, ↓reduceIte, Nat.reduceEqDiff, Nat.reduceAdd, Nat.reduceMul, Nat.reduceLeDiff, reduceCtorEq, D.cs, D.plain, fillD, chop, List.replicate]; repeat (with_reducible refine And.intro ?_ ?_; focus (first | decide | omega | (simp only [ln]; omega)))); try ((first | refine hK _ _ ?_ | refine hK _ ?_); clear hK K; simp only [lp])) | ((first | refine wi ?_ | refine wj ?_ | refine wk ?_ | refine wl ?_ | refine wm ?_ | refine wn ?_); simp only [lt, ↓reduceIte, Nat.reduceEqDiff]) | refine wo ?_)
    refine Fin.pub 1 ver 1 (selS l l.length).length (selS l l.length).length ((selS l l.length).map fun s => [.str s]) hE (by decide) rfl ?_ (by simp) (by simp) ?_
    · rw [← rowsS_v]; rfl
    · rw [take_len_map]; exact hK
end Go.Ag
