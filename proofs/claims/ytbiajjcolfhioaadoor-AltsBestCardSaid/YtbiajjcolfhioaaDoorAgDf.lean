import Derived.Test.YtbiajjcolfhioaaDoorAgDe
import Derived.Sort.Walk0
set_option linter.all false
namespace Go.Ag
open Go Go.Proofs
variable {G : Nat → Option (List V)}
attribute [local irreducible] aops qops Sat aop

theorem awk_right : rightP awkA = true := by kernel_rfl

set_option maxRecDepth 20000 in
set_option maxHeartbeats 8000000 in
theorem spec_awake11 (m : Int) (hG0 : G 0 = some [.int .i64 m]) (H : List Ob) (K : D → List Ob → Prop) (hK : K (.v (.bool true)) H) : ACalls Tryd.prog G 21 [] H K := by
  refine ACalls.go Tryd.f21 _ 47 [0] Tryd.func21 rfl Tryd.ntmps21 (by kernel_rfl) rfl (by simp) (fun E hE hP hG hH => ?_)
  have hM : E.P.follows .mixedOrders = true := hP ▸ mixed
  subst hH
  simp only [args0]
  refine wa ?_
  refine wb rfl ?_
  repeat' (first | ((first | refine wx ?_ | refine wy ?_ | refine wz ?_); (simp only [lo, ld, ↓aop, ↓aCall, hP, hG, Nat.reduceLT, ↓reduceIte, Nat.reduceEqDiff, Nat.reduceAdd, Nat.reduceMul, Nat.reduceLeDiff, reduceCtorEq, D.cs, D.plain, fillD, chop, List.replicate, tk_3, ze_3, sz_3, tk_9, ze_9, sz_9, tk_46, ze_46, sz_46, kn_46, tk_52, ze_52, sz_52, kn_52, tk_44, ze_44, sz_44]; repeat (with_reducible refine And.intro ?_ ?_; focus (first | decide | omega | (simp only [ln]; omega)))); try ((first | refine hK _ _ ?_ | refine hK _ ?_); clear hK K; simp only [lp])) | refine we rfl fun K hK => ?_ | refine wf rfl rfl fun K hK => ?_ | refine wg rfl rfl fun K hK => ?_ | refine wh rfl fun K hK => ?_ | ((first | refine Xg rfl rfl (by decide) ?_ fun K hK => ?_ | refine Yg rfl rfl (by decide) ?_ fun K hK => ?_ | refine Zg rfl rfl rfl (by decide) ?_ fun K hK => ?_); (focus (simp only [look_cons, ↓reduceIte, Nat.reduceEqDiff, Bool.not_true, Bool.not_false]; done))) | ((first | refine Xn rfl rfl (by decide) ?_ ?_ | refine Yn rfl rfl (by decide) ?_ ?_ | refine Zn rfl rfl rfl (by decide) ?_ ?_); (focus (simp only [look_cons, ↓reduceIte, Nat.reduceEqDiff, Bool.not_true, Bool.not_false]; done)); simp only [lp]) | ((first | refine Xo rfl rfl (by decide) ?_ ?_ | refine Yo rfl rfl (by decide) ?_ ?_ | refine Zo rfl rfl rfl (by decide) ?_ ?_); (focus (simp only [look_cons, ↓reduceIte, Nat.reduceEqDiff, Bool.not_true, Bool.not_false]; done)); simp only [lp]) | ((first | refine Xs rfl rfl (by decide) rfl (fun h K hK => ?_) fun h => ?_ | refine Ys rfl rfl (by decide) rfl (fun h K hK => ?_) fun h => ?_ | refine Zs rfl rfl rfl (by decide) rfl (fun h K hK => ?_) fun h => ?_); rotate_left; (focus (simp only [Bool.not_true, Bool.not_false, lp])); rotate_left) | ((first | refine wi ?_ | refine wj ?_ | refine wk ?_); simp only [lt, ↓reduceIte, Nat.reduceEqDiff]))
  refine wa ?_
  refine wb rfl ?_
  repeat' (first | ((first | refine wx ?_ | refine wy ?_ | refine wz ?_); (simp only [lo, ld, ↓aop, ↓aCall, hP, hG, Nat.reduceLT, ↓reduceIte, Nat.reduceEqDiff, Nat.reduceAdd, Nat.reduceMul, Nat.reduceLeDiff, reduceCtorEq, D.cs, D.plain, fillD, chop, List.replicate, tk_3, ze_3, sz_3, tk_9, ze_9, sz_9, tk_46, ze_46, sz_46, kn_46, tk_52, ze_52, sz_52, kn_52, tk_44, ze_44, sz_44]; repeat (with_reducible refine And.intro ?_ ?_; focus (first | decide | omega | (simp only [ln]; omega)))); try ((first | refine hK _ _ ?_ | refine hK _ ?_); clear hK K; simp only [lp])) | refine we rfl fun K hK => ?_ | refine wf rfl rfl fun K hK => ?_ | refine wg rfl rfl fun K hK => ?_ | refine wh rfl fun K hK => ?_ | ((first | refine Xg rfl rfl (by decide) ?_ fun K hK => ?_ | refine Yg rfl rfl (by decide) ?_ fun K hK => ?_ | refine Zg rfl rfl rfl (by decide) ?_ fun K hK => ?_); (focus (simp only [look_cons, ↓reduceIte, Nat.reduceEqDiff, Bool.not_true, Bool.not_false]; done))) | ((first | refine Xn rfl rfl (by decide) ?_ ?_ | refine Yn rfl rfl (by decide) ?_ ?_ | refine Zn rfl rfl rfl (by decide) ?_ ?_); (focus (simp only [look_cons, ↓reduceIte, Nat.reduceEqDiff, Bool.not_true, Bool.not_false]; done)); simp only [lp]) | ((first | refine Xo rfl rfl (by decide) ?_ ?_ | refine Yo rfl rfl (by decide) ?_ ?_ | refine Zo rfl rfl rfl (by decide) ?_ ?_); (focus (simp only [look_cons, ↓reduceIte, Nat.reduceEqDiff, Bool.not_true, Bool.not_false]; done)); simp only [lp]) | ((first | refine Xs rfl rfl (by decide) rfl (fun h K hK => ?_) fun h => ?_ | refine Ys rfl rfl (by decide) rfl (fun h K hK => ?_) fun h => ?_ | refine Zs rfl rfl rfl (by decide) rfl (fun h K hK => ?_) fun h => ?_); rotate_left; (focus (simp only [Bool.not_true, Bool.not_false, lp])); rotate_left) | ((first | refine wi ?_ | refine wj ?_ | refine wk ?_); simp only [lt, ↓reduceIte, Nat.reduceEqDiff]))
  refine sat_ent (Ent.weakArr E.H0.length (xs' := rowsC awkC) (by rw [hp_get0]; rfl) ?_) ?_
  · exact ⟨⟨D.le_refl _, D.le_refl _, D.le_nils 1, trivial⟩, ⟨D.le_refl _, D.le_refl _, D.le_nils 1, trivial⟩, ⟨D.le_refl _, D.le_refl _, D.le_nils 1, trivial⟩, trivial⟩
  rw [hp_set0]
  refine sat_ent (Ent.acs 1 [(0, .v (.bool false))] hE (Acs.own (m := 0) (sz := 3) (ys := awkC.map choR) 1 (Nat.le_refl _)) rfl ?_ ?_) ?_
  · simp only [le, ↓reduceIte, Nat.reduceEqDiff, and_true]; repeat' (first | exact trivial | exact D.le_refl _ | exact D.le_any _ | with_reducible refine And.intro ?_ ?_)
  · simp [ltAll, ltObs, Ob.lt, D.lt, D.ltL, or_imp, forall_and]
  refine wa ?_
  refine wb rfl ?_
  repeat' (first | ((first | refine wx ?_ | refine wy ?_ | refine wz ?_); (simp only [lo, ld, ↓aop, ↓aCall, hP, hG, Nat.reduceLT, ↓reduceIte, Nat.reduceEqDiff, Nat.reduceAdd, Nat.reduceMul, Nat.reduceLeDiff, reduceCtorEq, D.cs, D.plain, fillD, chop, List.replicate, chos, tk_3, ze_3, sz_3, tk_9, ze_9, sz_9, tk_46, ze_46, sz_46, kn_46, tk_44, ze_44, sz_44]; repeat (with_reducible refine And.intro ?_ ?_; focus (first | decide | omega | (simp only [ln]; omega)))); try ((first | refine hK _ _ ?_ | refine hK _ ?_); clear hK K; simp only [lp])) | refine we rfl fun K hK => ?_ | refine wf rfl rfl fun K hK => ?_ | refine wg rfl rfl fun K hK => ?_ | refine wh rfl fun K hK => ?_ | ((first | refine Xg rfl rfl (by decide) ?_ fun K hK => ?_ | refine Yg rfl rfl (by decide) ?_ fun K hK => ?_ | refine Zg rfl rfl rfl (by decide) ?_ fun K hK => ?_); (focus (simp only [look_cons, ↓reduceIte, Nat.reduceEqDiff, Bool.not_true, Bool.not_false]; done))) | ((first | refine Xn rfl rfl (by decide) ?_ ?_ | refine Yn rfl rfl (by decide) ?_ ?_ | refine Zn rfl rfl rfl (by decide) ?_ ?_); (focus (simp only [look_cons, ↓reduceIte, Nat.reduceEqDiff, Bool.not_true, Bool.not_false]; done)); simp only [lp]) | ((first | refine Xo rfl rfl (by decide) ?_ ?_ | refine Yo rfl rfl (by decide) ?_ ?_ | refine Zo rfl rfl rfl (by decide) ?_ ?_); (focus (simp only [look_cons, ↓reduceIte, Nat.reduceEqDiff, Bool.not_true, Bool.not_false]; done)); simp only [lp]) | ((first | refine Xs rfl rfl (by decide) rfl (fun h K hK => ?_) fun h => ?_ | refine Ys rfl rfl (by decide) rfl (fun h K hK => ?_) fun h => ?_ | refine Zs rfl rfl rfl (by decide) rfl (fun h K hK => ?_) fun h => ?_); rotate_left; (focus (simp only [Bool.not_true, Bool.not_false, lp])); rotate_left) | ((first | refine wi ?_ | refine wj ?_ | refine wk ?_); simp only [lt, ↓reduceIte, Nat.reduceEqDiff]))
  refine sat_ent (Ent.weakBox E.H0.length (cs' := (altV awkA).map .v) (by rw [hp_get0]; rfl) ?_) ?_
  · exact ⟨D.le_refl _, D.le_refl _, D.le_refl _, D.le_refl _, D.le_nils 2, D.le_refl _, trivial⟩
  rw [hp_set0]
  repeat (first | refine wa ?_ | refine wb rfl ?_ | refine wc rfl rfl hM ?_ | refine wd rfl hM ?_ | ((first | refine we rfl fun K hK => ?_ | refine wf rfl rfl fun K hK => ?_ | refine wg rfl rfl fun K hK => ?_ | refine wh rfl fun K hK => ?_); (simp only [lo, ld, ↓aop, ↓aCall, hP, hG, Nat.reduceLT, ↓reduceIte, Nat.reduceEqDiff, Nat.reduceAdd, Nat.reduceMul, Nat.reduceLeDiff, reduceCtorEq, D.cs, D.plain, fillD, chop, List.replicate, altV, tk_3, ze_3, sz_3, tk_9, ze_9, sz_9, tk_46, ze_46, sz_46, kn_46, tk_24, ze_24, sz_24]; repeat (with_reducible refine And.intro ?_ ?_; focus (first | decide | omega | (simp only [ln]; omega)))); try ((first | refine hK _ _ ?_ | refine hK _ ?_); clear hK K; simp only [lp])) | ((first | refine wi ?_ | refine wj ?_ | refine wk ?_ | refine wl ?_ | refine wm ?_ | refine wn ?_); simp only [lt, ↓reduceIte, Nat.reduceEqDiff]) | refine wo ?_)
  refine spec_AltPrint awkA m awk_mid awk_wf hG0 _ _ (hK _ _ ?_)
  clear hK K; simp only [lp]
  rw [awk_print]
  repeat (first | refine wa ?_ | refine wb rfl ?_ | refine wc rfl rfl hM ?_ | refine wd rfl hM ?_ | ((first | refine we rfl fun K hK => ?_ | refine wf rfl rfl fun K hK => ?_ | refine wg rfl rfl fun K hK => ?_ | refine wh rfl fun K hK => ?_); (simp only [lo, ld, ↓aop, ↓aCall, hP, hG, Nat.reduceLT, ↓reduceIte, Nat.reduceEqDiff, Nat.reduceAdd, Nat.reduceMul, Nat.reduceLeDiff, reduceCtorEq, D.cs, D.plain, fillD, chop, List.replicate, tk_3, ze_3, sz_3, tk_9, ze_9, sz_9, tk_24, ze_24, sz_24, tk_46, ze_46, sz_46, kn_46]; repeat (with_reducible refine And.intro ?_ ?_; focus (first | decide | omega | (simp only [ln]; omega)))); try ((first | refine hK _ _ ?_ | refine hK _ ?_); clear hK K; simp only [lp])) | ((first | refine wi ?_ | refine wj ?_ | refine wk ?_ | refine wl ?_ | refine wm ?_ | refine wn ?_); simp only [lt, ↓reduceIte, Nat.reduceEqDiff]) | refine wo ?_)
  refine spec_AltParse m hG0 _ _ (hK _ _ ?_)
  clear hK K; simp only [lp]
  repeat (first | refine wa ?_ | refine wb rfl ?_ | refine wc rfl rfl hM ?_ | refine wd rfl hM ?_ | ((first | refine we rfl fun K hK => ?_ | refine wf rfl rfl fun K hK => ?_ | refine wg rfl rfl fun K hK => ?_ | refine wh rfl fun K hK => ?_); (simp only [lo, ld, ↓aop, ↓aCall, hP, hG, Nat.reduceLT, ↓reduceIte, Nat.reduceEqDiff, Nat.reduceAdd, Nat.reduceMul, Nat.reduceLeDiff, reduceCtorEq, D.cs, D.plain, fillD, chop, List.replicate, altd, tk_3, ze_3, sz_3, tk_9, ze_9, sz_9, tk_24, ze_24, sz_24, tk_46, ze_46, sz_46, kn_46]; repeat (with_reducible refine And.intro ?_ ?_; focus (first | decide | omega | (simp only [ln]; omega)))); try ((first | refine hK _ _ ?_ | refine hK _ ?_); clear hK K; simp only [lp])) | ((first | refine wi ?_ | refine wj ?_ | refine wk ?_ | refine wl ?_ | refine wm ?_ | refine wn ?_); simp only [lt, ↓reduceIte, Nat.reduceEqDiff]) | refine wo ?_)
  refine sat_thru (fr 47 [(0, .v (.bool true))]) E.H0 ?_ ?_
  · have a1 : ((0 : Int) == 0) = true := rfl
    (first | refine wr ?_ | refine wp rfl hM ?_ | refine wq hM ?_); repeat' (first | ((first | refine wx ?_ | refine wy ?_ | refine wz ?_); (simp only [lo, ld, ↓aop, ↓aCall, hP, hG, Nat.reduceLT, ↓reduceIte, Nat.reduceEqDiff, Nat.reduceAdd, Nat.reduceMul, Nat.reduceLeDiff, reduceCtorEq, D.cs, D.plain, fillD, chop, List.replicate, altd, altV, tk_3, ze_3, sz_3, tk_4, ze_4, sz_4, tk_9, ze_9, sz_9, tk_24, ze_24, sz_24, tk_46, ze_46, sz_46, kn_46, a1, beq_self_eq_true]; repeat (with_reducible refine And.intro ?_ ?_; focus (first | decide | omega | (simp only [ln]; omega)))); try ((first | refine hK _ _ ?_ | refine hK _ ?_); clear hK K; simp only [lp])) | refine we rfl fun K hK => ?_ | refine wf rfl rfl fun K hK => ?_ | refine wg rfl rfl fun K hK => ?_ | refine wh rfl fun K hK => ?_ | ((first | refine Xg rfl rfl (by decide) ?_ fun K hK => ?_ | refine Yg rfl rfl (by decide) ?_ fun K hK => ?_ | refine Zg rfl rfl rfl (by decide) ?_ fun K hK => ?_); (focus (simp only [look_cons, ↓reduceIte, Nat.reduceEqDiff, Bool.not_true, Bool.not_false]; done))) | ((first | refine Xn rfl rfl (by decide) ?_ ?_ | refine Yn rfl rfl (by decide) ?_ ?_ | refine Zn rfl rfl rfl (by decide) ?_ ?_); (focus (simp only [look_cons, ↓reduceIte, Nat.reduceEqDiff, Bool.not_true, Bool.not_false]; done)); simp only [lp]) | ((first | refine Xo rfl rfl (by decide) ?_ ?_ | refine Yo rfl rfl (by decide) ?_ ?_ | refine Zo rfl rfl rfl (by decide) ?_ ?_); (focus (simp only [look_cons, ↓reduceIte, Nat.reduceEqDiff, Bool.not_true, Bool.not_false]; done)); simp only [lp]) | ((first | refine Xs rfl rfl (by decide) rfl (fun h K hK => ?_) fun h => ?_ | refine Ys rfl rfl (by decide) rfl (fun h K hK => ?_) fun h => ?_ | refine Zs rfl rfl rfl (by decide) rfl (fun h K hK => ?_) fun h => ?_); rotate_left; (focus (simp only [Bool.not_true, Bool.not_false, lp])); rotate_left) | ((first | refine wi ?_ | refine wj ?_ | refine wk ?_); simp only [lt, ↓reduceIte, Nat.reduceEqDiff]))
    refine spec_Best awkC (by decide) _ _ (hK _ _ ?_)
    clear hK K; simp only [lp]
    rw [awk_best]
    repeat' (first | ((first | refine wx ?_ | refine wy ?_ | refine wz ?_); (simp only [lo, ld, ↓aop, ↓aCall, hP, hG, Nat.reduceLT, ↓reduceIte, Nat.reduceEqDiff, Nat.reduceAdd, Nat.reduceMul, Nat.reduceLeDiff, reduceCtorEq, D.cs, D.plain, fillD, chop, List.replicate, altd, altV, tk_3, ze_3, sz_3, tk_4, ze_4, sz_4, tk_9, ze_9, sz_9, tk_24, ze_24, sz_24, tk_46, ze_46, sz_46, kn_46, a1, beq_self_eq_true]; repeat (with_reducible refine And.intro ?_ ?_; focus (first | decide | omega | (simp only [ln]; omega)))); try ((first | refine hK _ _ ?_ | refine hK _ ?_); clear hK K; simp only [lp])) | refine we rfl fun K hK => ?_ | refine wf rfl rfl fun K hK => ?_ | refine wg rfl rfl fun K hK => ?_ | refine wh rfl fun K hK => ?_ | ((first | refine Xg rfl rfl (by decide) ?_ fun K hK => ?_ | refine Yg rfl rfl (by decide) ?_ fun K hK => ?_ | refine Zg rfl rfl rfl (by decide) ?_ fun K hK => ?_); (focus (simp only [look_cons, ↓reduceIte, Nat.reduceEqDiff, Bool.not_true, Bool.not_false]; done))) | ((first | refine Xn rfl rfl (by decide) ?_ ?_ | refine Yn rfl rfl (by decide) ?_ ?_ | refine Zn rfl rfl rfl (by decide) ?_ ?_); (focus (simp only [look_cons, ↓reduceIte, Nat.reduceEqDiff, Bool.not_true, Bool.not_false]; done)); simp only [lp]) | ((first | refine Xo rfl rfl (by decide) ?_ ?_ | refine Yo rfl rfl (by decide) ?_ ?_ | refine Zo rfl rfl rfl (by decide) ?_ ?_); (focus (simp only [look_cons, ↓reduceIte, Nat.reduceEqDiff, Bool.not_true, Bool.not_false]; done)); simp only [lp]) | ((first | refine Xs rfl rfl (by decide) rfl (fun h K hK => ?_) fun h => ?_ | refine Ys rfl rfl (by decide) rfl (fun h K hK => ?_) fun h => ?_ | refine Zs rfl rfl rfl (by decide) rfl (fun h K hK => ?_) fun h => ?_); rotate_left; (focus (simp only [Bool.not_true, Bool.not_false, lp])); rotate_left) | ((first | refine wi ?_ | refine wj ?_ | refine wk ?_); simp only [lt, ↓reduceIte, Nat.reduceEqDiff]))
    refine spec_SameOne awkA (by decide) (by decide) (by decide) _ _ (hK _ _ ?_)
    clear hK K; simp only [lp]
    have a2 : (awkS == [97, 117, 116, 111, 10, 47, 120, 10, 10, 47, 97, 10, 53, 10, 47, 98, 10, 53, 10, 47, 99, 10, 49, 10, 10]) = true := by decide
    repeat' (first | ((first | refine wx ?_ | refine wy ?_ | refine wz ?_); (simp only [lo, ld, ↓aop, ↓aCall, hP, hG, Nat.reduceLT, ↓reduceIte, Nat.reduceEqDiff, Nat.reduceAdd, Nat.reduceMul, Nat.reduceLeDiff, reduceCtorEq, D.cs, D.plain, fillD, chop, List.replicate, altd, altV, tk_3, ze_3, sz_3, tk_4, ze_4, sz_4, tk_9, ze_9, sz_9, tk_24, ze_24, sz_24, tk_46, ze_46, sz_46, kn_46, a1, a2]; repeat (with_reducible refine And.intro ?_ ?_; focus (first | decide | omega | (simp only [ln]; omega)))); try ((first | refine hK _ _ ?_ | refine hK _ ?_); clear hK K; simp only [lp])) | refine we rfl fun K hK => ?_ | refine wf rfl rfl fun K hK => ?_ | refine wg rfl rfl fun K hK => ?_ | refine wh rfl fun K hK => ?_ | ((first | refine Xg rfl rfl (by decide) ?_ fun K hK => ?_ | refine Yg rfl rfl (by decide) ?_ fun K hK => ?_ | refine Zg rfl rfl rfl (by decide) ?_ fun K hK => ?_); (focus (simp only [look_cons, ↓reduceIte, Nat.reduceEqDiff, Bool.not_true, Bool.not_false]; done))) | ((first | refine Xn rfl rfl (by decide) ?_ ?_ | refine Yn rfl rfl (by decide) ?_ ?_ | refine Zn rfl rfl rfl (by decide) ?_ ?_); (focus (simp only [look_cons, ↓reduceIte, Nat.reduceEqDiff, Bool.not_true, Bool.not_false]; done)); simp only [lp]) | ((first | refine Xo rfl rfl (by decide) ?_ ?_ | refine Yo rfl rfl (by decide) ?_ ?_ | refine Zo rfl rfl rfl (by decide) ?_ ?_); (focus (simp only [look_cons, ↓reduceIte, Nat.reduceEqDiff, Bool.not_true, Bool.not_false]; done)); simp only [lp]) | ((first | refine Xs rfl rfl (by decide) rfl (fun h K hK => ?_) fun h => ?_ | refine Ys rfl rfl (by decide) rfl (fun h K hK => ?_) fun h => ?_ | refine Zs rfl rfl rfl (by decide) rfl (fun h K hK => ?_) fun h => ?_); rotate_left; (focus (simp only [Bool.not_true, Bool.not_false, lp])); rotate_left) | ((first | refine wi ?_ | refine wj ?_ | refine wk ?_); simp only [lt, ↓reduceIte, Nat.reduceEqDiff]))
    refine spec_AltRight awkA m awk_mid hG0 _ _ (hK _ _ ?_)
    clear hK K; simp only [lp]
    rw [awk_right]
    repeat' (first | ((first | refine wx ?_ | refine wy ?_ | refine wz ?_); (simp only [lo, ld, ↓aop, ↓aCall, hP, hG, Nat.reduceLT, ↓reduceIte, Nat.reduceEqDiff, Nat.reduceAdd, Nat.reduceMul, Nat.reduceLeDiff, reduceCtorEq, D.cs, D.plain, fillD, chop, List.replicate, altd, altV, tk_3, ze_3, sz_3, tk_4, ze_4, sz_4, tk_9, ze_9, sz_9, tk_24, ze_24, sz_24, tk_46, ze_46, sz_46, kn_46]; repeat (with_reducible refine And.intro ?_ ?_; focus (first | decide | omega | (simp only [ln]; omega)))); try ((first | refine hK _ _ ?_ | refine hK _ ?_); clear hK K; simp only [lp])) | refine we rfl fun K hK => ?_ | refine wf rfl rfl fun K hK => ?_ | refine wg rfl rfl fun K hK => ?_ | refine wh rfl fun K hK => ?_ | ((first | refine Xg rfl rfl (by decide) ?_ fun K hK => ?_ | refine Yg rfl rfl (by decide) ?_ fun K hK => ?_ | refine Zg rfl rfl rfl (by decide) ?_ fun K hK => ?_); (focus (simp only [look_cons, ↓reduceIte, Nat.reduceEqDiff, Bool.not_true, Bool.not_false]; done))) | ((first | refine Xn rfl rfl (by decide) ?_ ?_ | refine Yn rfl rfl (by decide) ?_ ?_ | refine Zn rfl rfl rfl (by decide) ?_ ?_); (focus (simp only [look_cons, ↓reduceIte, Nat.reduceEqDiff, Bool.not_true, Bool.not_false]; done)); simp only [lp]) | ((first | refine Xo rfl rfl (by decide) ?_ ?_ | refine Yo rfl rfl (by decide) ?_ ?_ | refine Zo rfl rfl rfl (by decide) ?_ ?_); (focus (simp only [look_cons, ↓reduceIte, Nat.reduceEqDiff, Bool.not_true, Bool.not_false]; done)); simp only [lp]) | ((first | refine Xs rfl rfl (by decide) rfl (fun h K hK => ?_) fun h => ?_ | refine Ys rfl rfl (by decide) rfl (fun h K hK => ?_) fun h => ?_ | refine Zs rfl rfl rfl (by decide) rfl (fun h K hK => ?_) fun h => ?_); rotate_left; (focus (simp only [Bool.not_true, Bool.not_false, lp])); rotate_left) | ((first | refine wi ?_ | refine wj ?_ | refine wk ?_); simp only [lt, ↓reduceIte, Nat.reduceEqDiff]))
    refine Ent.round0 hE ?_ ?_
    · simp only [le, ↓reduceIte, Nat.reduceEqDiff, and_true]; repeat' (first | exact trivial | exact D.le_refl _ | exact D.le_any _ | with_reducible refine And.intro ?_ ?_)
    · simp [ltAll, ltObs, Ob.lt, D.lt, D.ltL, or_imp, forall_and]
  repeat (first | refine wa ?_ | refine wb rfl ?_ | refine wc rfl rfl hM ?_ | refine wd rfl hM ?_ | ((first | refine we rfl fun K hK => ?_ | refine wf rfl rfl fun K hK => ?_ | refine wg rfl rfl fun K hK => ?_ | refine wh rfl fun K hK => ?_); (simp only [lo, ld, ↓aop, ↓aCall, hP, hG, Nat.reduceLT, ↓reduceIte, Nat.reduceEqDiff, Nat.reduceAdd, Nat.reduceMul, Nat.reduceLeDiff, reduceCtorEq, D.cs, D.plain, fillD, chop, List.replicate]; repeat (with_reducible refine And.intro ?_ ?_; focus (first | decide | omega | (simp only [ln]; omega)))); try ((first | refine hK _ _ ?_ | refine hK _ ?_); clear hK K; simp only [lp])) | ((first | refine wi ?_ | refine wj ?_ | refine wk ?_ | refine wl ?_ | refine wm ?_ | refine wn ?_); simp only [lt, ↓reduceIte, Nat.reduceEqDiff]) | refine wo ?_)
  exact Fin.is _ (by decide) rfl hK
end Go.Ag
/- AGo, plain laws: alternatives that may be. -/
namespace Go.Ag
open Go

theorem le_trans_s (a b c : Str) : a ≤ b → b ≤ c → a ≤ c := fun h1 h2 => List.le_trans h1 h2
theorem le_antisymm_s {a b : Str} (h1 : a ≤ b) (h2 : b ≤ a) : a = b := List.le_antisymm h1 h2
theorem sortS_sorted (l : List Str) : (sortS l).Pairwise (· ≤ ·) := by
  have := List.pairwise_mergeSort (le := fun x y : Str => decide (x ≤ y)) (fun a b c h1 h2 => by simp at *; exact le_trans_s a b c h1 h2) (fun a b => by simp; exact List.le_total a b) l
  exact this.imp (by simp)
theorem sortS_perm (l : List Str) : (sortS l).Perm l := List.mergeSort_perm _ _
theorem keeps_iff (zs : List Str) (j : Nat) : Lib.keeps zs.toArray j = true ↔ (j = 0 ∨ zs[j]! ≠ zs[j - 1]!) := by
  simp [Lib.keeps]
theorem compact_len_iff (zs : List Str) : (Lib.compact zs).length = zs.length ↔ ∀ j, j < zs.length → Lib.keeps zs.toArray j = true := by
  unfold Lib.compact Lib.compactUpTo
  rw [List.length_map]
  constructor
  · intro h j hj
    have h2 : ((List.range zs.length).filter (Lib.keeps zs.toArray)).length = (List.range zs.length).length := by rw [h]; simp
    rw [List.length_filter_eq_length_iff] at h2
    exact h2 j (List.mem_range.2 hj)
  · intro h
    rw [List.filter_eq_self.2 (fun j hj => h j (List.mem_range.1 hj))]; simp
theorem sortedS_nodup (l : List Str) : (sortedS l).length = l.length ↔ l.Nodup := by
  have hp := sortS_perm l
  have hs := sortS_sorted l
  rw [← hp.nodup_iff, ← sortS_len l, sortedS, compact_len_iff]
  generalize sortS l = zs at hs
  rw [List.pairwise_iff_getElem] at hs
  constructor
  · intro h
    rw [List.nodup_iff_pairwise_ne, List.pairwise_iff_getElem]
    intro i j hi hj hij e
    have h1 := (keeps_iff zs j).1 (h j hj)
    rcases h1 with h1 | h1
    · omega
    · apply h1
      rw [getElem!_pos zs j hj, getElem!_pos zs (j - 1) (by omega)]
      by_cases hij2 : i = j - 1
      · subst hij2; exact e.symm
      · have a1 : zs[i] ≤ zs[j - 1] := hs i (j - 1) hi (by omega) (by omega)
        have a2 : zs[j - 1] ≤ zs[j] := hs (j - 1) j (by omega) hj (by omega)
        rw [e] at a1
        exact le_antisymm_s a1 a2
  · intro h j hj
    rw [keeps_iff]
    by_cases h0 : j = 0
    · exact .inl h0
    · right
      rw [getElem!_pos zs j hj, getElem!_pos zs (j - 1) (by omega)]
      rw [List.nodup_iff_pairwise_ne, List.pairwise_iff_getElem] at h
      exact (h (j - 1) j (by omega) hj (by omega)).symm

/-! ### names that rise -/
theorem less_irrefl (a : Str) : Op.bytesLess a a = false := by
  rw [Go.Proofs.bytesLess_eq]; simp [List.lt_irrefl]
theorem less_trans {a b c : Str} (h1 : Op.bytesLess a b = true) (h2 : Op.bytesLess b c = true) : Op.bytesLess a c = true := by
  rw [Go.Proofs.bytesLess_eq] at *
  simp only [decide_eq_true_eq] at *
  exact List.lt_trans h1 h2
theorem rise_all {f : Nat → Str} {n : Nat} (h : ∀ i, i + 1 < n → Op.bytesLess (f i) (f (i + 1)) = true) : ∀ j i, i < j → j < n → Op.bytesLess (f i) (f j) = true := by
  intro j
  induction j with
  | zero => intro i hi; omega
  | succ j ih =>
    intro i hi hj
    by_cases e : i = j
    · subst e; exact h i hj
    · exact less_trans (ih i (by omega) (by omega)) (h j hj)
theorem any_take {l : List Str} {i : Nat} {a : Str} : (l.take i).any (· == a) = true ↔ ∃ j, j < i ∧ l[j]? = some a := by
  rw [List.any_eq_true]
  constructor
  · rintro ⟨x, hx, hxa⟩
    obtain ⟨j, hj⟩ := List.mem_iff_getElem?.1 hx
    have e : x = a := by simpa using hxa
    subst e
    rw [List.getElem?_take] at hj
    split at hj
    · exact ⟨j, by assumption, hj⟩
    · cases hj
  · rintro ⟨j, h1, h2⟩
    exact ⟨a, List.mem_of_getElem? (i := j) (by rw [List.getElem?_take_of_lt h1]; exact h2), by simp⟩
theorem nodup_iff_any {l : List Str} : l.Nodup ↔ ∀ i a, l[i]? = some a → (l.take i).any (· == a) = false := by
  rw [List.nodup_iff_pairwise_ne, List.pairwise_iff_getElem]
  constructor
  · intro h i a ha
    rw [Bool.eq_false_iff, ne_eq, any_take]
    rintro ⟨j, h1, h2⟩
    obtain ⟨hi, e1⟩ := List.getElem?_eq_some_iff.1 ha
    obtain ⟨hj, e2⟩ := List.getElem?_eq_some_iff.1 h2
    exact h j i hj hi h1 (e2.trans e1.symm)
  · intro h i j hi hj hij e
    have := h j l[j] (List.getElem?_eq_getElem hj)
    rw [Bool.eq_false_iff, ne_eq, any_take] at this
    exact this ⟨i, hij, by rw [← e]; exact List.getElem?_eq_getElem hi⟩

theorem lns_zero (x : Alt) : lnBad x 0 x.link x.name = (!placeB x.link || !nameOk x.name) := by
  have h : decide (((0 : Nat) : Int) > 1) = false := rfl
  simp only [lnBad, List.take_zero, List.any_nil, Bool.or_false, h, Bool.false_and]
theorem lns_succ {x : Alt} {i : Nat} {s : Slv} (hs : x.slaves[i]? = some s) :
    lnBad x (i + 1) s.link s.name = false ↔ (slvBad x i s = false ∧ ((links x).take (i + 1)).any (· == s.link) = false ∧ ((names x).take (i + 1)).any (· == s.name) = false) := by
  have hn : (names x).getD (i + 1 - 1) [] = if i = 0 then x.name else (x.slaves.getD (i - 1) slv0).name := by
    rw [Nat.add_sub_cancel]
    cases i with
    | zero => rfl
    | succ j =>
      have hj : j < x.slaves.length := by have := (List.getElem?_eq_some_iff.1 hs).1; omega
      simp [names, List.getD_eq_getElem?_getD, hj]
  have h0 : ((names x).take (i + 1)).any (· == s.name) = false → s.name ≠ x.name := by
    intro h e
    rw [Bool.eq_false_iff, ne_eq, any_take] at h
    exact h ⟨0, by omega, by rw [e]; rfl⟩
  unfold lnBad slvBad
  rw [hn]
  cases i with
  | zero =>
    have h1 : decide (((0 + 1 : Nat) : Int) > 1) = false := rfl
    have h2 : decide (((0 : Nat) : Int) > 0) = false := rfl
    rw [h1, h2]
    simp only [Bool.false_and, Bool.or_false, Bool.or_eq_false_iff, beq_eq_false_iff_ne, ne_eq]
    constructor
    · rintro ⟨⟨⟨a, b⟩, c⟩, d⟩
      exact ⟨⟨⟨c, a⟩, h0 d⟩, b, d⟩
    · rintro ⟨⟨⟨c, a⟩, e⟩, b, d⟩
      exact ⟨⟨⟨a, b⟩, c⟩, d⟩
  | succ j =>
    have h1 : decide (((j + 1 + 1 : Nat) : Int) > 1) = true := by simp; omega
    have h2 : decide (((j + 1 : Nat) : Int) > 0) = true := by simp
    rw [h1, h2]
    simp only [Bool.true_and, Bool.or_eq_false_iff, beq_eq_false_iff_ne, ne_eq, Nat.add_eq_zero_iff, Nat.succ_ne_self, and_false, if_false, Nat.succ_ne_zero]
    constructor
    · rintro ⟨⟨⟨⟨a, b⟩, c⟩, d⟩, f⟩
      exact ⟨⟨⟨⟨c, a⟩, h0 d⟩, f⟩, b, d⟩
    · rintro ⟨⟨⟨⟨c, a⟩, e⟩, f⟩, b, d⟩
      exact ⟨⟨⟨⟨a, b⟩, c⟩, d⟩, f⟩

theorem slvAll (x : Alt) : (List.range x.slaves.length).all (fun i => !slvBad x i (x.slaves.getD i slv0)) = true ↔ ∀ i s, x.slaves[i]? = some s → slvBad x i s = false := by
  simp only [List.all_eq_true, List.mem_range, Bool.not_eq_true']
  constructor
  · intro h i s hs
    have := h i (List.getElem?_eq_some_iff.1 hs).1
    rwa [List.getD_eq_getElem?_getD, hs] at this
  · intro h i hi
    rw [List.getD_eq_getElem?_getD, List.getElem?_eq_getElem hi]
    exact h i _ (List.getElem?_eq_getElem hi)
theorem lnsAll (x : Alt) : lnsOk x = true ↔ (placeB x.link = true ∧ nameOk x.name = true) ∧ ∀ i s, x.slaves[i]? = some s → lnBad x (i + 1) s.link s.name = false := by
  simp only [lnsOk, List.all_eq_true, List.mem_range, Bool.not_eq_true', links_len]
  constructor
  · intro h
    refine ⟨?_, fun i s hs => ?_⟩
    · have := h 0 (by omega)
      rw [show (links x).getD 0 [] = x.link from rfl, show (names x).getD 0 [] = x.name from rfl, lns_zero] at this
      simpa using this
    · have hi := (List.getElem?_eq_some_iff.1 hs).1
      have := h (i + 1) (by omega)
      rwa [show (links x).getD (i + 1) [] = s.link by simp [links, List.getD_eq_getElem?_getD, hs], show (names x).getD (i + 1) [] = s.name by simp [names, List.getD_eq_getElem?_getD, hs]] at this
  · rintro ⟨h1, h2⟩ i hi
    cases i with
    | zero =>
      rw [show (links x).getD 0 [] = x.link from rfl, show (names x).getD 0 [] = x.name from rfl, lns_zero]
      simp [h1.1, h1.2]
    | succ i =>
      have hs : x.slaves[i]? = some x.slaves[i] := List.getElem?_eq_getElem (by omega)
      rw [show (links x).getD (i + 1) [] = x.slaves[i].link by simp [links, List.getD_eq_getElem?_getD, hs], show (names x).getD (i + 1) [] = x.slaves[i].name by simp [names, List.getD_eq_getElem?_getD, hs]]
      exact h2 i _ hs
theorem lns_core (x : Alt) : lnsOk x = true ↔ nameOk x.name = true ∧ placeB x.link = true ∧ (∀ i s, x.slaves[i]? = some s → slvBad x i s = false) ∧ (links x).Nodup := by
  rw [lnsAll]
  constructor
  · rintro ⟨⟨h1, h2⟩, h3⟩
    refine ⟨h2, h1, fun i s hs => ((lns_succ hs).1 (h3 i s hs)).1, nodup_iff_any.2 fun i a ha => ?_⟩
    cases i with
    | zero => rfl
    | succ i =>
      obtain ⟨s, hs, rfl⟩ : ∃ s, x.slaves[i]? = some s ∧ s.link = a := by simpa [links] using ha
      exact ((lns_succ hs).1 (h3 i s hs)).2.1
  · rintro ⟨h2, h1, h3, h4⟩
    refine ⟨⟨h1, h2⟩, fun i s hs => (lns_succ hs).2 ⟨h3 i s hs, nodup_iff_any.1 h4 (i + 1) s.link (by simp [links, hs]), ?_⟩⟩
    have hi := (List.getElem?_eq_some_iff.1 hs).1
    have hbad : ∀ i s, x.slaves[i]? = some s → s.name ≠ x.name ∧ ∀ j p, i = j + 1 → x.slaves[j]? = some p → Op.bytesLess p.name s.name = true := by
      intro i s hs
      have := h3 i s hs
      simp only [slvBad, Bool.or_eq_false_iff, beq_eq_false_iff_ne, ne_eq] at this
      refine ⟨this.1.2, ?_⟩
      rintro j p rfl hp
      have h5 := this.2
      have h6 : decide (((j + 1 : Nat) : Int) > 0) = true := by simp
      rw [h6, Nat.add_sub_cancel, List.getD_eq_getElem?_getD, hp] at h5
      simpa using h5
    have hrise := rise_all (f := fun i => (x.slaves.getD i slv0).name) (n := x.slaves.length) (fun j hj => by
      have a1 : x.slaves[j]? = some x.slaves[j] := List.getElem?_eq_getElem (by omega)
      have a2 : x.slaves[j + 1]? = some x.slaves[j + 1] := List.getElem?_eq_getElem hj
      have := (hbad (j + 1) _ a2).2 j _ rfl a1
      simpa [List.getD_eq_getElem?_getD, a1, a2] using this)
    rw [Bool.eq_false_iff, ne_eq, any_take]
    rintro ⟨j, hj, he⟩
    cases j with
    | zero =>
      have : x.name = s.name := by simpa [names] using he
      exact (hbad i s hs).1 this.symm
    | succ j =>
      obtain ⟨p, hp, hpe⟩ : ∃ p, x.slaves[j]? = some p ∧ p.name = s.name := by simpa [names] using he
      have := hrise i j (by omega) hi
      simp only [List.getD_eq_getElem?_getD, hp, hs, Option.getD_some, hpe, less_irrefl] at this
      cases this
theorem right_law (x : Alt) : rightP x = rightR x := by
  rw [Bool.eq_iff_iff]
  have hc := lns_core x
  have hn := sortedS_nodup (links x)
  have hs := slvAll x
  simp only [rightP, rightR, Bool.and_eq_true, Bool.not_eq_true', beq_iff_eq]
  rw [hc, hn]
  have hsl : slavesOk x = true ↔ (∀ i s, x.slaves[i]? = some s → slvBad x i s = false) ∧ x.slaves.length ≤ 64 := by
    simp only [slavesOk, Bool.and_eq_true, hs, decide_eq_true_eq]
    constructor <;> rintro ⟨a, b⟩ <;> exact ⟨a, by omega⟩
  have hch : choicesOk x = true ↔ chInner x = true ∧ x.choices.length ≥ 1 ∧ x.choices.length ≤ 64 := by
    simp only [choicesOk, chInner, Bool.and_eq_true, decide_eq_true_eq]
    constructor <;> rintro ⟨a, b, c⟩ <;> exact ⟨a, by omega, by omega⟩
  have hmb : manyBad x = false ↔ x.slaves.length ≤ 64 ∧ x.choices.length ≥ 1 ∧ x.choices.length ≤ 64 := by
    simp only [manyBad, Bool.or_eq_false_iff, decide_eq_false_iff_not]
    constructor
    · rintro ⟨⟨a, b⟩, c⟩; exact ⟨by omega, by omega, by omega⟩
    · rintro ⟨a, b, c⟩; exact ⟨⟨by omega, by omega⟩, by omega⟩
  rw [hsl, hch, hmb]
  constructor
  · rintro ⟨⟨⟨⟨⟨a, b⟩, c, d⟩, e, f, g⟩, h⟩, i⟩
    exact ⟨⟨⟨⟨d, f, g⟩, a, b, c, h⟩, e⟩, i⟩
  · rintro ⟨⟨⟨⟨d, f, g⟩, a, b, c, h⟩, e⟩, i⟩
    exact ⟨⟨⟨⟨⟨a, b⟩, c, d⟩, e, f, g⟩, h⟩, i⟩
end Go.Ag
namespace Go.Ag
open Go Go.Proofs
variable {G : Nat → Option (List V)}
attribute [local irreducible] aops qops Sat aop

theorem better_irrefl (a : Cho) : better a a = false := by simp [better, less_irrefl]
theorem better_trans {a b c : Cho} (h1 : better a b = true) (h2 : better b c = true) : better a c = true := by
  simp only [better, Bool.or_eq_true, Bool.and_eq_true, decide_eq_true_eq, beq_iff_eq] at *
  rcases h1 with h1 | ⟨h1, h3⟩ <;> rcases h2 with h2 | ⟨h2, h4⟩
  · left; omega
  · left; omega
  · left; omega
  · right; exact ⟨by omega, less_trans h3 h4⟩
theorem bestN_none (l : List Cho) : ∀ n i, i < n → better (l.getD i cho0) (l.getD (bestN l n).toNat cho0) = false
  | 0, i, h => by omega
  | n + 1, i, h => by
    unfold bestN
    split
    · rename_i hc
      rw [Int.toNat_natCast]
      by_cases e : i = n
      · subst e; exact better_irrefl _
      · have h1 := bestN_none l n i (by omega)
        rcases bestN_rng l n with ⟨h2, h3⟩ | ⟨k, h2, h3⟩
        · omega
        rw [h2] at hc h1
        simp only [Bool.or_eq_true, decide_eq_true_eq] at hc
        rcases hc with hc | hc
        · omega
        · cases hx : better (l.getD i cho0) (l.getD n cho0) with
          | false => rfl
          | true => rw [better_trans hx hc] at h1; exact h1
    · rename_i hc
      by_cases e : i = n
      · subst e
        simp only [Bool.or_eq_true, not_or] at hc
        simpa using hc.2
      · exact bestN_none l n i (by omega)

set_option maxRecDepth 20000 in
set_option maxHeartbeats 8000000 in
theorem spec_AltsBest (l : List Cho) (m : Int) (hG0 : G 0 = some [.int .i64 m]) (H : List Ob) (K : D → List Ob → Prop) (hK : K (.v (.bool true)) H) : ACalls Tryd.prog G 6 [.v (chos l)] H K := by
  refine ACalls.go Tryd.f6 _ 61 [2] Tryd.func6 rfl Tryd.ntmps6 (by kernel_rfl) rfl (by simp) (fun E hE hP hG hH => ?_)
  have hM : E.P.follows .mixedOrders = true := hP ▸ mixed
  subst hH
  simp only [args0]
  repeat (first | refine wa ?_ | refine wb rfl ?_ | refine wc rfl rfl hM ?_ | refine wd rfl hM ?_ | ((first | refine we rfl fun K hK => ?_ | refine wf rfl rfl fun K hK => ?_ | refine wg rfl rfl fun K hK => ?_ | refine wh rfl fun K hK => ?_); (simp only [lo, ld, ↓aop, ↓aCall, hP, hG, Nat.reduceLT, ↓reduceIte, Nat.reduceEqDiff, Nat.reduceAdd, Nat.reduceMul, Nat.reduceLeDiff, reduceCtorEq, D.cs, D.plain, fillD, chop, List.replicate, tk_3, ze_3, sz_3, tk_9, ze_9, sz_9, tk_44, ze_44, sz_44, tk_46, ze_46, sz_46, kn_46, tk_35, ze_35, sz_35]; repeat (with_reducible refine And.intro ?_ ?_; focus (first | decide | omega | (simp only [ln]; omega)))); try ((first | refine hK _ _ ?_ | refine hK _ ?_); clear hK K; simp only [lp])) | ((first | refine wi ?_ | refine wj ?_ | refine wk ?_ | refine wl ?_ | refine wm ?_ | refine wn ?_); simp only [lt, ↓reduceIte, Nat.reduceEqDiff]) | refine wo ?_)
  refine ACalls.ent (fun E' => Ent.weakArr E.H0.length (xs' := [(altV { name := [], link := [], manual := false, cur := [], slaves := [], choices := l }).map .v]) (by rw [hp_get0]; rfl) ?_) ?_
  · exact ⟨⟨D.le_refl _, D.le_refl _, D.le_refl _, D.le_refl _, D.le_nils 2, D.le_refl _, trivial⟩, trivial⟩
  rw [hp_set0]
  refine ACalls.pub E.H0.length [altV { name := [], link := [], manual := false, cur := [], slaves := [], choices := l }] (by rw [hp_get0]; rfl) (by simp) (by simp) (spec_FewA [{ name := [], link := [], manual := false, cur := [], slaves := [], choices := l }] (by simp) _ _ (fun b hb => hK _ _ ?_))
  clear hK K; simp only [lp]
  rw [hp_set0]
  repeat (first | refine wa ?_ | refine wb rfl ?_ | refine wc rfl rfl hM ?_ | refine wd rfl hM ?_ | ((first | refine we rfl fun K hK => ?_ | refine wf rfl rfl fun K hK => ?_ | refine wg rfl rfl fun K hK => ?_ | refine wh rfl fun K hK => ?_); (simp only [lo, ld, ↓aop, ↓aCall, hP, hG, Nat.reduceLT, ↓reduceIte, Nat.reduceEqDiff, Nat.reduceAdd, Nat.reduceMul, Nat.reduceLeDiff, reduceCtorEq, D.cs, D.plain, fillD, chop, List.replicate]; repeat (with_reducible refine And.intro ?_ ?_; focus (first | decide | omega | (simp only [ln]; omega)))); try ((first | refine hK _ _ ?_ | refine hK _ ?_); clear hK K; simp only [lp])) | ((first | refine wi ?_ | refine wj ?_ | refine wk ?_ | refine wl ?_ | refine wm ?_ | refine wn ?_); simp only [lt, ↓reduceIte, Nat.reduceEqDiff]) | refine wo ?_)
  refine sat_cond rfl (fun hc => ?_) (fun hc => ?_)
  · repeat (first | refine wa ?_ | refine wb rfl ?_ | refine wc rfl rfl hM ?_ | refine wd rfl hM ?_ | ((first | refine we rfl fun K hK => ?_ | refine wf rfl rfl fun K hK => ?_ | refine wg rfl rfl fun K hK => ?_ | refine wh rfl fun K hK => ?_); (simp only [lo, ld, ↓aop, ↓aCall, hP, hG, Nat.reduceLT, ↓reduceIte, Nat.reduceEqDiff, Nat.reduceAdd, Nat.reduceMul, Nat.reduceLeDiff, reduceCtorEq, D.cs, D.plain, fillD, chop, List.replicate]; repeat (with_reducible refine And.intro ?_ ?_; focus (first | decide | omega | (simp only [ln]; omega)))); try ((first | refine hK _ _ ?_ | refine hK _ ?_); clear hK K; simp only [lp])) | ((first | refine wi ?_ | refine wj ?_ | refine wk ?_ | refine wl ?_ | refine wm ?_ | refine wn ?_); simp only [lt, ↓reduceIte, Nat.reduceEqDiff]) | refine wo ?_)
    refine spec_awake11 m hG0 _ _ (hK _ _ ?_)
    clear hK K; simp only [lp]
    repeat (first | refine wa ?_ | refine wb rfl ?_ | refine wc rfl rfl hM ?_ | refine wd rfl hM ?_ | ((first | refine we rfl fun K hK => ?_ | refine wf rfl rfl fun K hK => ?_ | refine wg rfl rfl fun K hK => ?_ | refine wh rfl fun K hK => ?_); (simp only [lo, ld, ↓aop, ↓aCall, hP, hG, Nat.reduceLT, ↓reduceIte, Nat.reduceEqDiff, Nat.reduceAdd, Nat.reduceMul, Nat.reduceLeDiff, reduceCtorEq, D.cs, D.plain, fillD, chop, List.replicate]; repeat (with_reducible refine And.intro ?_ ?_; focus (first | decide | omega | (simp only [ln]; omega)))); try ((first | refine hK _ _ ?_ | refine hK _ ?_); clear hK K; simp only [lp])) | ((first | refine wi ?_ | refine wj ?_ | refine wk ?_ | refine wl ?_ | refine wm ?_ | refine wn ?_); simp only [lt, ↓reduceIte, Nat.reduceEqDiff]) | refine wo ?_)
    exact Fin.gc _ hE (by decide) rfl trivial hK
  have hf := (hb (by rw [Bool.not_eq_false'] at hc; exact hc)).2 _ (List.mem_singleton.2 rfl)
  have hl : l.length ≤ 70 := hf.2.2.2.2.1
  repeat (first | refine wa ?_ | refine wb rfl ?_ | refine wc rfl rfl hM ?_ | refine wd rfl hM ?_ | ((first | refine we rfl fun K hK => ?_ | refine wf rfl rfl fun K hK => ?_ | refine wg rfl rfl fun K hK => ?_ | refine wh rfl fun K hK => ?_); (simp only [lo, ld, ↓aop, ↓aCall, hP, hG, Nat.reduceLT, ↓reduceIte, Nat.reduceEqDiff, Nat.reduceAdd, Nat.reduceMul, Nat.reduceLeDiff, reduceCtorEq, D.cs, D.plain, fillD, chop, List.replicate]; repeat (with_reducible refine And.intro ?_ ?_; focus (first | decide | omega | (simp only [ln]; omega)))); try ((first | refine hK _ _ ?_ | refine hK _ ?_); clear hK K; simp only [lp])) | ((first | refine wi ?_ | refine wj ?_ | refine wk ?_ | refine wl ?_ | refine wm ?_ | refine wn ?_); simp only [lt, ↓reduceIte, Nat.reduceEqDiff]) | refine wo ?_)
  refine spec_Best l (by omega) _ _ (hK _ _ ?_)
  clear hK K; simp only [lp]
  repeat (first | refine wa ?_ | refine wb rfl ?_ | refine wc rfl rfl hM ?_ | refine wd rfl hM ?_ | ((first | refine we rfl fun K hK => ?_ | refine wf rfl rfl fun K hK => ?_ | refine wg rfl rfl fun K hK => ?_ | refine wh rfl fun K hK => ?_); (simp only [lo, ld, ↓aop, ↓aCall, hP, hG, Nat.reduceLT, ↓reduceIte, Nat.reduceEqDiff, Nat.reduceAdd, Nat.reduceMul, Nat.reduceLeDiff, reduceCtorEq, D.cs, D.plain, fillD, chop, List.replicate]; repeat (with_reducible refine And.intro ?_ ?_; focus (first | decide | omega | (simp only [ln]; omega)))); try ((first | refine hK _ _ ?_ | refine hK _ ?_); clear hK K; simp only [lp])) | ((first | refine wi ?_ | refine wj ?_ | refine wk ?_ | refine wl ?_ | refine wm ?_ | refine wn ?_); simp only [lt, ↓reduceIte, Nat.reduceEqDiff]) | refine wo ?_)
  refine spec_rBest l (by omega) _ _ (hK _ _ ?_)
  clear hK K; simp only [lp]
  repeat (first | refine wa ?_ | refine wb rfl ?_ | refine wc rfl rfl hM ?_ | refine wd rfl hM ?_ | ((first | refine we rfl fun K hK => ?_ | refine wf rfl rfl fun K hK => ?_ | refine wg rfl rfl fun K hK => ?_ | refine wh rfl fun K hK => ?_); (simp only [lo, ld, ↓aop, ↓aCall, hP, hG, Nat.reduceLT, ↓reduceIte, Nat.reduceEqDiff, Nat.reduceAdd, Nat.reduceMul, Nat.reduceLeDiff, reduceCtorEq, D.cs, D.plain, fillD, chop, List.replicate, tk_3, ze_3, sz_3, bne_self_eq_false]; repeat (with_reducible refine And.intro ?_ ?_; focus (first | decide | omega | (simp only [ln]; omega)))); try ((first | refine hK _ _ ?_ | refine hK _ ?_); clear hK K; simp only [lp])) | ((first | refine wi ?_ | refine wj ?_ | refine wk ?_ | refine wl ?_ | refine wm ?_ | refine wn ?_); simp only [lt, ↓reduceIte, Nat.reduceEqDiff]) | refine wo ?_)
  refine sat_cond rfl (fun hd => ?_) (fun hd => ?_)
  · exact absurd hd (by decide)
  repeat (first | refine wa ?_ | refine wb rfl ?_ | refine wc rfl rfl hM ?_ | refine wd rfl hM ?_ | ((first | refine we rfl fun K hK => ?_ | refine wf rfl rfl fun K hK => ?_ | refine wg rfl rfl fun K hK => ?_ | refine wh rfl fun K hK => ?_); (simp only [lo, ld, ↓aop, ↓aCall, hP, hG, Nat.reduceLT, ↓reduceIte, Nat.reduceEqDiff, Nat.reduceAdd, Nat.reduceMul, Nat.reduceLeDiff, reduceCtorEq, D.cs, D.plain, fillD, chop, List.replicate, tk_3, ze_3, sz_3]; repeat (with_reducible refine And.intro ?_ ?_; focus (first | decide | omega | (simp only [ln]; omega)))); try ((first | refine hK _ _ ?_ | refine hK _ ?_); clear hK K; simp only [lp])) | ((first | refine wi ?_ | refine wj ?_ | refine wk ?_ | refine wl ?_ | refine wm ?_ | refine wn ?_); simp only [lt, ↓reduceIte, Nat.reduceEqDiff]) | refine wo ?_)
  refine sat_loop_ent (fun n ts H => ∃ (i : Nat), n = l.length - i ∧ i ≤ l.length ∧
    ts = fr 61 [(4, .v (.int .i64 i)), (3, .v (.int .i64 (best l))), (2, .v (.bool false)), (0, .v (chos l))] ∧ H = E.H0) (l.length) (Ent.round0 hE ?_ ?_) ⟨0, rfl, Nat.zero_le _, rfl, rfl⟩ ?_
  · simp only [le, ↓reduceIte, Nat.reduceEqDiff, and_true]; repeat' (first | exact trivial | exact D.le_refl _ | exact D.le_any _ | with_reducible refine And.intro ?_ ?_)
  · simp [ltAll, ltObs, Ob.lt, D.lt, D.ltL, or_imp, forall_and]
  rintro n ts H ⟨i, rfl, hi, rfl, rfl⟩
  repeat (first | refine wa ?_ | refine wb rfl ?_ | refine wc rfl rfl hM ?_ | refine wd rfl hM ?_ | ((first | refine we rfl fun K hK => ?_ | refine wf rfl rfl fun K hK => ?_ | refine wg rfl rfl fun K hK => ?_ | refine wh rfl fun K hK => ?_); (simp only [lo, ld, ↓aop, ↓aCall, hP, hG, Nat.reduceLT, ↓reduceIte, Nat.reduceEqDiff, Nat.reduceAdd, Nat.reduceMul, Nat.reduceLeDiff, reduceCtorEq, D.cs, D.plain, fillD, chop, List.replicate, chos, tk_3, ze_3, sz_3, tk_44, ze_44, sz_44]; repeat (with_reducible refine And.intro ?_ ?_; focus (first | decide | omega | (simp only [ln]; omega)))); try ((first | refine hK _ _ ?_ | refine hK _ ?_); clear hK K; simp only [lp])) | ((first | refine wi ?_ | refine wj ?_ | refine wk ?_ | refine wl ?_ | refine wm ?_ | refine wn ?_); simp only [lt, ↓reduceIte, Nat.reduceEqDiff]) | refine wo ?_)
  refine sat_cond rfl (fun hc => ?_) (fun hc => ?_)
  · simp at hc
    obtain ⟨c, hx⟩ : ∃ s, l[i]? = some s := ⟨_, List.getElem?_eq_getElem hc⟩
    have hw := wrap_succ (i := i) (by omega)
    obtain ⟨k, hk, hkl⟩ : ∃ k : Nat, best l = k ∧ k < l.length := by
      rcases bestN_rng l l.length with ⟨_, h2⟩ | h
      · omega
      · exact h
    obtain ⟨d, hy⟩ : ∃ s, l[k]? = some s := ⟨_, List.getElem?_eq_getElem hkl⟩
    have hnb := bestN_none l l.length i hc
    have hk2 : bestN l l.length = k := hk
    rw [hk2, Int.toNat_natCast, List.getD_eq_getElem?_getD, List.getD_eq_getElem?_getD, hx, hy] at hnb
    simp only [better, Option.getD_some, Bool.or_eq_false_iff] at hnb
    obtain ⟨b1, b2⟩ := hnb
    repeat (first | refine wa ?_ | refine wb rfl ?_ | refine wc rfl rfl hM ?_ | refine wd rfl hM ?_ | ((first | refine we rfl fun K hK => ?_ | refine wf rfl rfl fun K hK => ?_ | refine wg rfl rfl fun K hK => ?_ | refine wh rfl fun K hK => ?_); (simp only [lo, ld, ↓aop, ↓aCall, hP, hG, Nat.reduceLT, ↓reduceIte, Nat.reduceEqDiff, Nat.reduceAdd, Nat.reduceMul, Nat.reduceLeDiff, reduceCtorEq, D.cs, D.plain, fillD, chop, List.replicate]; repeat (with_reducible refine And.intro ?_ ?_; focus (first | decide | omega | (simp only [ln]; omega)))); try ((first | refine hK _ _ ?_ | refine hK _ ?_); clear hK K; simp only [lp])) | ((first | refine wi ?_ | refine wj ?_ | refine wk ?_ | refine wl ?_ | refine wm ?_ | refine wn ?_); simp only [lt, ↓reduceIte, Nat.reduceEqDiff]) | refine wo ?_)
    refine sat_thru (fr 61 [(59, .v (.bool false)), (4, .v (.int .i64 i)), (3, .v (.int .i64 k)), (2, .v (.bool false)), (0, .v (chos l))]) E.H0 ?_ ?_
    · rw [hk]
      (first | refine wr ?_ | refine wp rfl hM ?_ | refine wq hM ?_); repeat' (first | ((first | refine wx ?_ | refine wy ?_ | refine wz ?_); (simp only [lo, ld, ↓aop, ↓aCall, hP, hG, Nat.reduceLT, ↓reduceIte, Nat.reduceEqDiff, Nat.reduceAdd, Nat.reduceMul, Nat.reduceLeDiff, reduceCtorEq, D.cs, D.plain, fillD, chop, List.replicate, chos, tk_3, ze_3, sz_3, tk_9, ze_9, sz_9, tk_44, ze_44, sz_44, tk_52, ze_52, sz_52, kn_52, hc, hx, hkl, hy, b1]; repeat (with_reducible refine And.intro ?_ ?_; focus (first | decide | omega | (simp only [ln]; omega)))); try ((first | refine hK _ _ ?_ | refine hK _ ?_); clear hK K; simp only [lp])) | refine we rfl fun K hK => ?_ | refine wf rfl rfl fun K hK => ?_ | refine wg rfl rfl fun K hK => ?_ | refine wh rfl fun K hK => ?_ | ((first | refine Xg rfl rfl (by decide) ?_ fun K hK => ?_ | refine Yg rfl rfl (by decide) ?_ fun K hK => ?_ | refine Zg rfl rfl rfl (by decide) ?_ fun K hK => ?_); (focus (simp only [look_cons, ↓reduceIte, Nat.reduceEqDiff, Bool.not_true, Bool.not_false]; done))) | ((first | refine Xn rfl rfl (by decide) ?_ ?_ | refine Yn rfl rfl (by decide) ?_ ?_ | refine Zn rfl rfl rfl (by decide) ?_ ?_); (focus (simp only [look_cons, ↓reduceIte, Nat.reduceEqDiff, Bool.not_true, Bool.not_false]; done)); simp only [lp]) | ((first | refine Xo rfl rfl (by decide) ?_ ?_ | refine Yo rfl rfl (by decide) ?_ ?_ | refine Zo rfl rfl rfl (by decide) ?_ ?_); (focus (simp only [look_cons, ↓reduceIte, Nat.reduceEqDiff, Bool.not_true, Bool.not_false]; done)); simp only [lp]) | ((first | refine Xs rfl rfl (by decide) rfl (fun h K hK => ?_) fun h => ?_ | refine Ys rfl rfl (by decide) rfl (fun h K hK => ?_) fun h => ?_ | refine Zs rfl rfl rfl (by decide) rfl (fun h K hK => ?_) fun h => ?_); rotate_left; (focus (simp only [Bool.not_true, Bool.not_false, lp])); rotate_left) | ((first | refine wi ?_ | refine wj ?_ | refine wk ?_); simp only [lt, ↓reduceIte, Nat.reduceEqDiff]))
      all_goals refine .weakFr ?_
      all_goals simp only [le, ↓reduceIte, Nat.reduceEqDiff, and_true]; repeat' (first | exact trivial | exact D.le_refl _ | exact D.le_any _ | with_reducible refine And.intro ?_ ?_)
      refine D.le_eq (congrArg D.v (congrArg V.bool ?_))
      simp_all
    refine sat_cond rfl (fun hb => ?_) (fun hb => ?_)
    · exact absurd hb (by decide)
    repeat (first | refine wa ?_ | refine wb rfl ?_ | refine wc rfl rfl hM ?_ | refine wd rfl hM ?_ | ((first | refine we rfl fun K hK => ?_ | refine wf rfl rfl fun K hK => ?_ | refine wg rfl rfl fun K hK => ?_ | refine wh rfl fun K hK => ?_); (simp only [lo, ld, ↓aop, ↓aCall, hP, hG, Nat.reduceLT, ↓reduceIte, Nat.reduceEqDiff, Nat.reduceAdd, Nat.reduceMul, Nat.reduceLeDiff, reduceCtorEq, D.cs, D.plain, fillD, chop, List.replicate, tk_3, ze_3, sz_3, hw]; repeat (with_reducible refine And.intro ?_ ?_; focus (first | decide | omega | (simp only [ln]; omega)))); try ((first | refine hK _ _ ?_ | refine hK _ ?_); clear hK K; simp only [lp])) | ((first | refine wi ?_ | refine wj ?_ | refine wk ?_ | refine wl ?_ | refine wm ?_ | refine wn ?_); simp only [lt, ↓reduceIte, Nat.reduceEqDiff]) | refine wo ?_)
    refine ⟨l.length - (i + 1), _, _, by omega, .weakFr ?_, i + 1, rfl, by omega, rfl, rfl⟩
    rw [hk]
    simp only [le, ↓reduceIte, Nat.reduceEqDiff, and_true]; repeat' (first | exact trivial | exact D.le_refl _ | exact D.le_any _ | with_reducible refine And.intro ?_ ?_)
  repeat (first | refine wa ?_ | refine wb rfl ?_ | refine wc rfl rfl hM ?_ | refine wd rfl hM ?_ | ((first | refine we rfl fun K hK => ?_ | refine wf rfl rfl fun K hK => ?_ | refine wg rfl rfl fun K hK => ?_ | refine wh rfl fun K hK => ?_); (simp only [lo, ld, ↓aop, ↓aCall, hP, hG, Nat.reduceLT, ↓reduceIte, Nat.reduceEqDiff, Nat.reduceAdd, Nat.reduceMul, Nat.reduceLeDiff, reduceCtorEq, D.cs, D.plain, fillD, chop, List.replicate]; repeat (with_reducible refine And.intro ?_ ?_; focus (first | decide | omega | (simp only [ln]; omega)))); try ((first | refine hK _ _ ?_ | refine hK _ ?_); clear hK K; simp only [lp])) | ((first | refine wi ?_ | refine wj ?_ | refine wk ?_ | refine wl ?_ | refine wm ?_ | refine wn ?_); simp only [lt, ↓reduceIte, Nat.reduceEqDiff]) | refine wo ?_)
  refine spec_awake11 m hG0 _ _ (hK _ _ ?_)
  clear hK K; simp only [lp]
  repeat (first | refine wa ?_ | refine wb rfl ?_ | refine wc rfl rfl hM ?_ | refine wd rfl hM ?_ | ((first | refine we rfl fun K hK => ?_ | refine wf rfl rfl fun K hK => ?_ | refine wg rfl rfl fun K hK => ?_ | refine wh rfl fun K hK => ?_); (simp only [lo, ld, ↓aop, ↓aCall, hP, hG, Nat.reduceLT, ↓reduceIte, Nat.reduceEqDiff, Nat.reduceAdd, Nat.reduceMul, Nat.reduceLeDiff, reduceCtorEq, D.cs, D.plain, fillD, chop, List.replicate]; repeat (with_reducible refine And.intro ?_ ?_; focus (first | decide | omega | (simp only [ln]; omega)))); try ((first | refine hK _ _ ?_ | refine hK _ ?_); clear hK K; simp only [lp])) | ((first | refine wi ?_ | refine wj ?_ | refine wk ?_ | refine wl ?_ | refine wm ?_ | refine wn ?_); simp only [lt, ↓reduceIte, Nat.reduceEqDiff]) | refine wo ?_)
  exact Fin.is _ (by decide) rfl hK
end Go.Ag
