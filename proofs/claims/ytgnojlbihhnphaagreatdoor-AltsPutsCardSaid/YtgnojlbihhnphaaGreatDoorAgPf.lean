import Derived.Test.YtgnojlbihhnphaaGreatDoorAgPe
import Derived.Sort.OwnSorted
import Derived.Lib.SlicesCompact
import Derived.Lib.CutLaws
import Derived.WalkSmall
set_option linter.all false
namespace Go.Ag
open Go Go.Proofs
variable {G : Nat → Option (List V)}
attribute [local irreducible] aops qops Sat aop

def choBad (x : Alt) (i : Nat) (c : Cho) : Bool := !placeB c.path || decide (c.prio < -2147483648) || decide (c.prio > 2147483647) || !(c.slaves.length == x.slaves.length) || (decide ((i : Int) > 0) && !Op.bytesLess (x.choices.getD (i - 1) cho0).path c.path)
def subBad (t : Str) : Bool := !(t == []) && !placeB t
def choicesOk (x : Alt) : Bool := (List.range x.choices.length).all (fun i => !(choBad x i (x.choices.getD i cho0) || (x.choices.getD i cho0).slaves.any subBad)) && (decide ((x.choices.length : Int) ≥ 1) && decide ((x.choices.length : Int) ≤ 64))

set_option maxHeartbeats 16000000 in
theorem spec_choices (x : Alt) (m : Int) (hl : x.choices.length ≤ 1099511627) (hs : ∀ c ∈ x.choices, c.path.length < 4294967281 ∧ c.slaves.length ≤ 1099511627 ∧ ∀ t ∈ c.slaves, t.length < 4294967281) (hG0 : G 0 = some [.int .i64 m]) (H : List Ob) (K : D → List Ob → Prop) (hK : K (.v (.bool (choicesOk x))) H) : ACalls Tryz.prog G 58 [altd x] H K := by
  refine ACalls.go Tryz.f58 _ 80 [2] Tryz.func58 rfl Tryz.ntmps58 (by kernel_rfl) rfl (by simp) (fun E hE hP hG hH => ?_)
  have hM : E.P.follows .mixedOrders = true := hP ▸ mixed
  subst hH
  simp only [args0, altd]
  repeat (first | refine wa ?_ | refine wb rfl ?_ | refine wc rfl rfl hM ?_ | refine wd rfl hM ?_ | ((first | refine we rfl fun K hK => ?_ | refine wf rfl rfl fun K hK => ?_ | refine wg rfl rfl fun K hK => ?_ | refine wh rfl fun K hK => ?_); (simp only [lo, ld, ↓aop, ↓aCall, hP, hG, Nat.reduceLT, ↓reduceIte, Nat.reduceEqDiff, Nat.reduceAdd, Nat.reduceMul, Nat.reduceLeDiff, reduceCtorEq, D.cs, D.plain, fillD, chop, List.replicate, chos, tk_3, ze_3, sz_3, tk_9, ze_9, sz_9, tk_26, ze_26, sz_26, kn_26, tk_24, ze_24, sz_24, tk_46, ze_46, sz_46, kn_46]; repeat (with_reducible refine And.intro ?_ ?_; focus (first | decide | omega | (simp only [ln]; omega)))); try ((first | refine hK _ _ ?_ | refine hK _ ?_); clear hK K; simp only [lp])) | ((first | refine wi ?_ | refine wj ?_ | refine wk ?_ | refine wl ?_ | refine wm ?_ | refine wn ?_); simp only [lt, ↓reduceIte, Nat.reduceEqDiff]) | refine wo ?_)
  refine sat_loop_ent (fun n ts H => ∃ (i : Nat), n = x.choices.length - i ∧ i ≤ x.choices.length ∧ (∀ j, j < i → (choBad x j (x.choices.getD j cho0) || (x.choices.getD j cho0).slaves.any subBad) = false) ∧
    ts = fr 80 [(10, .v (.int .i64 i)), (9, .v (.int .i64 x.choices.length)), (8, .v (chos x.choices)), (2, .v (.bool false)), (1, .ptr E.H0.length 0)] ∧ H = E.H0 ++ [altB x]) (x.choices.length) (.weakFr ?_) ⟨0, rfl, Nat.zero_le _, by simp, rfl, rfl⟩ ?_
  · simp only [le, ↓reduceIte, Nat.reduceEqDiff, and_true]; repeat' (first | exact trivial | exact D.le_refl _ | exact D.le_any _ | with_reducible refine And.intro ?_ ?_)
  rintro n ts H ⟨i, rfl, hi, hall, rfl, rfl⟩
  repeat (first | refine wa ?_ | refine wb rfl ?_ | refine wc rfl rfl hM ?_ | refine wd rfl hM ?_ | ((first | refine we rfl fun K hK => ?_ | refine wf rfl rfl fun K hK => ?_ | refine wg rfl rfl fun K hK => ?_ | refine wh rfl fun K hK => ?_); (simp only [lo, ld, ↓aop, ↓aCall, hP, hG, Nat.reduceLT, ↓reduceIte, Nat.reduceEqDiff, Nat.reduceAdd, Nat.reduceMul, Nat.reduceLeDiff, reduceCtorEq, D.cs, D.plain, fillD, chop, List.replicate, chos, tk_3, ze_3, sz_3, tk_9, ze_9, sz_9, tk_26, ze_26, sz_26, kn_26, tk_24, ze_24, sz_24, tk_46, ze_46, sz_46, kn_46]; repeat (with_reducible refine And.intro ?_ ?_; focus (first | decide | omega | (simp only [ln]; omega)))); try ((first | refine hK _ _ ?_ | refine hK _ ?_); clear hK K; simp only [lp])) | ((first | refine wi ?_ | refine wj ?_ | refine wk ?_ | refine wl ?_ | refine wm ?_ | refine wn ?_); simp only [lt, ↓reduceIte, Nat.reduceEqDiff]) | refine wo ?_)
  refine sat_cond rfl (fun hc => ?_) (fun hc => ?_)
  · simp at hc
    obtain ⟨s, hx⟩ : ∃ s, x.choices[i]? = some s := ⟨_, List.getElem?_eq_getElem hc⟩
    have hw := wrap_succ (i := i) (by omega)
    have gx : x.choices.getD i cho0 = s := by simp [List.getD_eq_getElem?_getD, hx]
    obtain ⟨hs1, hs2, hs3⟩ := hs s (List.mem_of_getElem? hx)
    repeat (first | refine wa ?_ | refine wb rfl ?_ | refine wc rfl rfl hM ?_ | refine wd rfl hM ?_ | ((first | refine we rfl fun K hK => ?_ | refine wf rfl rfl fun K hK => ?_ | refine wg rfl rfl fun K hK => ?_ | refine wh rfl fun K hK => ?_); (simp only [lo, ld, ↓aop, ↓aCall, hP, hG, Nat.reduceLT, ↓reduceIte, Nat.reduceEqDiff, Nat.reduceAdd, Nat.reduceMul, Nat.reduceLeDiff, reduceCtorEq, D.cs, D.plain, fillD, chop, List.replicate, chos, tk_3, ze_3, sz_3, tk_9, ze_9, sz_9, tk_26, ze_26, sz_26, kn_26, tk_24, ze_24, sz_24, tk_46, ze_46, sz_46, kn_46, hc, hx]; repeat (with_reducible refine And.intro ?_ ?_; focus (first | decide | omega | (simp only [ln]; omega)))); try ((first | refine hK _ _ ?_ | refine hK _ ?_); clear hK K; simp only [lp])) | ((first | refine wi ?_ | refine wj ?_ | refine wk ?_ | refine wl ?_ | refine wm ?_ | refine wn ?_); simp only [lt, ↓reduceIte, Nat.reduceEqDiff]) | refine wo ?_)
    refine sat_thru (fr 80 [(53, .v (.bool (choBad x i s))), (4, .ptr (E.H0.length + 1) 0), (10, .v (.int .i64 i)), (9, .v (.int .i64 x.choices.length)), (8, .v (chos x.choices)), (2, .v (.bool false)), (1, .ptr E.H0.length 0)]) (E.H0 ++ [altB x, .box ((choR s).map .v)]) ?_ ?_
    · rcases i with _ | j
      · (first | refine wr ?_ | refine wp rfl hM ?_ | refine wq hM ?_); repeat' (first | ((first | refine wx ?_ | refine wy ?_ | refine wz ?_); (simp only [lo, ld, ↓aop, ↓aCall, hP, hG, Nat.reduceLT, ↓reduceIte, Nat.reduceEqDiff, Nat.reduceAdd, Nat.reduceMul, Nat.reduceLeDiff, reduceCtorEq, D.cs, D.plain, fillD, chop, List.replicate, altB, altV, slvs, chos, strs, tk_3, ze_3, sz_3, tk_4, ze_4, sz_4, tk_9, ze_9, sz_9, tk_26, ze_26, sz_26, kn_26, tk_23, ze_23, sz_23, tk_24, ze_24, sz_24, tk_44, ze_44, sz_44, tk_46, ze_46, sz_46, kn_46, gz]; repeat (with_reducible refine And.intro ?_ ?_; focus (first | decide | omega | (simp only [ln]; omega)))); try ((first | refine hK _ _ ?_ | refine hK _ ?_); clear hK K; simp only [lp])) | refine we rfl fun K hK => ?_ | refine wf rfl rfl fun K hK => ?_ | refine wg rfl rfl fun K hK => ?_ | refine wh rfl fun K hK => ?_ | ((first | refine Xg rfl rfl (by decide) ?_ fun K hK => ?_ | refine Yg rfl rfl (by decide) ?_ fun K hK => ?_ | refine Zg rfl rfl rfl (by decide) ?_ fun K hK => ?_); (focus (simp only [look_cons, ↓reduceIte, Nat.reduceEqDiff, Bool.not_true, Bool.not_false]; done))) | ((first | refine Xn rfl rfl (by decide) ?_ ?_ | refine Yn rfl rfl (by decide) ?_ ?_ | refine Zn rfl rfl rfl (by decide) ?_ ?_); (focus (simp only [look_cons, ↓reduceIte, Nat.reduceEqDiff, Bool.not_true, Bool.not_false]; done)); simp only [lp]) | ((first | refine Xo rfl rfl (by decide) ?_ ?_ | refine Yo rfl rfl (by decide) ?_ ?_ | refine Zo rfl rfl rfl (by decide) ?_ ?_); (focus (simp only [look_cons, ↓reduceIte, Nat.reduceEqDiff, Bool.not_true, Bool.not_false]; done)); simp only [lp]) | ((first | refine Xs rfl rfl (by decide) rfl (fun h K hK => ?_) fun h => ?_ | refine Ys rfl rfl (by decide) rfl (fun h K hK => ?_) fun h => ?_ | refine Zs rfl rfl rfl (by decide) rfl (fun h K hK => ?_) fun h => ?_); rotate_left; (focus (simp only [Bool.not_true, Bool.not_false, lp])); rotate_left) | ((first | refine wi ?_ | refine wj ?_ | refine wk ?_); simp only [lt, ↓reduceIte, Nat.reduceEqDiff]))
        refine ⟨_, spec_place _ m hs1 hG0 _ _ ⟨rfl, rfl⟩, hK _ ?_⟩
        clear hK K; simp only [lp]
        repeat' (first | ((first | refine wx ?_ | refine wy ?_ | refine wz ?_); (simp only [lo, ld, ↓aop, ↓aCall, hP, hG, Nat.reduceLT, ↓reduceIte, Nat.reduceEqDiff, Nat.reduceAdd, Nat.reduceMul, Nat.reduceLeDiff, reduceCtorEq, D.cs, D.plain, fillD, chop, List.replicate, altB, altV, slvs, chos, strs, tk_3, ze_3, sz_3, tk_4, ze_4, sz_4, tk_9, ze_9, sz_9, tk_26, ze_26, sz_26, kn_26, tk_23, ze_23, sz_23, tk_24, ze_24, sz_24, tk_44, ze_44, sz_44, tk_46, ze_46, sz_46, kn_46, gz]; repeat (with_reducible refine And.intro ?_ ?_; focus (first | decide | omega | (simp only [ln]; omega)))); try ((first | refine hK _ _ ?_ | refine hK _ ?_); clear hK K; simp only [lp])) | refine we rfl fun K hK => ?_ | refine wf rfl rfl fun K hK => ?_ | refine wg rfl rfl fun K hK => ?_ | refine wh rfl fun K hK => ?_ | ((first | refine Xg rfl rfl (by decide) ?_ fun K hK => ?_ | refine Yg rfl rfl (by decide) ?_ fun K hK => ?_ | refine Zg rfl rfl rfl (by decide) ?_ fun K hK => ?_); (focus (simp only [look_cons, ↓reduceIte, Nat.reduceEqDiff, Bool.not_true, Bool.not_false]; done))) | ((first | refine Xn rfl rfl (by decide) ?_ ?_ | refine Yn rfl rfl (by decide) ?_ ?_ | refine Zn rfl rfl rfl (by decide) ?_ ?_); (focus (simp only [look_cons, ↓reduceIte, Nat.reduceEqDiff, Bool.not_true, Bool.not_false]; done)); simp only [lp]) | ((first | refine Xo rfl rfl (by decide) ?_ ?_ | refine Yo rfl rfl (by decide) ?_ ?_ | refine Zo rfl rfl rfl (by decide) ?_ ?_); (focus (simp only [look_cons, ↓reduceIte, Nat.reduceEqDiff, Bool.not_true, Bool.not_false]; done)); simp only [lp]) | ((first | refine Xs rfl rfl (by decide) rfl (fun h K hK => ?_) fun h => ?_ | refine Ys rfl rfl (by decide) rfl (fun h K hK => ?_) fun h => ?_ | refine Zs rfl rfl rfl (by decide) rfl (fun h K hK => ?_) fun h => ?_); rotate_left; (focus (simp only [Bool.not_true, Bool.not_false, lp])); rotate_left) | ((first | refine wi ?_ | refine wj ?_ | refine wk ?_); simp only [lt, ↓reduceIte, Nat.reduceEqDiff]))
        all_goals refine .weakFr ?_
        all_goals simp only [le, ↓reduceIte, Nat.reduceEqDiff, and_true]; repeat' (first | exact trivial | exact D.le_refl _ | exact D.le_any _ | with_reducible refine And.intro ?_ ?_)
        all_goals clear hall
        all_goals refine D.le_eq (congrArg D.v (congrArg V.bool ?_)); (try simp only [Bool.not_eq_eq_eq_not, Bool.not_true, Bool.not_false] at *); simp only [*, List.getD_eq_getElem?_getD, Bool.and_true, Bool.true_and, Bool.and_false, Bool.false_and, Bool.or_true, Bool.true_or, Bool.or_false, Bool.false_or, Bool.not_true, Bool.not_false, Bool.not_not, choBad, gz]
      · obtain ⟨p, hp⟩ : ∃ p, x.choices[j]? = some p := ⟨_, List.getElem?_eq_getElem (by omega)⟩
        have hj : j < x.choices.length := by omega
        have gp : x.choices.getD j cho0 = p := by simp [List.getD_eq_getElem?_getD, hp]
        have hwj := wpred j (by omega)
        (first | refine wr ?_ | refine wp rfl hM ?_ | refine wq hM ?_); repeat' (first | ((first | refine wx ?_ | refine wy ?_ | refine wz ?_); (simp only [lo, ld, ↓aop, ↓aCall, hP, hG, Nat.reduceLT, ↓reduceIte, Nat.reduceEqDiff, Nat.reduceAdd, Nat.reduceMul, Nat.reduceLeDiff, reduceCtorEq, D.cs, D.plain, fillD, chop, List.replicate, altB, altV, slvs, chos, strs, tk_3, ze_3, sz_3, tk_4, ze_4, sz_4, tk_9, ze_9, sz_9, tk_26, ze_26, sz_26, kn_26, tk_23, ze_23, sz_23, tk_24, ze_24, sz_24, tk_44, ze_44, sz_44, tk_46, ze_46, sz_46, kn_46, gs, hwj, hp, hj]; repeat (with_reducible refine And.intro ?_ ?_; focus (first | decide | omega | (simp only [ln]; omega)))); try ((first | refine hK _ _ ?_ | refine hK _ ?_); clear hK K; simp only [lp])) | refine we rfl fun K hK => ?_ | refine wf rfl rfl fun K hK => ?_ | refine wg rfl rfl fun K hK => ?_ | refine wh rfl fun K hK => ?_ | ((first | refine Xg rfl rfl (by decide) ?_ fun K hK => ?_ | refine Yg rfl rfl (by decide) ?_ fun K hK => ?_ | refine Zg rfl rfl rfl (by decide) ?_ fun K hK => ?_); (focus (simp only [look_cons, ↓reduceIte, Nat.reduceEqDiff, Bool.not_true, Bool.not_false]; done))) | ((first | refine Xn rfl rfl (by decide) ?_ ?_ | refine Yn rfl rfl (by decide) ?_ ?_ | refine Zn rfl rfl rfl (by decide) ?_ ?_); (focus (simp only [look_cons, ↓reduceIte, Nat.reduceEqDiff, Bool.not_true, Bool.not_false]; done)); simp only [lp]) | ((first | refine Xo rfl rfl (by decide) ?_ ?_ | refine Yo rfl rfl (by decide) ?_ ?_ | refine Zo rfl rfl rfl (by decide) ?_ ?_); (focus (simp only [look_cons, ↓reduceIte, Nat.reduceEqDiff, Bool.not_true, Bool.not_false]; done)); simp only [lp]) | ((first | refine Xs rfl rfl (by decide) rfl (fun h K hK => ?_) fun h => ?_ | refine Ys rfl rfl (by decide) rfl (fun h K hK => ?_) fun h => ?_ | refine Zs rfl rfl rfl (by decide) rfl (fun h K hK => ?_) fun h => ?_); rotate_left; (focus (simp only [Bool.not_true, Bool.not_false, lp])); rotate_left) | ((first | refine wi ?_ | refine wj ?_ | refine wk ?_); simp only [lt, ↓reduceIte, Nat.reduceEqDiff]))
        refine ⟨_, spec_place _ m hs1 hG0 _ _ ⟨rfl, rfl⟩, hK _ ?_⟩
        clear hK K; simp only [lp]
        repeat' (first | ((first | refine wx ?_ | refine wy ?_ | refine wz ?_); (simp only [lo, ld, ↓aop, ↓aCall, hP, hG, Nat.reduceLT, ↓reduceIte, Nat.reduceEqDiff, Nat.reduceAdd, Nat.reduceMul, Nat.reduceLeDiff, reduceCtorEq, D.cs, D.plain, fillD, chop, List.replicate, altB, altV, slvs, chos, strs, tk_3, ze_3, sz_3, tk_4, ze_4, sz_4, tk_9, ze_9, sz_9, tk_26, ze_26, sz_26, kn_26, tk_23, ze_23, sz_23, tk_24, ze_24, sz_24, tk_44, ze_44, sz_44, tk_46, ze_46, sz_46, kn_46, gs, hwj, hp, hj]; repeat (with_reducible refine And.intro ?_ ?_; focus (first | decide | omega | (simp only [ln]; omega)))); try ((first | refine hK _ _ ?_ | refine hK _ ?_); clear hK K; simp only [lp])) | refine we rfl fun K hK => ?_ | refine wf rfl rfl fun K hK => ?_ | refine wg rfl rfl fun K hK => ?_ | refine wh rfl fun K hK => ?_ | ((first | refine Xg rfl rfl (by decide) ?_ fun K hK => ?_ | refine Yg rfl rfl (by decide) ?_ fun K hK => ?_ | refine Zg rfl rfl rfl (by decide) ?_ fun K hK => ?_); (focus (simp only [look_cons, ↓reduceIte, Nat.reduceEqDiff, Bool.not_true, Bool.not_false]; done))) | ((first | refine Xn rfl rfl (by decide) ?_ ?_ | refine Yn rfl rfl (by decide) ?_ ?_ | refine Zn rfl rfl rfl (by decide) ?_ ?_); (focus (simp only [look_cons, ↓reduceIte, Nat.reduceEqDiff, Bool.not_true, Bool.not_false]; done)); simp only [lp]) | ((first | refine Xo rfl rfl (by decide) ?_ ?_ | refine Yo rfl rfl (by decide) ?_ ?_ | refine Zo rfl rfl rfl (by decide) ?_ ?_); (focus (simp only [look_cons, ↓reduceIte, Nat.reduceEqDiff, Bool.not_true, Bool.not_false]; done)); simp only [lp]) | ((first | refine Xs rfl rfl (by decide) rfl (fun h K hK => ?_) fun h => ?_ | refine Ys rfl rfl (by decide) rfl (fun h K hK => ?_) fun h => ?_ | refine Zs rfl rfl rfl (by decide) rfl (fun h K hK => ?_) fun h => ?_); rotate_left; (focus (simp only [Bool.not_true, Bool.not_false, lp])); rotate_left) | ((first | refine wi ?_ | refine wj ?_ | refine wk ?_); simp only [lt, ↓reduceIte, Nat.reduceEqDiff]))
        all_goals refine .weakFr ?_
        all_goals simp only [le, ↓reduceIte, Nat.reduceEqDiff, and_true]; repeat' (first | exact trivial | exact D.le_refl _ | exact D.le_any _ | with_reducible refine And.intro ?_ ?_)
        all_goals clear hall
        all_goals refine D.le_eq (congrArg D.v (congrArg V.bool ?_)); (try simp only [Bool.not_eq_eq_eq_not, Bool.not_true, Bool.not_false] at *); simp only [*, List.getD_eq_getElem?_getD, Bool.and_true, Bool.true_and, Bool.and_false, Bool.false_and, Bool.or_true, Bool.true_or, Bool.or_false, Bool.false_or, Bool.not_true, Bool.not_false, Bool.not_not, choBad, gs, Nat.add_sub_cancel, gp, Option.getD_some]
    refine sat_cond rfl (fun hb => ?_) (fun hb => ?_)
    · repeat (first | refine wa ?_ | refine wb rfl ?_ | refine wc rfl rfl hM ?_ | refine wd rfl hM ?_ | ((first | refine we rfl fun K hK => ?_ | refine wf rfl rfl fun K hK => ?_ | refine wg rfl rfl fun K hK => ?_ | refine wh rfl fun K hK => ?_); (simp only [lo, ld, ↓aop, ↓aCall, hP, hG, Nat.reduceLT, ↓reduceIte, Nat.reduceEqDiff, Nat.reduceAdd, Nat.reduceMul, Nat.reduceLeDiff, reduceCtorEq, D.cs, D.plain, fillD, chop, List.replicate]; repeat (with_reducible refine And.intro ?_ ?_; focus (first | decide | omega | (simp only [ln]; omega)))); try ((first | refine hK _ _ ?_ | refine hK _ ?_); clear hK K; simp only [lp])) | ((first | refine wi ?_ | refine wj ?_ | refine wk ?_ | refine wl ?_ | refine wm ?_ | refine wn ?_); simp only [lt, ↓reduceIte, Nat.reduceEqDiff]) | refine wo ?_)
      refine Fin.gc (.v (.bool false)) hE (by decide) rfl (by simp only [D.lt]) ?_
      have : choicesOk x = false := by
        simp only [choicesOk, Bool.and_eq_false_iff]
        left
        rw [List.all_eq_false]
        exact ⟨i, by simpa using hc, by rw [gx, hb]; simp⟩
      rwa [this] at hK
    · repeat (first | refine wa ?_ | refine wb rfl ?_ | refine wc rfl rfl hM ?_ | refine wd rfl hM ?_ | ((first | refine we rfl fun K hK => ?_ | refine wf rfl rfl fun K hK => ?_ | refine wg rfl rfl fun K hK => ?_ | refine wh rfl fun K hK => ?_); (simp only [lo, ld, ↓aop, ↓aCall, hP, hG, Nat.reduceLT, ↓reduceIte, Nat.reduceEqDiff, Nat.reduceAdd, Nat.reduceMul, Nat.reduceLeDiff, reduceCtorEq, D.cs, D.plain, fillD, chop, List.replicate, choR, strs, tk_3, ze_3, sz_3, tk_9, ze_9, sz_9, tk_46, ze_46, sz_46, kn_46, tk_44, ze_44, sz_44]; repeat (with_reducible refine And.intro ?_ ?_; focus (first | decide | omega | (simp only [ln]; omega)))); try ((first | refine hK _ _ ?_ | refine hK _ ?_); clear hK K; simp only [lp])) | ((first | refine wi ?_ | refine wj ?_ | refine wk ?_ | refine wl ?_ | refine wm ?_ | refine wn ?_); simp only [lt, ↓reduceIte, Nat.reduceEqDiff]) | refine wo ?_)
      refine sat_loop_ent (fun n ts H => ∃ (k : Nat), n = s.slaves.length - k ∧ k ≤ s.slaves.length ∧ (s.slaves.take k).any subBad = false ∧
        ts = fr 80 [(57, .v (.int .i64 k)), (56, .v (.int .i64 s.slaves.length)), (55, .v (strs s.slaves)), (10, .v (.int .i64 i)), (9, .v (.int .i64 x.choices.length)), (8, .v (chos x.choices)), (2, .v (.bool false)), (1, .ptr E.H0.length 0)] ∧ H = E.H0 ++ [altB x]) (s.slaves.length) (Ent.rnd hE ?_ rfl ?_ (altB_lt _ _)) ⟨0, rfl, Nat.zero_le _, rfl, rfl, rfl⟩ ?_
      · simp only [le, ↓reduceIte, Nat.reduceEqDiff, and_true]; repeat' (first | exact trivial | exact D.le_refl _ | exact D.le_any _ | with_reducible refine And.intro ?_ ?_)
      · simp [ltAll, ltObs, Ob.lt, D.lt, D.ltL, or_imp, forall_and]
      rintro n ts H ⟨k, rfl, hk, hkall, rfl, rfl⟩
      repeat (first | refine wa ?_ | refine wb rfl ?_ | refine wc rfl rfl hM ?_ | refine wd rfl hM ?_ | ((first | refine we rfl fun K hK => ?_ | refine wf rfl rfl fun K hK => ?_ | refine wg rfl rfl fun K hK => ?_ | refine wh rfl fun K hK => ?_); (simp only [lo, ld, ↓aop, ↓aCall, hP, hG, Nat.reduceLT, ↓reduceIte, Nat.reduceEqDiff, Nat.reduceAdd, Nat.reduceMul, Nat.reduceLeDiff, reduceCtorEq, D.cs, D.plain, fillD, chop, List.replicate, strs, tk_3, ze_3, sz_3, tk_9, ze_9, sz_9, tk_44, ze_44, sz_44]; repeat (with_reducible refine And.intro ?_ ?_; focus (first | decide | omega | (simp only [ln]; omega)))); try ((first | refine hK _ _ ?_ | refine hK _ ?_); clear hK K; simp only [lp])) | ((first | refine wi ?_ | refine wj ?_ | refine wk ?_ | refine wl ?_ | refine wm ?_ | refine wn ?_); simp only [lt, ↓reduceIte, Nat.reduceEqDiff]) | refine wo ?_)
      refine sat_cond rfl (fun hd => ?_) (fun hd => ?_)
      · simp at hd
        obtain ⟨t, ht⟩ : ∃ t, s.slaves[k]? = some t := ⟨_, List.getElem?_eq_getElem hd⟩
        have hwk := wrap_succ (i := k) (by omega)
        repeat (first | refine wa ?_ | refine wb rfl ?_ | refine wc rfl rfl hM ?_ | refine wd rfl hM ?_ | ((first | refine we rfl fun K hK => ?_ | refine wf rfl rfl fun K hK => ?_ | refine wg rfl rfl fun K hK => ?_ | refine wh rfl fun K hK => ?_); (simp only [lo, ld, ↓aop, ↓aCall, hP, hG, Nat.reduceLT, ↓reduceIte, Nat.reduceEqDiff, Nat.reduceAdd, Nat.reduceMul, Nat.reduceLeDiff, reduceCtorEq, D.cs, D.plain, fillD, chop, List.replicate, strs, tk_3, ze_3, sz_3, tk_9, ze_9, sz_9, tk_44, ze_44, sz_44, hd, ht]; repeat (with_reducible refine And.intro ?_ ?_; focus (first | decide | omega | (simp only [ln]; omega)))); try ((first | refine hK _ _ ?_ | refine hK _ ?_); clear hK K; simp only [lp])) | ((first | refine wi ?_ | refine wj ?_ | refine wk ?_ | refine wl ?_ | refine wm ?_ | refine wn ?_); simp only [lt, ↓reduceIte, Nat.reduceEqDiff]) | refine wo ?_)
        refine sat_thru (fr 80 [(67, .v (.bool (subBad t))), (57, .v (.int .i64 k)), (56, .v (.int .i64 s.slaves.length)), (55, .v (strs s.slaves)), (10, .v (.int .i64 i)), (9, .v (.int .i64 x.choices.length)), (8, .v (chos x.choices)), (2, .v (.bool false)), (1, .ptr E.H0.length 0)]) (E.H0 ++ [altB x]) ?_ ?_
        · (first | refine wr ?_ | refine wp rfl hM ?_ | refine wq hM ?_); repeat' (first | ((first | refine wx ?_ | refine wy ?_ | refine wz ?_); (simp only [lo, ld, ↓aop, ↓aCall, hP, hG, Nat.reduceLT, ↓reduceIte, Nat.reduceEqDiff, Nat.reduceAdd, Nat.reduceMul, Nat.reduceLeDiff, reduceCtorEq, D.cs, D.plain, fillD, chop, List.replicate, tk_3, ze_3, sz_3, tk_4, ze_4, sz_4, tk_9, ze_9, sz_9]; repeat (with_reducible refine And.intro ?_ ?_; focus (first | decide | omega | (simp only [ln]; omega)))); try ((first | refine hK _ _ ?_ | refine hK _ ?_); clear hK K; simp only [lp])) | refine we rfl fun K hK => ?_ | refine wf rfl rfl fun K hK => ?_ | refine wg rfl rfl fun K hK => ?_ | refine wh rfl fun K hK => ?_ | ((first | refine Xg rfl rfl (by decide) ?_ fun K hK => ?_ | refine Yg rfl rfl (by decide) ?_ fun K hK => ?_ | refine Zg rfl rfl rfl (by decide) ?_ fun K hK => ?_); (focus (simp only [look_cons, ↓reduceIte, Nat.reduceEqDiff, Bool.not_true, Bool.not_false]; done))) | ((first | refine Xn rfl rfl (by decide) ?_ ?_ | refine Yn rfl rfl (by decide) ?_ ?_ | refine Zn rfl rfl rfl (by decide) ?_ ?_); (focus (simp only [look_cons, ↓reduceIte, Nat.reduceEqDiff, Bool.not_true, Bool.not_false]; done)); simp only [lp]) | ((first | refine Xo rfl rfl (by decide) ?_ ?_ | refine Yo rfl rfl (by decide) ?_ ?_ | refine Zo rfl rfl rfl (by decide) ?_ ?_); (focus (simp only [look_cons, ↓reduceIte, Nat.reduceEqDiff, Bool.not_true, Bool.not_false]; done)); simp only [lp]) | ((first | refine Xs rfl rfl (by decide) rfl (fun h K hK => ?_) fun h => ?_ | refine Ys rfl rfl (by decide) rfl (fun h K hK => ?_) fun h => ?_ | refine Zs rfl rfl rfl (by decide) rfl (fun h K hK => ?_) fun h => ?_); rotate_left; (focus (simp only [Bool.not_true, Bool.not_false, lp])); rotate_left) | ((first | refine wi ?_ | refine wj ?_ | refine wk ?_); simp only [lt, ↓reduceIte, Nat.reduceEqDiff]))
          · refine spec_place _ m (hs3 t (List.mem_of_getElem? ht)) hG0 _ _ (hK _ _ ?_)
            clear hK K; simp only [lp]
            repeat' (first | ((first | refine wx ?_ | refine wy ?_ | refine wz ?_); (simp only [lo, ld, ↓aop, ↓aCall, hP, hG, Nat.reduceLT, ↓reduceIte, Nat.reduceEqDiff, Nat.reduceAdd, Nat.reduceMul, Nat.reduceLeDiff, reduceCtorEq, D.cs, D.plain, fillD, chop, List.replicate, tk_3, ze_3, sz_3, tk_4, ze_4, sz_4, tk_9, ze_9, sz_9]; repeat (with_reducible refine And.intro ?_ ?_; focus (first | decide | omega | (simp only [ln]; omega)))); try ((first | refine hK _ _ ?_ | refine hK _ ?_); clear hK K; simp only [lp])) | refine we rfl fun K hK => ?_ | refine wf rfl rfl fun K hK => ?_ | refine wg rfl rfl fun K hK => ?_ | refine wh rfl fun K hK => ?_ | ((first | refine Xg rfl rfl (by decide) ?_ fun K hK => ?_ | refine Yg rfl rfl (by decide) ?_ fun K hK => ?_ | refine Zg rfl rfl rfl (by decide) ?_ fun K hK => ?_); (focus (simp only [look_cons, ↓reduceIte, Nat.reduceEqDiff, Bool.not_true, Bool.not_false]; done))) | ((first | refine Xn rfl rfl (by decide) ?_ ?_ | refine Yn rfl rfl (by decide) ?_ ?_ | refine Zn rfl rfl rfl (by decide) ?_ ?_); (focus (simp only [look_cons, ↓reduceIte, Nat.reduceEqDiff, Bool.not_true, Bool.not_false]; done)); simp only [lp]) | ((first | refine Xo rfl rfl (by decide) ?_ ?_ | refine Yo rfl rfl (by decide) ?_ ?_ | refine Zo rfl rfl rfl (by decide) ?_ ?_); (focus (simp only [look_cons, ↓reduceIte, Nat.reduceEqDiff, Bool.not_true, Bool.not_false]; done)); simp only [lp]) | ((first | refine Xs rfl rfl (by decide) rfl (fun h K hK => ?_) fun h => ?_ | refine Ys rfl rfl (by decide) rfl (fun h K hK => ?_) fun h => ?_ | refine Zs rfl rfl rfl (by decide) rfl (fun h K hK => ?_) fun h => ?_); rotate_left; (focus (simp only [Bool.not_true, Bool.not_false, lp])); rotate_left) | ((first | refine wi ?_ | refine wj ?_ | refine wk ?_); simp only [lt, ↓reduceIte, Nat.reduceEqDiff]))
            refine .weakFr ?_
            simp only [le, ↓reduceIte, Nat.reduceEqDiff, and_true]; repeat' (first | exact trivial | exact D.le_refl _ | exact D.le_any _ | with_reducible refine And.intro ?_ ?_)
            all_goals clear hall
            all_goals refine D.le_eq (congrArg D.v (congrArg V.bool ?_)); (try simp only [Bool.not_eq_eq_eq_not, Bool.not_true, Bool.not_false] at *); simp only [*, List.getD_eq_getElem?_getD, Bool.and_true, Bool.true_and, Bool.and_false, Bool.false_and, Bool.or_true, Bool.true_or, Bool.or_false, Bool.false_or, Bool.not_true, Bool.not_false, Bool.not_not, subBad]
          · refine .weakFr ?_
            simp only [le, ↓reduceIte, Nat.reduceEqDiff, and_true]; repeat' (first | exact trivial | exact D.le_refl _ | exact D.le_any _ | with_reducible refine And.intro ?_ ?_)
            all_goals clear hall
            all_goals refine D.le_eq (congrArg D.v (congrArg V.bool ?_)); (try simp only [Bool.not_eq_eq_eq_not, Bool.not_true, Bool.not_false] at *); simp only [*, List.getD_eq_getElem?_getD, Bool.and_true, Bool.true_and, Bool.and_false, Bool.false_and, Bool.or_true, Bool.true_or, Bool.or_false, Bool.false_or, Bool.not_true, Bool.not_false, Bool.not_not, subBad]
        refine sat_cond rfl (fun he => ?_) (fun he => ?_)
        · repeat (first | refine wa ?_ | refine wb rfl ?_ | refine wc rfl rfl hM ?_ | refine wd rfl hM ?_ | ((first | refine we rfl fun K hK => ?_ | refine wf rfl rfl fun K hK => ?_ | refine wg rfl rfl fun K hK => ?_ | refine wh rfl fun K hK => ?_); (simp only [lo, ld, ↓aop, ↓aCall, hP, hG, Nat.reduceLT, ↓reduceIte, Nat.reduceEqDiff, Nat.reduceAdd, Nat.reduceMul, Nat.reduceLeDiff, reduceCtorEq, D.cs, D.plain, fillD, chop, List.replicate]; repeat (with_reducible refine And.intro ?_ ?_; focus (first | decide | omega | (simp only [ln]; omega)))); try ((first | refine hK _ _ ?_ | refine hK _ ?_); clear hK K; simp only [lp])) | ((first | refine wi ?_ | refine wj ?_ | refine wk ?_ | refine wl ?_ | refine wm ?_ | refine wn ?_); simp only [lt, ↓reduceIte, Nat.reduceEqDiff]) | refine wo ?_)
          refine Fin.gc (.v (.bool false)) hE (by decide) rfl (by simp only [D.lt]) ?_
          have : choicesOk x = false := by
            simp only [choicesOk, Bool.and_eq_false_iff]
            left
            rw [List.all_eq_false]
            have h2 : s.slaves.any subBad = true := List.any_eq_true.2 ⟨t, List.mem_of_getElem? ht, he⟩
            exact ⟨i, by simpa using hc, by rw [gx, h2]; simp⟩
          rwa [this] at hK
        · repeat (first | refine wa ?_ | refine wb rfl ?_ | refine wc rfl rfl hM ?_ | refine wd rfl hM ?_ | ((first | refine we rfl fun K hK => ?_ | refine wf rfl rfl fun K hK => ?_ | refine wg rfl rfl fun K hK => ?_ | refine wh rfl fun K hK => ?_); (simp only [lo, ld, ↓aop, ↓aCall, hP, hG, Nat.reduceLT, ↓reduceIte, Nat.reduceEqDiff, Nat.reduceAdd, Nat.reduceMul, Nat.reduceLeDiff, reduceCtorEq, D.cs, D.plain, fillD, chop, List.replicate, hwk]; repeat (with_reducible refine And.intro ?_ ?_; focus (first | decide | omega | (simp only [ln]; omega)))); try ((first | refine hK _ _ ?_ | refine hK _ ?_); clear hK K; simp only [lp])) | ((first | refine wi ?_ | refine wj ?_ | refine wk ?_ | refine wl ?_ | refine wm ?_ | refine wn ?_); simp only [lt, ↓reduceIte, Nat.reduceEqDiff]) | refine wo ?_)
          refine ⟨s.slaves.length - (k + 1), _, _, by omega, .weakFr ?_, k + 1, rfl, by omega, ?_, rfl, rfl⟩
          · simp only [le, ↓reduceIte, Nat.reduceEqDiff, and_true]; repeat' (first | exact trivial | exact D.le_refl _ | exact D.le_any _ | with_reducible refine And.intro ?_ ?_)
          · rw [take_snoc ht, List.any_append, hkall]; simp [he]
      · simp at hd
        have e : s.slaves.take k = s.slaves := List.take_of_length_le (by omega)
        rw [e] at hkall
        repeat (first | refine wa ?_ | refine wb rfl ?_ | refine wc rfl rfl hM ?_ | refine wd rfl hM ?_ | ((first | refine we rfl fun K hK => ?_ | refine wf rfl rfl fun K hK => ?_ | refine wg rfl rfl fun K hK => ?_ | refine wh rfl fun K hK => ?_); (simp only [lo, ld, ↓aop, ↓aCall, hP, hG, Nat.reduceLT, ↓reduceIte, Nat.reduceEqDiff, Nat.reduceAdd, Nat.reduceMul, Nat.reduceLeDiff, reduceCtorEq, D.cs, D.plain, fillD, chop, List.replicate, hw, tk_3, ze_3, sz_3]; repeat (with_reducible refine And.intro ?_ ?_; focus (first | decide | omega | (simp only [ln]; omega)))); try ((first | refine hK _ _ ?_ | refine hK _ ?_); clear hK K; simp only [lp])) | ((first | refine wi ?_ | refine wj ?_ | refine wk ?_ | refine wl ?_ | refine wm ?_ | refine wn ?_); simp only [lt, ↓reduceIte, Nat.reduceEqDiff]) | refine wo ?_)
        refine ⟨x.choices.length - (i + 1), _, _, by omega, .weakFr ?_, i + 1, rfl, by omega, fun j hj => ?_, rfl, rfl⟩
        · simp only [le, ↓reduceIte, Nat.reduceEqDiff, and_true]; repeat' (first | exact trivial | exact D.le_refl _ | exact D.le_any _ | with_reducible refine And.intro ?_ ?_)
        · rcases Nat.lt_succ_iff_lt_or_eq.1 hj with h | rfl
          · exact hall j h
          · rw [gx, hb, hkall]; rfl
  · simp at hc
    have e1 : (List.range x.choices.length).all (fun i => !(choBad x i (x.choices.getD i cho0) || (x.choices.getD i cho0).slaves.any subBad)) = true := by
      simp only [List.all_eq_true, List.mem_range]
      exact fun j hj => by rw [hall j (by omega)]; rfl
    clear hall
    have e2 := e1
    simp only [List.getD_eq_getElem?_getD] at e2
    repeat (first | refine wa ?_ | refine wb rfl ?_ | refine wc rfl rfl hM ?_ | refine wd rfl hM ?_ | ((first | refine we rfl fun K hK => ?_ | refine wf rfl rfl fun K hK => ?_ | refine wg rfl rfl fun K hK => ?_ | refine wh rfl fun K hK => ?_); (simp only [lo, ld, ↓aop, ↓aCall, hP, hG, Nat.reduceLT, ↓reduceIte, Nat.reduceEqDiff, Nat.reduceAdd, Nat.reduceMul, Nat.reduceLeDiff, reduceCtorEq, D.cs, D.plain, fillD, chop, List.replicate]; repeat (with_reducible refine And.intro ?_ ?_; focus (first | decide | omega | (simp only [ln]; omega)))); try ((first | refine hK _ _ ?_ | refine hK _ ?_); clear hK K; simp only [lp])) | ((first | refine wi ?_ | refine wj ?_ | refine wk ?_ | refine wl ?_ | refine wm ?_ | refine wn ?_); simp only [lt, ↓reduceIte, Nat.reduceEqDiff]) | refine wo ?_)
    refine sat_thru (fr 80 [(2, .v (.bool (choicesOk x)))]) E.H0 ?_ ?_
    · (first | refine wr ?_ | refine wp rfl hM ?_ | refine wq hM ?_); repeat' (first | ((first | refine wx ?_ | refine wy ?_ | refine wz ?_); (simp only [lo, ld, ↓aop, ↓aCall, hP, hG, Nat.reduceLT, ↓reduceIte, Nat.reduceEqDiff, Nat.reduceAdd, Nat.reduceMul, Nat.reduceLeDiff, reduceCtorEq, D.cs, D.plain, fillD, chop, List.replicate, altB, altV, chos, tk_3, ze_3, sz_3, tk_4, ze_4, sz_4, tk_9, ze_9, sz_9, tk_26, ze_26, sz_26, kn_26, tk_24, ze_24, sz_24]; repeat (with_reducible refine And.intro ?_ ?_; focus (first | decide | omega | (simp only [ln]; omega)))); try ((first | refine hK _ _ ?_ | refine hK _ ?_); clear hK K; simp only [lp])) | refine we rfl fun K hK => ?_ | refine wf rfl rfl fun K hK => ?_ | refine wg rfl rfl fun K hK => ?_ | refine wh rfl fun K hK => ?_ | ((first | refine Xg rfl rfl (by decide) ?_ fun K hK => ?_ | refine Yg rfl rfl (by decide) ?_ fun K hK => ?_ | refine Zg rfl rfl rfl (by decide) ?_ fun K hK => ?_); (focus (simp only [look_cons, ↓reduceIte, Nat.reduceEqDiff, Bool.not_true, Bool.not_false]; done))) | ((first | refine Xn rfl rfl (by decide) ?_ ?_ | refine Yn rfl rfl (by decide) ?_ ?_ | refine Zn rfl rfl rfl (by decide) ?_ ?_); (focus (simp only [look_cons, ↓reduceIte, Nat.reduceEqDiff, Bool.not_true, Bool.not_false]; done)); simp only [lp]) | ((first | refine Xo rfl rfl (by decide) ?_ ?_ | refine Yo rfl rfl (by decide) ?_ ?_ | refine Zo rfl rfl rfl (by decide) ?_ ?_); (focus (simp only [look_cons, ↓reduceIte, Nat.reduceEqDiff, Bool.not_true, Bool.not_false]; done)); simp only [lp]) | ((first | refine Xs rfl rfl (by decide) rfl (fun h K hK => ?_) fun h => ?_ | refine Ys rfl rfl (by decide) rfl (fun h K hK => ?_) fun h => ?_ | refine Zs rfl rfl rfl (by decide) rfl (fun h K hK => ?_) fun h => ?_); rotate_left; (focus (simp only [Bool.not_true, Bool.not_false, lp])); rotate_left) | ((first | refine wi ?_ | refine wj ?_ | refine wk ?_); simp only [lt, ↓reduceIte, Nat.reduceEqDiff]))
      all_goals refine Ent.round0 hE ?_ (by simp [ltAll, ltObs, Ob.lt, D.lt, D.ltL, or_imp, forall_and])
      all_goals simp only [le, ↓reduceIte, Nat.reduceEqDiff, and_true]; repeat' (first | exact trivial | exact D.le_refl _ | exact D.le_any _ | with_reducible refine And.intro ?_ ?_)
      all_goals refine D.le_eq (congrArg D.v (congrArg V.bool ?_)); (try simp only [Bool.not_eq_eq_eq_not, Bool.not_true, Bool.not_false] at *); simp only [*, List.getD_eq_getElem?_getD, Bool.and_true, Bool.true_and, Bool.and_false, Bool.false_and, Bool.or_true, Bool.true_or, Bool.or_false, Bool.false_or, Bool.not_true, Bool.not_false, Bool.not_not, choicesOk, e1, e2]
    repeat (first | refine wa ?_ | refine wb rfl ?_ | refine wc rfl rfl hM ?_ | refine wd rfl hM ?_ | ((first | refine we rfl fun K hK => ?_ | refine wf rfl rfl fun K hK => ?_ | refine wg rfl rfl fun K hK => ?_ | refine wh rfl fun K hK => ?_); (simp only [lo, ld, ↓aop, ↓aCall, hP, hG, Nat.reduceLT, ↓reduceIte, Nat.reduceEqDiff, Nat.reduceAdd, Nat.reduceMul, Nat.reduceLeDiff, reduceCtorEq, D.cs, D.plain, fillD, chop, List.replicate]; repeat (with_reducible refine And.intro ?_ ?_; focus (first | decide | omega | (simp only [ln]; omega)))); try ((first | refine hK _ _ ?_ | refine hK _ ?_); clear hK K; simp only [lp])) | ((first | refine wi ?_ | refine wj ?_ | refine wk ?_ | refine wl ?_ | refine wm ?_ | refine wn ?_); simp only [lt, ↓reduceIte, Nat.reduceEqDiff]) | refine wo ?_)
    exact Fin.is (.v (.bool (choicesOk x))) (by decide) rfl hK
end Go.Ag
namespace Go.Ag
open Go Go.Proofs
variable {G : Nat → Option (List V)}
attribute [local irreducible] aops qops Sat aop

def lnBad (x : Alt) (i : Nat) (l n : Str) : Bool := !placeB l || ((links x).take i).any (· == l) || !nameOk n || ((names x).take i).any (· == n) || (decide ((i : Int) > 1) && !Op.bytesLess ((names x).getD (i - 1) []) n)
def lnsOk (x : Alt) : Bool := (List.range (links x).length).all (fun i => !lnBad x i ((links x).getD i []) ((names x).getD i []))
def chInner (x : Alt) : Bool := (List.range x.choices.length).all (fun i => !(choBad x i (x.choices.getD i cho0) || (x.choices.getD i cho0).slaves.any subBad))
def manyBad (x : Alt) : Bool := decide ((x.slaves.length : Int) > 64) || decide ((x.choices.length : Int) < 1) || decide ((x.choices.length : Int) > 64)
def finalB (x : Alt) : Bool := decide (choAt x.choices x.cur ≥ 0) && (x.manual || choAt x.choices x.cur == best x.choices)
def rightR (x : Alt) : Bool := !manyBad x && lnsOk x && chInner x && finalB x
theorem links_len (x : Alt) : (links x).length = x.slaves.length + 1 := by simp [links]
theorem names_len (x : Alt) : (names x).length = x.slaves.length + 1 := by simp [names]
def altMid (x : Alt) : Prop := x.name.length ≤ 1000000 ∧ x.link.length ≤ 1000000 ∧ x.cur.length ≤ 1000000 ∧ x.slaves.length ≤ 1000000 ∧ x.choices.length ≤ 1000000 ∧ (∀ s ∈ x.slaves, s.name.length ≤ 1000000 ∧ s.link.length ≤ 1000000) ∧ ∀ c ∈ x.choices, c.path.length ≤ 1000000 ∧ c.slaves.length ≤ 1000000 ∧ ∀ t ∈ c.slaves, t.length ≤ 1000000
theorem altMid_of {x : Alt} (h : altSmall x) : altMid x := by
  obtain ⟨h1, h2, h3, h4, h5, h6, h7⟩ := h
  refine ⟨by omega, by omega, by omega, by omega, by omega, fun s hs => ?_, fun c hc => ?_⟩
  · obtain ⟨g1, g2⟩ := h6 s hs; omega
  · obtain ⟨g1, g2, g3⟩ := h7 c hc
    exact ⟨by omega, by omega, fun t ht => by have := g3 t ht; omega⟩
theorem links_mid {x : Alt} (h : altMid x) : ∀ l ∈ links x, l.length ≤ 1000000 := by
  intro l hl
  rcases List.mem_cons.1 hl with rfl | hl
  · exact h.2.1
  · obtain ⟨s, hs, rfl⟩ := List.mem_map.1 hl
    exact (h.2.2.2.2.2.1 s hs).2
theorem names_mid {x : Alt} (h : altMid x) : ∀ l ∈ names x, l.length ≤ 1000000 := by
  intro l hl
  rcases List.mem_cons.1 hl with rfl | hl
  · exact h.1
  · obtain ⟨s, hs, rfl⟩ := List.mem_map.1 hl
    exact (h.2.2.2.2.2.1 s hs).1

end Go.Ag
/- AGo, part 26: the library's work on strings in arrays of one's own. -/
namespace Go.Ag
open Go Go.RowKit Go.Sort Go.Proofs

def rowsS (l : List Str) : List (List D) := l.map fun s => [.v (.str s)]
theorem rowsS_flat (l : List Str) : (rowsS l).flatten = l.map fun s => .v (.str s) := by
  induction l with
  | nil => rfl
  | cons s l ih => simp only [rowsS, List.map_cons, List.flatten_cons] at ih ⊢; rw [ih]; rfl
theorem relL_strs {M : Mem} {μ : Mu} : ∀ l : List Str, RelL M μ (l.map fun s => .v (.str s)) (l.map encStr)
  | [] => by simp [RelL]
  | s :: l => by
    rw [List.map_cons, List.map_cons, RelL.cons_iff]
    exact ⟨by simp only [Rel, RelV], relL_strs l⟩
theorem rowsS_rows {M : Mem} {μ : Mu} {l : List Str} {vs : List Value} (h : vs.take l.length = l.map encStr) : Rows M μ 1 (rowsS l) vs := by
  refine Rows.of_flat (fun x hx => ?_) ?_
  · obtain ⟨s, _, rfl⟩ := List.mem_map.1 hx; rfl
  · refine ⟨vs, rfl, ?_⟩
    rw [rowsS_flat, show (rowsS l).length * 1 = l.length by simp [rowsS], h]; exact relL_strs l

/-- What lies in a block that is new is one's own from here on. -/
theorem R.adopt {E : Env} {M : Mem} {μ : Mu} {H : List Ob} {w : World} (h : R E M μ H w) {o : Ob} {p : Pt} (hf : ∀ i o q, H[i]? = some o → o ≠ .dead → μ i = some q → q.blk ≠ p.blk)
    (ho : ObRel E.w0.heap.size M (upd μ H.length p) w o p) : R E M (upd μ H.length p) (H ++ [o]) w := by
  have hle : μ.le (upd μ H.length p) := Mu.le_upd_new h.mu_new
  refine ⟨h.below, h.imm, h.glob, fun i q hq => ?_, fun i o' q ho' hq => ?_, ?_, fun i hi => (by
    by_cases e : i = H.length
    · subst e; exact ⟨p, upd_self _ _ _⟩
    · rw [upd_ne _ _ e]; exact h.tot i (by simp at hi; omega))⟩
  · by_cases e : i = H.length
    · subst e; simp
    · rw [upd_ne _ _ e] at hq; have := h.dom i q hq; simp; omega
  · by_cases e : i = H.length
    · subst e
      rw [upd_self] at hq; cases hq
      simp at ho'; subst ho'
      exact ho
    · rw [upd_ne _ _ e] at hq
      have hlt := h.dom i q hq
      rw [List.getElem?_append_left hlt] at ho'
      have hob := h.obj i o' q ho' hq
      by_cases hd : o' = .dead
      · subst hd; trivial
      · exact hob.same hle rfl
  · intro i j oi oj pi pj hij hi hj di dj hpi hpj
    by_cases ei : i = H.length
    · subst ei
      rw [upd_self] at hpi; cases hpi
      have ej : j ≠ H.length := fun e => hij e.symm
      rw [upd_ne _ _ ej] at hpj
      have hlt := h.dom j pj hpj
      rw [List.getElem?_append_left hlt] at hj
      exact (hf j oj pj hj dj hpj).symm
    · rw [upd_ne _ _ ei] at hpi
      have hlt := h.dom i pi hpi
      rw [List.getElem?_append_left hlt] at hi
      by_cases ej : j = H.length
      · subst ej
        rw [upd_self] at hpj; cases hpj
        exact hf i oi pi hi di hpi
      · rw [upd_ne _ _ ej] at hpj
        have hlt := h.dom j pj hpj
        rw [List.getElem?_append_left hlt] at hj
        exact h.sep i j oi oj pi pj hij hi hj di dj hpi hpj

theorem lib_Clone {P : Program} {G : Nat → Option (List V)} {f : FuncId} {H : List Ob} {K : D → List Ob → Prop} {t : TypeId} (hc : callB P f = true) (l : List Str) (hne : l ≠ [])
    (h : ∀ (b off n c : Nat) (zs : List ByteArray) (w : World) (hz : n ≤ zs.length) (hbig : n * 16 ≤ 140737488355328) (hc : ∀ j, j < zs.length → w.cell? ⟨b, off + j, none⟩ = some (.string (zs.getD j ByteArray.empty))),
      Calls P f #[.slice (some ⟨b, off, none⟩) n c] w fun e w' => ∃ v', e = .returned v' ∧ w'.ownsRow w.heap.size t 1 v' n ((zs.take n).map (Value.string)) ∧ v' ≠ .slice none 0 0 ∧ Below w.heap.size w w')
    (hbig : l.length * 16 ≤ 140737488355328) (hK : K (.own H.length 1 l.length) (H ++ [.arr 1 1 (rowsS l) 0])) : ACalls P G f [.v (.list 1 (l.map fun s => [.str s]))] H K := by
  refine ACalls.ofB hc fun E e1 e2 M μ w vs hr hv => ?_
  obtain ⟨y1, vs2, rfl, g1, g2⟩ := (by simpa only [RelL] using hv : ∃ v vs', vs = v :: vs' ∧ Rel M μ (.v (.list 1 (l.map fun s => [.str s]))) v ∧ RelL M μ [] vs')
  simp only [RelL] at g2; subst g2
  obtain ⟨A, c, rfl, hcap, hh⟩ := hr.strs g1
  rcases hh with rfl | ⟨b, o, rfl, hb, _, hcell⟩
  · exact absurd rfl hne
  have := h b o l.length c (l.map fun s => ByteArray.mk s.toArray) w (by simp) hbig (fun j hj => by
    obtain ⟨s, hs⟩ : ∃ s, l[j]? = some s := ⟨_, List.getElem?_eq_getElem (by simpa using hj)⟩
    rw [hcell j s hs]; simp [List.getD_eq_getElem?_getD, hs])
  refine this.mono ?_
  rintro e w' ⟨v', rfl, ⟨hxl, hown⟩, hnn, hbel⟩
  rcases hown with ⟨rfl, _⟩ | ⟨g, cap, cur, rfl, hg, hheap, hncap, hcm, hcs, htk⟩
  · exact absurd rfl hnn
  have hr' := hr.more hbel
  have hfresh : ∀ i o q, H[i]? = some o → o ≠ .dead → μ i = some q → q.blk ≠ g := fun i o q hi hd hq e => by
    have := (hr.obj i o q hi hq).lt hd; omega
  have hMg : ∀ o, M g o = none := fun o => by
    cases hy : M g o with
    | none => rfl
    | some y => have := hr.imm_lt hy; omega
  have htk' : cur.toList.take l.length = l.map encStr := by
    have e := htk
    rw [Nat.mul_one] at e
    rw [e, List.take_of_length_le (by simp), List.map_map]
    rfl
  have hR := hr'.adopt (o := .arr 1 1 (rowsS l) 0) (p := ⟨g, cap, 1⟩) hfresh
    ⟨Nat.le_trans hr.below.size hg, rfl, Nat.le_refl _, fun o y hy => (by rw [hMg o] at hy; cases hy), by simpa [rowsS] using hncap, cur.toList, t, by simpa using hheap, by simpa using hcs, rowsS_rows htk'⟩
  refine ⟨_, _, M, upd μ H.length ⟨g, cap, 1⟩, _, rfl, .refl _, Mu.le_upd_new hr.mu_new, hR, ?_, hK⟩
  simp only [Rel]
  exact ⟨⟨_, _, _, rfl⟩, _, upd_self _ _ _, Nat.le_refl _, Nat.le_refl _, fun _ => ⟨hncap, rfl⟩⟩

theorem heap_putRow_other {w : World} {n blk off k : Nat} {d : Array (List UInt8)} (h : k ≠ blk) : (putRow encStr (Sort.ahead w n) blk off d).heap[k]? = w.heap[k]? := by
  simp only [putRow, mapBlock, Sort.ahead, Array.getElem?_modify]
  rw [if_neg (fun e => h e.symm)]
theorem heap_putRow_self {w : World} {n blk off : Nat} {d : Array (List UInt8)} {cur : Array Value} {t : TypeId} {fr : Nat × Nat} (h : w.heap[blk]? = some (.cells cur t fr)) :
    (putRow encStr (Sort.ahead w n) blk off d).heap[blk]? = some (.cells (putCells encStr off d cur) t fr) := by
  simp only [putRow, mapBlock, Sort.ahead, Array.getElem?_modify, if_true, h, Option.map_some, onCells]

/-- An array of one's own, as a whole: other strings, as many. -/
theorem own_put {E : Env} {M : Mem} {μ : Mu} {H : List Ob} {w : World} (hr : R E M μ H w) {b ver : Nat} {l l' : List Str} {p : Pt} (n : Nat) (hb : H[b]? = some (.arr ver 1 (rowsS l) 0)) (hp : μ b = some p) (hl : l'.length = l.length) :
    R E M μ (H.set b (.arr ver 1 (rowsS l') 0)) (putRow encStr (Sort.ahead w n) p.blk 0 l'.toArray) := by
  obtain ⟨h1, h2, h3, h4, h5, vs, t, h6, h7, h8⟩ := hr.obj b _ p hb hp
  refine hr.setOb hb (by simp) hp rfl rfl rfl (by simp [putRow, mapBlock, Sort.ahead]) (fun k hk => heap_putRow_other hk) (fun o y hy => by have := h4 o y hy; omega) ?_
  refine ⟨h1, h2, h3, h4, by simpa [rowsS, hl] using h5, (putCells encStr 0 l'.toArray vs.toArray).toList, t, by simpa using heap_putRow_self h6, by simp [putCells, h7], rowsS_rows ?_⟩
  refine take_putCells _ _ ?_
  have : (rowsS l).length ≤ p.cap := h5
  simp only [rowsS, List.length_map] at this
  simp; omega

theorem own_val {E : Env} {M : Mem} {μ : Mu} {H : List Ob} {w : World} (hr : R E M μ H w) {b ver n : Nat} {l : List Str} {y : Value} (hb : H[b]? = some (.arr ver 1 (rowsS l) 0)) (hy : Rel M μ (.own b ver n) y) :
    ∃ p, μ b = some p ∧ p.ver = ver ∧ 1 ≤ ver ∧ n ≤ p.cap ∧ l.length ≤ p.cap ∧ y = .slice (some ⟨p.blk, 0, none⟩) n p.cap ∧ p.blk < w.heap.size ∧ Holds encStr w p.blk 0 l.toArray := by
  simp only [Rel] at hy
  obtain ⟨_, p, hp, _, _, h⟩ := hy
  obtain ⟨h1, h2, h3, h4, h5, vs, t, h6, h7, h8⟩ := hr.obj b _ p hb hp
  obtain ⟨g1, g2⟩ := h h2
  refine ⟨p, hp, h2, h3, g1, by simpa [rowsS] using h5, g2, (hr.obj b _ p hb hp).lt (by simp), fun j hj => ?_⟩
  have hj' : j < l.length := by simpa using hj
  obtain ⟨s, hs⟩ : ∃ s, l[j]? = some s := ⟨_, List.getElem?_eq_getElem hj'⟩
  obtain ⟨_, k2⟩ := h8 j [.v (.str s)] (by simp [rowsS, hs])
  obtain ⟨y, k3, k4⟩ := k2.get 0 (.v (.str s)) rfl
  simp only [Rel, RelV] at k4
  rw [Nat.mul_one, List.getElem?_take_of_lt (by decide), List.getElem?_drop, Nat.add_zero] at k3
  refine ⟨?_, ?_⟩
  · rw [Nat.zero_add, cell?_block h6, k3, k4]
    have : l.toArray[j]! = s := by
      rw [getElem!_pos _ _ (by simpa using hj')]
      simpa using (List.getElem?_eq_some_iff.1 hs).2
    rw [this]
  · simp [World.frozen?, h6]

theorem lib_Sort {P : Program} {G : Nat → Option (List V)} {f : FuncId} {H : List Ob} {K : D → List Ob → Prop} (hc : callB P f = true) (b ver : Nat) (l : List Str) (hb : H[b]? = some (.arr ver 1 (rowsS l) 0))
    (h : ∀ (blk off cap : Nat) (ss : List (List UInt8)) (w : World) (hH : Holds encStr w blk off ss.toArray) (hblk : blk < w.heap.size) (hsz : ss.length < 4611686018427387904),
      Calls P f #[.slice (some ⟨blk, off, none⟩) ss.length cap] w fun e w' => e = .returned (.tuple #[]) ∧ ∃ n os, w' = grow (putRow encStr (Sort.ahead w n) blk off (ss.mergeSort fun x y => decide (x ≤ y)).toArray) os)
    (hl : l.length < 4611686018427387904) (hK : K (.tup []) (H.set b (.arr ver 1 (rowsS (l.mergeSort fun x y => decide (x ≤ y))) 0))) : ACalls P G f [.own b ver l.length] H K := by
  refine ACalls.ofB hc fun E e1 e2 M μ w vs hr hv => ?_
  obtain ⟨y1, vs2, rfl, g1, g2⟩ := (by simpa only [RelL] using hv : ∃ v vs', vs = v :: vs' ∧ Rel M μ (.own b ver l.length) v ∧ RelL M μ [] vs')
  simp only [RelL] at g2; subst g2
  obtain ⟨p, hp, hpv, hv1, hn, hlc, rfl, hblk, hH⟩ := own_val hr hb g1
  refine (h p.blk 0 p.cap l w hH hblk hl).mono ?_
  rintro e w' ⟨rfl, n, os, rfl⟩
  have h1 := own_put hr (l' := l.mergeSort fun x y => decide (x ≤ y)) n hb hp (List.length_mergeSort _)
  have h2 := h1.more (w' := grow (putRow encStr (Sort.ahead w n) p.blk 0 (l.mergeSort fun x y => decide (x ≤ y)).toArray) os) ⟨rfl, rfl, rfl, by simp [grow], fun k hk => by
    simp only [grow]
    rw [Array.getElem?_append_left hk]⟩
  exact ⟨_, _, M, μ, _, rfl, .refl _, .refl _, h2, by simp only [Rel]; exact ⟨[], rfl, by simp [RelL]⟩, hK⟩

theorem lib_Compact {P : Program} {G : Nat → Option (List V)} {f : FuncId} {H : List Ob} {K : D → List Ob → Prop} (hc : callB P f = true) (b ver : Nat) (l : List Str) (hb : H[b]? = some (.arr ver 1 (rowsS l) 0))
    (h : ∀ (blk off cap : Nat) (zs : List (List UInt8)) (w : World) (hH : Holds encStr w blk off zs.toArray) (hsz : zs.length ≤ 9223372036854775807) (hcap : zs.length ≤ cap),
      Calls P f #[.slice (some ⟨blk, off, none⟩) zs.length cap] w fun e w' => e = .returned (.slice (some ⟨blk, off, none⟩) (Lib.compact zs).length cap) ∧ ∃ q, w' = putRow encStr (Sort.ahead w q) blk off (Lib.compact zs ++ List.replicate (zs.length - (Lib.compact zs).length) []).toArray)
    (hl : l.length ≤ 9223372036854775807) (hcl : (Lib.compact l).length ≤ l.length) (hK : K (.own b ver (Lib.compact l).length) (H.set b (.arr ver 1 (rowsS (Lib.compact l ++ List.replicate (l.length - (Lib.compact l).length) [])) 0))) : ACalls P G f [.own b ver l.length] H K := by
  refine ACalls.ofB hc fun E e1 e2 M μ w vs hr hv => ?_
  obtain ⟨y1, vs2, rfl, g1, g2⟩ := (by simpa only [RelL] using hv : ∃ v vs', vs = v :: vs' ∧ Rel M μ (.own b ver l.length) v ∧ RelL M μ [] vs')
  simp only [RelL] at g2; subst g2
  obtain ⟨p, hp, hpv, hv1, hn, hlc, rfl, hblk, hH⟩ := own_val hr hb g1
  refine (h p.blk 0 p.cap l w hH hl hlc).mono ?_
  rintro e w' ⟨rfl, q, rfl⟩
  have h1 := own_put hr (l' := Lib.compact l ++ List.replicate (l.length - (Lib.compact l).length) []) q hb hp (by simp; omega)
  refine ⟨_, _, M, μ, _, rfl, .refl _, .refl _, h1, ?_, hK⟩
  simp only [Rel]
  exact ⟨⟨_, _, _, rfl⟩, p, hp, by omega, hv1, fun _ => ⟨by omega, rfl⟩⟩
end Go.Ag
namespace Go.Ag
open Go Go.Proofs
variable {G : Nat → Option (List V)}
attribute [local irreducible] aops qops Sat aop

theorem compact_le (l : List Str) : (Lib.compact l).length ≤ l.length := by
  unfold Lib.compact Lib.compactUpTo
  simp only [List.length_map]
  exact Nat.le_trans (List.length_filter_le _ _) (by simp)
def sortS (l : List Str) : List Str := l.mergeSort fun x y => decide (x ≤ y)
def sortedS (l : List Str) : List Str := Lib.compact (sortS l)
theorem sortS_len (l : List Str) : (sortS l).length = l.length := List.length_mergeSort _

set_option maxHeartbeats 4000000 in
theorem spec_Sorted (l : List Str) (hne : l ≠ []) (hl : l.length ≤ 2000000) (H : List Ob) (K : D → List Ob → Prop) (hK : K (.v (strs (sortedS l))) H) : ACalls Tryz.prog G 60 [.v (strs l)] H K := by
  refine ACalls.go Tryz.f60 _ 10 [2] Tryz.func60 rfl Tryz.ntmps60 (by kernel_rfl) rfl (by simp) (fun E hE hP hG hH => ?_)
  have hM : E.P.follows .mixedOrders = true := hP ▸ mixed
  subst hH
  simp only [args0]
  repeat (first | refine wa ?_ | refine wb rfl ?_ | refine wc rfl rfl hM ?_ | refine wd rfl hM ?_ | ((first | refine we rfl fun K hK => ?_ | refine wf rfl rfl fun K hK => ?_ | refine wg rfl rfl fun K hK => ?_ | refine wh rfl fun K hK => ?_); (simp only [lo, ld, ↓aop, ↓aCall, hP, hG, Nat.reduceLT, ↓reduceIte, Nat.reduceEqDiff, Nat.reduceAdd, Nat.reduceMul, Nat.reduceLeDiff, reduceCtorEq, D.cs, D.plain, fillD, chop, List.replicate]; repeat (with_reducible refine And.intro ?_ ?_; focus (first | decide | omega | (simp only [ln]; omega)))); try ((first | refine hK _ _ ?_ | refine hK _ ?_); clear hK K; simp only [lp])) | ((first | refine wi ?_ | refine wj ?_ | refine wk ?_ | refine wl ?_ | refine wm ?_ | refine wn ?_); simp only [lt, ↓reduceIte, Nat.reduceEqDiff]) | refine wo ?_)
  refine lib_Clone (by kernel_rfl) l hne (fun b off n c zs w h1 h2 h3 => Tryz.slices_Clone_string b off n c zs w h1 h2 h3) (by omega) (hK _ _ ?_)
  clear hK K; simp only [lp]
  repeat (first | refine wa ?_ | refine wb rfl ?_ | refine wc rfl rfl hM ?_ | refine wd rfl hM ?_ | ((first | refine we rfl fun K hK => ?_ | refine wf rfl rfl fun K hK => ?_ | refine wg rfl rfl fun K hK => ?_ | refine wh rfl fun K hK => ?_); (simp only [lo, ld, ↓aop, ↓aCall, hP, hG, Nat.reduceLT, ↓reduceIte, Nat.reduceEqDiff, Nat.reduceAdd, Nat.reduceMul, Nat.reduceLeDiff, reduceCtorEq, D.cs, D.plain, fillD, chop, List.replicate]; repeat (with_reducible refine And.intro ?_ ?_; focus (first | decide | omega | (simp only [ln]; omega)))); try ((first | refine hK _ _ ?_ | refine hK _ ?_); clear hK K; simp only [lp])) | ((first | refine wi ?_ | refine wj ?_ | refine wk ?_ | refine wl ?_ | refine wm ?_ | refine wn ?_); simp only [lt, ↓reduceIte, Nat.reduceEqDiff]) | refine wo ?_)
  refine lib_Sort (by kernel_rfl) _ 1 l (by rw [hp_get0]; rfl) (fun blk off cap ss w h1 h2 h3 => Tryz.slices_Sort_string blk off cap ss w h1 h2 h3) (by omega) (hK _ _ ?_)
  clear hK K; simp only [lp]
  rw [hp_set0]
  change aops _ _ _ _ (E.H0 ++ [.arr 1 1 (rowsS (sortS l)) 0]) _
  repeat (first | refine wa ?_ | refine wb rfl ?_ | refine wc rfl rfl hM ?_ | refine wd rfl hM ?_ | ((first | refine we rfl fun K hK => ?_ | refine wf rfl rfl fun K hK => ?_ | refine wg rfl rfl fun K hK => ?_ | refine wh rfl fun K hK => ?_); (simp only [lo, ld, ↓aop, ↓aCall, hP, hG, Nat.reduceLT, ↓reduceIte, Nat.reduceEqDiff, Nat.reduceAdd, Nat.reduceMul, Nat.reduceLeDiff, reduceCtorEq, D.cs, D.plain, fillD, chop, List.replicate]; repeat (with_reducible refine And.intro ?_ ?_; focus (first | decide | omega | (simp only [ln]; omega)))); try ((first | refine hK _ _ ?_ | refine hK _ ?_); clear hK K; simp only [lp])) | ((first | refine wi ?_ | refine wj ?_ | refine wk ?_ | refine wl ?_ | refine wm ?_ | refine wn ?_); simp only [lt, ↓reduceIte, Nat.reduceEqDiff]) | refine wo ?_)
  have hs := sortS_len l
  rw [← hs]
  refine lib_Compact (by kernel_rfl) _ 1 (sortS l) (by rw [hp_get0]; rfl) (fun blk off cap zs w h1 h2 h3 => Tryz.slices_Compact_string blk off cap zs w h1 h2 h3) (by omega) (compact_le _) (hK _ _ ?_)
  clear hK K; simp only [lp]
  rw [hp_set0]
  change aops _ _ _ _ (E.H0 ++ [.arr 1 1 (rowsS (Lib.compact (sortS l) ++ List.replicate ((sortS l).length - (Lib.compact (sortS l)).length) [])) 0]) _
  repeat (first | refine wa ?_ | refine wb rfl ?_ | refine wc rfl rfl hM ?_ | refine wd rfl hM ?_ | ((first | refine we rfl fun K hK => ?_ | refine wf rfl rfl fun K hK => ?_ | refine wg rfl rfl fun K hK => ?_ | refine wh rfl fun K hK => ?_); (simp only [lo, ld, ↓aop, ↓aCall, hP, hG, Nat.reduceLT, ↓reduceIte, Nat.reduceEqDiff, Nat.reduceAdd, Nat.reduceMul, Nat.reduceLeDiff, reduceCtorEq, D.cs, D.plain, fillD, chop, List.replicate]; repeat (with_reducible refine And.intro ?_ ?_; focus (first | decide | omega | (simp only [ln]; omega)))); try ((first | refine hK _ _ ?_ | refine hK _ ?_); clear hK K; simp only [lp])) | ((first | refine wi ?_ | refine wj ?_ | refine wk ?_ | refine wl ?_ | refine wm ?_ | refine wn ?_); simp only [lt, ↓reduceIte, Nat.reduceEqDiff]) | refine wo ?_)
  refine Fin.acs (m := 0) (d := .own (E.H0.length + 0) 1 (sortedS l).length) (ys := (sortedS l).map fun s => [.str s]) hE (.inr ⟨1, (Lib.compact (sortS l) ++ List.replicate ((sortS l).length - (Lib.compact (sortS l)).length) []).map fun s => [.str s], Nat.le_refl _, ?_, ?_, ?_, ?_⟩) (by decide) rfl hK
  · simp [sortedS]
  · rw [List.length_map, ← List.map_take]
    unfold sortedS
    rw [List.take_append_of_le_length (Nat.le_refl _), take_len]
  · simp
  · simp [rowsS]

def rightP (x : Alt) : Bool := nameOk x.name && placeB x.link && slavesOk x && choicesOk x && ((sortedS (links x)).length == (links x).length) && finalB x
set_option maxHeartbeats 16000000 in
theorem spec_AltRight (x : Alt) (m : Int) (hm : altMid x) (hG0 : G 0 = some [.int .i64 m]) (H : List Ob) (K : D → List Ob → Prop) (hK : K (.v (.bool (rightP x))) H) : ACalls Tryz.prog G 28 [altd x] H K := by
  refine ACalls.go Tryz.f28 _ 50 [2] Tryz.func28 rfl Tryz.ntmps28 (by kernel_rfl) rfl (by simp) (fun E hE hP hG hH => ?_)
  have hM : E.P.follows .mixedOrders = true := hP ▸ mixed
  have hll := links_len x
  have hcl := compact_le (sortS (links x))
  have hsl := sortS_len (links x)
  obtain ⟨m1, m2, m3, m4, m5, m6, m7⟩ := hm
  have k1 : ∀ s ∈ x.slaves, s.name.length < 4294967281 ∧ s.link.length < 4294967281 := fun s hs => by have := m6 s hs; omega
  have k2 : ∀ c ∈ x.choices, c.path.length < 4294967281 ∧ c.slaves.length ≤ 1099511627 ∧ ∀ t ∈ c.slaves, t.length < 4294967281 := fun c hc => by
    obtain ⟨a1, a2, a3⟩ := m7 c hc
    exact ⟨by omega, by omega, fun t ht => by have := a3 t ht; omega⟩
  subst hH
  simp only [args0, altd]
  repeat (first | refine wa ?_ | refine wb rfl ?_ | refine wc rfl rfl hM ?_ | refine wd rfl hM ?_ | ((first | refine we rfl fun K hK => ?_ | refine wf rfl rfl fun K hK => ?_ | refine wg rfl rfl fun K hK => ?_ | refine wh rfl fun K hK => ?_); (simp only [lo, ld, ↓aop, ↓aCall, hP, hG, Nat.reduceLT, ↓reduceIte, Nat.reduceEqDiff, Nat.reduceAdd, Nat.reduceMul, Nat.reduceLeDiff, reduceCtorEq, D.cs, D.plain, fillD, chop, List.replicate, tk_3, ze_3, sz_3, tk_9, ze_9, sz_9, tk_26, ze_26, sz_26, kn_26]; repeat (with_reducible refine And.intro ?_ ?_; focus (first | decide | omega | (simp only [ln]; omega)))); try ((first | refine hK _ _ ?_ | refine hK _ ?_); clear hK K; simp only [lp])) | ((first | refine wi ?_ | refine wj ?_ | refine wk ?_ | refine wl ?_ | refine wm ?_ | refine wn ?_); simp only [lt, ↓reduceIte, Nat.reduceEqDiff]) | refine wo ?_)
  refine sat_thru (fr 50 [(24, .v (.bool (!(nameOk x.name && placeB x.link && slavesOk x && choicesOk x)))), (2, .v (.bool false)), (1, .ptr E.H0.length 0)]) (E.H0 ++ [altB x]) ?_ ?_
  · (first | refine wr ?_ | refine wp rfl hM ?_ | refine wq hM ?_); repeat' (first | ((first | refine wx ?_ | refine wy ?_ | refine wz ?_); (simp only [lo, ld, ↓aop, ↓aCall, hP, hG, Nat.reduceLT, ↓reduceIte, Nat.reduceEqDiff, Nat.reduceAdd, Nat.reduceMul, Nat.reduceLeDiff, reduceCtorEq, D.cs, D.plain, fillD, chop, List.replicate, tk_3, ze_3, sz_3, tk_4, ze_4, sz_4, tk_9, ze_9, sz_9, tk_26, ze_26, sz_26, kn_26]; repeat (with_reducible refine And.intro ?_ ?_; focus (first | decide | omega | (simp only [ln]; omega)))); try ((first | refine hK _ _ ?_ | refine hK _ ?_); clear hK K; simp only [lp])) | refine we rfl fun K hK => ?_ | refine wf rfl rfl fun K hK => ?_ | refine wg rfl rfl fun K hK => ?_ | refine wh rfl fun K hK => ?_ | ((first | refine Xg rfl rfl (by decide) ?_ fun K hK => ?_ | refine Yg rfl rfl (by decide) ?_ fun K hK => ?_ | refine Zg rfl rfl rfl (by decide) ?_ fun K hK => ?_); (focus (simp only [look_cons, ↓reduceIte, Nat.reduceEqDiff, Bool.not_true, Bool.not_false]; done))) | ((first | refine Xn rfl rfl (by decide) ?_ ?_ | refine Yn rfl rfl (by decide) ?_ ?_ | refine Zn rfl rfl rfl (by decide) ?_ ?_); (focus (simp only [look_cons, ↓reduceIte, Nat.reduceEqDiff, Bool.not_true, Bool.not_false]; done)); simp only [lp]) | ((first | refine Xo rfl rfl (by decide) ?_ ?_ | refine Yo rfl rfl (by decide) ?_ ?_ | refine Zo rfl rfl rfl (by decide) ?_ ?_); (focus (simp only [look_cons, ↓reduceIte, Nat.reduceEqDiff, Bool.not_true, Bool.not_false]; done)); simp only [lp]) | ((first | refine Xs rfl rfl (by decide) rfl (fun h K hK => ?_) fun h => ?_ | refine Ys rfl rfl (by decide) rfl (fun h K hK => ?_) fun h => ?_ | refine Zs rfl rfl rfl (by decide) rfl (fun h K hK => ?_) fun h => ?_); rotate_left; (focus (simp only [Bool.not_true, Bool.not_false, lp])); rotate_left) | ((first | refine wi ?_ | refine wj ?_ | refine wk ?_); simp only [lt, ↓reduceIte, Nat.reduceEqDiff]))
    refine spec_Name _ (by omega) _ _ (hK _ _ ?_)
    clear hK K; simp only [lp]
    repeat' (first | ((first | refine wx ?_ | refine wy ?_ | refine wz ?_); (simp only [lo, ld, ↓aop, ↓aCall, hP, hG, Nat.reduceLT, ↓reduceIte, Nat.reduceEqDiff, Nat.reduceAdd, Nat.reduceMul, Nat.reduceLeDiff, reduceCtorEq, D.cs, D.plain, fillD, chop, List.replicate, tk_3, ze_3, sz_3, tk_4, ze_4, sz_4, tk_9, ze_9, sz_9, tk_26, ze_26, sz_26, kn_26]; repeat (with_reducible refine And.intro ?_ ?_; focus (first | decide | omega | (simp only [ln]; omega)))); try ((first | refine hK _ _ ?_ | refine hK _ ?_); clear hK K; simp only [lp])) | refine we rfl fun K hK => ?_ | refine wf rfl rfl fun K hK => ?_ | refine wg rfl rfl fun K hK => ?_ | refine wh rfl fun K hK => ?_ | ((first | refine Xg rfl rfl (by decide) ?_ fun K hK => ?_ | refine Yg rfl rfl (by decide) ?_ fun K hK => ?_ | refine Zg rfl rfl rfl (by decide) ?_ fun K hK => ?_); (focus (simp only [look_cons, ↓reduceIte, Nat.reduceEqDiff, Bool.not_true, Bool.not_false]; done))) | ((first | refine Xn rfl rfl (by decide) ?_ ?_ | refine Yn rfl rfl (by decide) ?_ ?_ | refine Zn rfl rfl rfl (by decide) ?_ ?_); (focus (simp only [look_cons, ↓reduceIte, Nat.reduceEqDiff, Bool.not_true, Bool.not_false]; done)); simp only [lp]) | ((first | refine Xo rfl rfl (by decide) ?_ ?_ | refine Yo rfl rfl (by decide) ?_ ?_ | refine Zo rfl rfl rfl (by decide) ?_ ?_); (focus (simp only [look_cons, ↓reduceIte, Nat.reduceEqDiff, Bool.not_true, Bool.not_false]; done)); simp only [lp]) | ((first | refine Xs rfl rfl (by decide) rfl (fun h K hK => ?_) fun h => ?_ | refine Ys rfl rfl (by decide) rfl (fun h K hK => ?_) fun h => ?_ | refine Zs rfl rfl rfl (by decide) rfl (fun h K hK => ?_) fun h => ?_); rotate_left; (focus (simp only [Bool.not_true, Bool.not_false, lp])); rotate_left) | ((first | refine wi ?_ | refine wj ?_ | refine wk ?_); simp only [lt, ↓reduceIte, Nat.reduceEqDiff]))
    · refine spec_place _ m (by omega) hG0 _ _ (hK _ _ ?_)
      clear hK K; simp only [lp]
      repeat' (first | ((first | refine wx ?_ | refine wy ?_ | refine wz ?_); (simp only [lo, ld, ↓aop, ↓aCall, hP, hG, Nat.reduceLT, ↓reduceIte, Nat.reduceEqDiff, Nat.reduceAdd, Nat.reduceMul, Nat.reduceLeDiff, reduceCtorEq, D.cs, D.plain, fillD, chop, List.replicate, tk_3, ze_3, sz_3, tk_4, ze_4, sz_4, tk_9, ze_9, sz_9, tk_26, ze_26, sz_26, kn_26]; repeat (with_reducible refine And.intro ?_ ?_; focus (first | decide | omega | (simp only [ln]; omega)))); try ((first | refine hK _ _ ?_ | refine hK _ ?_); clear hK K; simp only [lp])) | refine we rfl fun K hK => ?_ | refine wf rfl rfl fun K hK => ?_ | refine wg rfl rfl fun K hK => ?_ | refine wh rfl fun K hK => ?_ | ((first | refine Xg rfl rfl (by decide) ?_ fun K hK => ?_ | refine Yg rfl rfl (by decide) ?_ fun K hK => ?_ | refine Zg rfl rfl rfl (by decide) ?_ fun K hK => ?_); (focus (simp only [look_cons, ↓reduceIte, Nat.reduceEqDiff, Bool.not_true, Bool.not_false]; done))) | ((first | refine Xn rfl rfl (by decide) ?_ ?_ | refine Yn rfl rfl (by decide) ?_ ?_ | refine Zn rfl rfl rfl (by decide) ?_ ?_); (focus (simp only [look_cons, ↓reduceIte, Nat.reduceEqDiff, Bool.not_true, Bool.not_false]; done)); simp only [lp]) | ((first | refine Xo rfl rfl (by decide) ?_ ?_ | refine Yo rfl rfl (by decide) ?_ ?_ | refine Zo rfl rfl rfl (by decide) ?_ ?_); (focus (simp only [look_cons, ↓reduceIte, Nat.reduceEqDiff, Bool.not_true, Bool.not_false]; done)); simp only [lp]) | ((first | refine Xs rfl rfl (by decide) rfl (fun h K hK => ?_) fun h => ?_ | refine Ys rfl rfl (by decide) rfl (fun h K hK => ?_) fun h => ?_ | refine Zs rfl rfl rfl (by decide) rfl (fun h K hK => ?_) fun h => ?_); rotate_left; (focus (simp only [Bool.not_true, Bool.not_false, lp])); rotate_left) | ((first | refine wi ?_ | refine wj ?_ | refine wk ?_); simp only [lt, ↓reduceIte, Nat.reduceEqDiff]))
      · refine spec_slaves x m (by omega) k1 hG0 _ _ (hK _ _ ?_)
        clear hK K; simp only [lp]
        repeat' (first | ((first | refine wx ?_ | refine wy ?_ | refine wz ?_); (simp only [lo, ld, ↓aop, ↓aCall, hP, hG, Nat.reduceLT, ↓reduceIte, Nat.reduceEqDiff, Nat.reduceAdd, Nat.reduceMul, Nat.reduceLeDiff, reduceCtorEq, D.cs, D.plain, fillD, chop, List.replicate, tk_3, ze_3, sz_3, tk_4, ze_4, sz_4, tk_9, ze_9, sz_9, tk_26, ze_26, sz_26, kn_26]; repeat (with_reducible refine And.intro ?_ ?_; focus (first | decide | omega | (simp only [ln]; omega)))); try ((first | refine hK _ _ ?_ | refine hK _ ?_); clear hK K; simp only [lp])) | refine we rfl fun K hK => ?_ | refine wf rfl rfl fun K hK => ?_ | refine wg rfl rfl fun K hK => ?_ | refine wh rfl fun K hK => ?_ | ((first | refine Xg rfl rfl (by decide) ?_ fun K hK => ?_ | refine Yg rfl rfl (by decide) ?_ fun K hK => ?_ | refine Zg rfl rfl rfl (by decide) ?_ fun K hK => ?_); (focus (simp only [look_cons, ↓reduceIte, Nat.reduceEqDiff, Bool.not_true, Bool.not_false]; done))) | ((first | refine Xn rfl rfl (by decide) ?_ ?_ | refine Yn rfl rfl (by decide) ?_ ?_ | refine Zn rfl rfl rfl (by decide) ?_ ?_); (focus (simp only [look_cons, ↓reduceIte, Nat.reduceEqDiff, Bool.not_true, Bool.not_false]; done)); simp only [lp]) | ((first | refine Xo rfl rfl (by decide) ?_ ?_ | refine Yo rfl rfl (by decide) ?_ ?_ | refine Zo rfl rfl rfl (by decide) ?_ ?_); (focus (simp only [look_cons, ↓reduceIte, Nat.reduceEqDiff, Bool.not_true, Bool.not_false]; done)); simp only [lp]) | ((first | refine Xs rfl rfl (by decide) rfl (fun h K hK => ?_) fun h => ?_ | refine Ys rfl rfl (by decide) rfl (fun h K hK => ?_) fun h => ?_ | refine Zs rfl rfl rfl (by decide) rfl (fun h K hK => ?_) fun h => ?_); rotate_left; (focus (simp only [Bool.not_true, Bool.not_false, lp])); rotate_left) | ((first | refine wi ?_ | refine wj ?_ | refine wk ?_); simp only [lt, ↓reduceIte, Nat.reduceEqDiff]))
        · refine spec_choices x m (by omega) k2 hG0 _ _ (hK _ _ ?_)
          clear hK K; simp only [lp]
          repeat' (first | ((first | refine wx ?_ | refine wy ?_ | refine wz ?_); (simp only [lo, ld, ↓aop, ↓aCall, hP, hG, Nat.reduceLT, ↓reduceIte, Nat.reduceEqDiff, Nat.reduceAdd, Nat.reduceMul, Nat.reduceLeDiff, reduceCtorEq, D.cs, D.plain, fillD, chop, List.replicate, tk_3, ze_3, sz_3, tk_4, ze_4, sz_4, tk_9, ze_9, sz_9, tk_26, ze_26, sz_26, kn_26]; repeat (with_reducible refine And.intro ?_ ?_; focus (first | decide | omega | (simp only [ln]; omega)))); try ((first | refine hK _ _ ?_ | refine hK _ ?_); clear hK K; simp only [lp])) | refine we rfl fun K hK => ?_ | refine wf rfl rfl fun K hK => ?_ | refine wg rfl rfl fun K hK => ?_ | refine wh rfl fun K hK => ?_ | ((first | refine Xg rfl rfl (by decide) ?_ fun K hK => ?_ | refine Yg rfl rfl (by decide) ?_ fun K hK => ?_ | refine Zg rfl rfl rfl (by decide) ?_ fun K hK => ?_); (focus (simp only [look_cons, ↓reduceIte, Nat.reduceEqDiff, Bool.not_true, Bool.not_false]; done))) | ((first | refine Xn rfl rfl (by decide) ?_ ?_ | refine Yn rfl rfl (by decide) ?_ ?_ | refine Zn rfl rfl rfl (by decide) ?_ ?_); (focus (simp only [look_cons, ↓reduceIte, Nat.reduceEqDiff, Bool.not_true, Bool.not_false]; done)); simp only [lp]) | ((first | refine Xo rfl rfl (by decide) ?_ ?_ | refine Yo rfl rfl (by decide) ?_ ?_ | refine Zo rfl rfl rfl (by decide) ?_ ?_); (focus (simp only [look_cons, ↓reduceIte, Nat.reduceEqDiff, Bool.not_true, Bool.not_false]; done)); simp only [lp]) | ((first | refine Xs rfl rfl (by decide) rfl (fun h K hK => ?_) fun h => ?_ | refine Ys rfl rfl (by decide) rfl (fun h K hK => ?_) fun h => ?_ | refine Zs rfl rfl rfl (by decide) rfl (fun h K hK => ?_) fun h => ?_); rotate_left; (focus (simp only [Bool.not_true, Bool.not_false, lp])); rotate_left) | ((first | refine wi ?_ | refine wj ?_ | refine wk ?_); simp only [lt, ↓reduceIte, Nat.reduceEqDiff]))
          refine .weakFr ?_
          simp only [le, ↓reduceIte, Nat.reduceEqDiff, and_true]; repeat' (first | exact trivial | exact D.le_refl _ | exact D.le_any _ | with_reducible refine And.intro ?_ ?_)
          all_goals refine D.le_eq (congrArg D.v (congrArg V.bool ?_)); (try simp only [Bool.not_eq_eq_eq_not, Bool.not_true, Bool.not_false] at *); simp only [*, List.getD_eq_getElem?_getD, Bool.and_true, Bool.true_and, Bool.and_false, Bool.false_and, Bool.or_true, Bool.true_or, Bool.or_false, Bool.false_or, Bool.not_true, Bool.not_false, Bool.not_not]
        · refine .weakFr ?_
          simp only [le, ↓reduceIte, Nat.reduceEqDiff, and_true]; repeat' (first | exact trivial | exact D.le_refl _ | exact D.le_any _ | with_reducible refine And.intro ?_ ?_)
          all_goals refine D.le_eq (congrArg D.v (congrArg V.bool ?_)); (try simp only [Bool.not_eq_eq_eq_not, Bool.not_true, Bool.not_false] at *); simp only [*, List.getD_eq_getElem?_getD, Bool.and_true, Bool.true_and, Bool.and_false, Bool.false_and, Bool.or_true, Bool.true_or, Bool.or_false, Bool.false_or, Bool.not_true, Bool.not_false, Bool.not_not]
      · refine .weakFr ?_
        simp only [le, ↓reduceIte, Nat.reduceEqDiff, and_true]; repeat' (first | exact trivial | exact D.le_refl _ | exact D.le_any _ | with_reducible refine And.intro ?_ ?_)
        all_goals refine D.le_eq (congrArg D.v (congrArg V.bool ?_)); (try simp only [Bool.not_eq_eq_eq_not, Bool.not_true, Bool.not_false] at *); simp only [*, List.getD_eq_getElem?_getD, Bool.and_true, Bool.true_and, Bool.and_false, Bool.false_and, Bool.or_true, Bool.true_or, Bool.or_false, Bool.false_or, Bool.not_true, Bool.not_false, Bool.not_not]
    · refine .weakFr ?_
      simp only [le, ↓reduceIte, Nat.reduceEqDiff, and_true]; repeat' (first | exact trivial | exact D.le_refl _ | exact D.le_any _ | with_reducible refine And.intro ?_ ?_)
      all_goals refine D.le_eq (congrArg D.v (congrArg V.bool ?_)); (try simp only [Bool.not_eq_eq_eq_not, Bool.not_true, Bool.not_false] at *); simp only [*, List.getD_eq_getElem?_getD, Bool.and_true, Bool.true_and, Bool.and_false, Bool.false_and, Bool.or_true, Bool.true_or, Bool.or_false, Bool.false_or, Bool.not_true, Bool.not_false, Bool.not_not]
  refine sat_cond rfl (fun hb => ?_) (fun hb => ?_)
  · repeat (first | refine wa ?_ | refine wb rfl ?_ | refine wc rfl rfl hM ?_ | refine wd rfl hM ?_ | ((first | refine we rfl fun K hK => ?_ | refine wf rfl rfl fun K hK => ?_ | refine wg rfl rfl fun K hK => ?_ | refine wh rfl fun K hK => ?_); (simp only [lo, ld, ↓aop, ↓aCall, hP, hG, Nat.reduceLT, ↓reduceIte, Nat.reduceEqDiff, Nat.reduceAdd, Nat.reduceMul, Nat.reduceLeDiff, reduceCtorEq, D.cs, D.plain, fillD, chop, List.replicate]; repeat (with_reducible refine And.intro ?_ ?_; focus (first | decide | omega | (simp only [ln]; omega)))); try ((first | refine hK _ _ ?_ | refine hK _ ?_); clear hK K; simp only [lp])) | ((first | refine wi ?_ | refine wj ?_ | refine wk ?_ | refine wl ?_ | refine wm ?_ | refine wn ?_); simp only [lt, ↓reduceIte, Nat.reduceEqDiff]) | refine wo ?_)
    refine Fin.gc (.v (.bool false)) hE (by decide) rfl (by simp only [D.lt]) ?_
    have : rightP x = false := by simp only [rightP]; rw [show (nameOk x.name && placeB x.link && slavesOk x && choicesOk x) = false by rw [Bool.not_eq_true'] at hb; exact hb]; rfl
    rwa [this] at hK
  have hb' : (nameOk x.name && placeB x.link && slavesOk x && choicesOk x) = true := by rw [Bool.not_eq_false'] at hb; exact hb
  repeat (first | refine wa ?_ | refine wb rfl ?_ | refine wc rfl rfl hM ?_ | refine wd rfl hM ?_ | ((first | refine we rfl fun K hK => ?_ | refine wf rfl rfl fun K hK => ?_ | refine wg rfl rfl fun K hK => ?_ | refine wh rfl fun K hK => ?_); (simp only [lo, ld, ↓aop, ↓aCall, hP, hG, Nat.reduceLT, ↓reduceIte, Nat.reduceEqDiff, Nat.reduceAdd, Nat.reduceMul, Nat.reduceLeDiff, reduceCtorEq, D.cs, D.plain, fillD, chop, List.replicate, altB, altV, tk_3, ze_3, sz_3, tk_9, ze_9, sz_9, tk_26, ze_26, sz_26, kn_26]; repeat (with_reducible refine And.intro ?_ ?_; focus (first | decide | omega | (simp only [ln]; omega)))); try ((first | refine hK _ _ ?_ | refine hK _ ?_); clear hK K; simp only [lp])) | ((first | refine wi ?_ | refine wj ?_ | refine wk ?_ | refine wl ?_ | refine wm ?_ | refine wn ?_); simp only [lt, ↓reduceIte, Nat.reduceEqDiff]) | refine wo ?_)
  refine spec_Links x (by omega) _ _ (hK _ _ ?_)
  clear hK K; simp only [lp]
  repeat (first | refine wa ?_ | refine wb rfl ?_ | refine wc rfl rfl hM ?_ | refine wd rfl hM ?_ | ((first | refine we rfl fun K hK => ?_ | refine wf rfl rfl fun K hK => ?_ | refine wg rfl rfl fun K hK => ?_ | refine wh rfl fun K hK => ?_); (simp only [lo, ld, ↓aop, ↓aCall, hP, hG, Nat.reduceLT, ↓reduceIte, Nat.reduceEqDiff, Nat.reduceAdd, Nat.reduceMul, Nat.reduceLeDiff, reduceCtorEq, D.cs, D.plain, fillD, chop, List.replicate, altB, altV, tk_3, ze_3, sz_3, tk_9, ze_9, sz_9, tk_26, ze_26, sz_26, kn_26]; repeat (with_reducible refine And.intro ?_ ?_; focus (first | decide | omega | (simp only [ln]; omega)))); try ((first | refine hK _ _ ?_ | refine hK _ ?_); clear hK K; simp only [lp])) | ((first | refine wi ?_ | refine wj ?_ | refine wk ?_ | refine wl ?_ | refine wm ?_ | refine wn ?_); simp only [lt, ↓reduceIte, Nat.reduceEqDiff]) | refine wo ?_)
  refine spec_Sorted (links x) (by simp [links]) (by omega) _ _ (hK _ _ ?_)
  clear hK K; simp only [lp]
  repeat (first | refine wa ?_ | refine wb rfl ?_ | refine wc rfl rfl hM ?_ | refine wd rfl hM ?_ | ((first | refine we rfl fun K hK => ?_ | refine wf rfl rfl fun K hK => ?_ | refine wg rfl rfl fun K hK => ?_ | refine wh rfl fun K hK => ?_); (simp only [lo, ld, ↓aop, ↓aCall, hP, hG, Nat.reduceLT, ↓reduceIte, Nat.reduceEqDiff, Nat.reduceAdd, Nat.reduceMul, Nat.reduceLeDiff, reduceCtorEq, D.cs, D.plain, fillD, chop, List.replicate, strs, tk_3, ze_3, sz_3, tk_9, ze_9, sz_9, tk_26, ze_26, sz_26, kn_26, tk_44, ze_44, sz_44]; repeat (with_reducible refine And.intro ?_ ?_; focus (first | decide | omega | (simp only [ln]; omega)))); try ((first | refine hK _ _ ?_ | refine hK _ ?_); clear hK K; simp only [lp])) | ((first | refine wi ?_ | refine wj ?_ | refine wk ?_ | refine wl ?_ | refine wm ?_ | refine wn ?_); simp only [lt, ↓reduceIte, Nat.reduceEqDiff]) | refine wo ?_)
  refine sat_cond rfl (fun hc => ?_) (fun hc => ?_)
  · repeat (first | refine wa ?_ | refine wb rfl ?_ | refine wc rfl rfl hM ?_ | refine wd rfl hM ?_ | ((first | refine we rfl fun K hK => ?_ | refine wf rfl rfl fun K hK => ?_ | refine wg rfl rfl fun K hK => ?_ | refine wh rfl fun K hK => ?_); (simp only [lo, ld, ↓aop, ↓aCall, hP, hG, Nat.reduceLT, ↓reduceIte, Nat.reduceEqDiff, Nat.reduceAdd, Nat.reduceMul, Nat.reduceLeDiff, reduceCtorEq, D.cs, D.plain, fillD, chop, List.replicate]; repeat (with_reducible refine And.intro ?_ ?_; focus (first | decide | omega | (simp only [ln]; omega)))); try ((first | refine hK _ _ ?_ | refine hK _ ?_); clear hK K; simp only [lp])) | ((first | refine wi ?_ | refine wj ?_ | refine wk ?_ | refine wl ?_ | refine wm ?_ | refine wn ?_); simp only [lt, ↓reduceIte, Nat.reduceEqDiff]) | refine wo ?_)
    refine Fin.gc (.v (.bool false)) hE (by decide) rfl (by simp only [D.lt]) ?_
    have : rightP x = false := by
      rw [Bool.not_eq_true'] at hc
      simp only [rightP, hb', hc]; rfl
    rwa [this] at hK
  have e2 : rightP x = finalB x := by
    rw [Bool.not_eq_false'] at hc
    simp only [rightP, hb', hc, Bool.true_and]
  rw [e2] at hK
  repeat (first | refine wa ?_ | refine wb rfl ?_ | refine wc rfl rfl hM ?_ | refine wd rfl hM ?_ | ((first | refine we rfl fun K hK => ?_ | refine wf rfl rfl fun K hK => ?_ | refine wg rfl rfl fun K hK => ?_ | refine wh rfl fun K hK => ?_); (simp only [lo, ld, ↓aop, ↓aCall, hP, hG, Nat.reduceLT, ↓reduceIte, Nat.reduceEqDiff, Nat.reduceAdd, Nat.reduceMul, Nat.reduceLeDiff, reduceCtorEq, D.cs, D.plain, fillD, chop, List.replicate, altB, altV, tk_3, ze_3, sz_3, tk_9, ze_9, sz_9, tk_26, ze_26, sz_26, kn_26]; repeat (with_reducible refine And.intro ?_ ?_; focus (first | decide | omega | (simp only [ln]; omega)))); try ((first | refine hK _ _ ?_ | refine hK _ ?_); clear hK K; simp only [lp])) | ((first | refine wi ?_ | refine wj ?_ | refine wk ?_ | refine wl ?_ | refine wm ?_ | refine wn ?_); simp only [lt, ↓reduceIte, Nat.reduceEqDiff]) | refine wo ?_)
  refine spec_Choice x x.cur (by omega) _ _ (hK _ _ ?_)
  clear hK K; simp only [lp]
  repeat (first | refine wa ?_ | refine wb rfl ?_ | refine wc rfl rfl hM ?_ | refine wd rfl hM ?_ | ((first | refine we rfl fun K hK => ?_ | refine wf rfl rfl fun K hK => ?_ | refine wg rfl rfl fun K hK => ?_ | refine wh rfl fun K hK => ?_); (simp only [lo, ld, ↓aop, ↓aCall, hP, hG, Nat.reduceLT, ↓reduceIte, Nat.reduceEqDiff, Nat.reduceAdd, Nat.reduceMul, Nat.reduceLeDiff, reduceCtorEq, D.cs, D.plain, fillD, chop, List.replicate]; repeat (with_reducible refine And.intro ?_ ?_; focus (first | decide | omega | (simp only [ln]; omega)))); try ((first | refine hK _ _ ?_ | refine hK _ ?_); clear hK K; simp only [lp])) | ((first | refine wi ?_ | refine wj ?_ | refine wk ?_ | refine wl ?_ | refine wm ?_ | refine wn ?_); simp only [lt, ↓reduceIte, Nat.reduceEqDiff]) | refine wo ?_)
  refine sat_thru (fr 50 [(2, .v (.bool (finalB x)))]) E.H0 ?_ ?_
  · (first | refine wr ?_ | refine wp rfl hM ?_ | refine wq hM ?_); repeat' (first | ((first | refine wx ?_ | refine wy ?_ | refine wz ?_); (simp only [lo, ld, ↓aop, ↓aCall, hP, hG, Nat.reduceLT, ↓reduceIte, Nat.reduceEqDiff, Nat.reduceAdd, Nat.reduceMul, Nat.reduceLeDiff, reduceCtorEq, D.cs, D.plain, fillD, chop, List.replicate, altB, altV, tk_3, ze_3, sz_3, tk_4, ze_4, sz_4, tk_9, ze_9, sz_9, tk_26, ze_26, sz_26, kn_26, tk_24, ze_24, sz_24]; repeat (with_reducible refine And.intro ?_ ?_; focus (first | decide | omega | (simp only [ln]; omega)))); try ((first | refine hK _ _ ?_ | refine hK _ ?_); clear hK K; simp only [lp])) | refine we rfl fun K hK => ?_ | refine wf rfl rfl fun K hK => ?_ | refine wg rfl rfl fun K hK => ?_ | refine wh rfl fun K hK => ?_ | ((first | refine Xg rfl rfl (by decide) ?_ fun K hK => ?_ | refine Yg rfl rfl (by decide) ?_ fun K hK => ?_ | refine Zg rfl rfl rfl (by decide) ?_ fun K hK => ?_); (focus (simp only [look_cons, ↓reduceIte, Nat.reduceEqDiff, Bool.not_true, Bool.not_false]; done))) | ((first | refine Xn rfl rfl (by decide) ?_ ?_ | refine Yn rfl rfl (by decide) ?_ ?_ | refine Zn rfl rfl rfl (by decide) ?_ ?_); (focus (simp only [look_cons, ↓reduceIte, Nat.reduceEqDiff, Bool.not_true, Bool.not_false]; done)); simp only [lp]) | ((first | refine Xo rfl rfl (by decide) ?_ ?_ | refine Yo rfl rfl (by decide) ?_ ?_ | refine Zo rfl rfl rfl (by decide) ?_ ?_); (focus (simp only [look_cons, ↓reduceIte, Nat.reduceEqDiff, Bool.not_true, Bool.not_false]; done)); simp only [lp]) | ((first | refine Xs rfl rfl (by decide) rfl (fun h K hK => ?_) fun h => ?_ | refine Ys rfl rfl (by decide) rfl (fun h K hK => ?_) fun h => ?_ | refine Zs rfl rfl rfl (by decide) rfl (fun h K hK => ?_) fun h => ?_); rotate_left; (focus (simp only [Bool.not_true, Bool.not_false, lp])); rotate_left) | ((first | refine wi ?_ | refine wj ?_ | refine wk ?_); simp only [lt, ↓reduceIte, Nat.reduceEqDiff]))
    · refine spec_Best x.choices (by omega) _ _ (hK _ _ ?_)
      clear hK K; simp only [lp]
      repeat' (first | ((first | refine wx ?_ | refine wy ?_ | refine wz ?_); (simp only [lo, ld, ↓aop, ↓aCall, hP, hG, Nat.reduceLT, ↓reduceIte, Nat.reduceEqDiff, Nat.reduceAdd, Nat.reduceMul, Nat.reduceLeDiff, reduceCtorEq, D.cs, D.plain, fillD, chop, List.replicate, altB, altV, tk_3, ze_3, sz_3, tk_4, ze_4, sz_4, tk_9, ze_9, sz_9, tk_26, ze_26, sz_26, kn_26, tk_24, ze_24, sz_24]; repeat (with_reducible refine And.intro ?_ ?_; focus (first | decide | omega | (simp only [ln]; omega)))); try ((first | refine hK _ _ ?_ | refine hK _ ?_); clear hK K; simp only [lp])) | refine we rfl fun K hK => ?_ | refine wf rfl rfl fun K hK => ?_ | refine wg rfl rfl fun K hK => ?_ | refine wh rfl fun K hK => ?_ | ((first | refine Xg rfl rfl (by decide) ?_ fun K hK => ?_ | refine Yg rfl rfl (by decide) ?_ fun K hK => ?_ | refine Zg rfl rfl rfl (by decide) ?_ fun K hK => ?_); (focus (simp only [look_cons, ↓reduceIte, Nat.reduceEqDiff, Bool.not_true, Bool.not_false]; done))) | ((first | refine Xn rfl rfl (by decide) ?_ ?_ | refine Yn rfl rfl (by decide) ?_ ?_ | refine Zn rfl rfl rfl (by decide) ?_ ?_); (focus (simp only [look_cons, ↓reduceIte, Nat.reduceEqDiff, Bool.not_true, Bool.not_false]; done)); simp only [lp]) | ((first | refine Xo rfl rfl (by decide) ?_ ?_ | refine Yo rfl rfl (by decide) ?_ ?_ | refine Zo rfl rfl rfl (by decide) ?_ ?_); (focus (simp only [look_cons, ↓reduceIte, Nat.reduceEqDiff, Bool.not_true, Bool.not_false]; done)); simp only [lp]) | ((first | refine Xs rfl rfl (by decide) rfl (fun h K hK => ?_) fun h => ?_ | refine Ys rfl rfl (by decide) rfl (fun h K hK => ?_) fun h => ?_ | refine Zs rfl rfl rfl (by decide) rfl (fun h K hK => ?_) fun h => ?_); rotate_left; (focus (simp only [Bool.not_true, Bool.not_false, lp])); rotate_left) | ((first | refine wi ?_ | refine wj ?_ | refine wk ?_); simp only [lt, ↓reduceIte, Nat.reduceEqDiff]))
      refine Ent.round0 hE ?_ (by simp [ltAll, ltObs, Ob.lt, D.lt, D.ltL, or_imp, forall_and])
      simp only [le, ↓reduceIte, Nat.reduceEqDiff, and_true]; repeat' (first | exact trivial | exact D.le_refl _ | exact D.le_any _ | with_reducible refine And.intro ?_ ?_)
      all_goals refine D.le_eq (congrArg D.v (congrArg V.bool ?_)); (try simp only [Bool.not_eq_eq_eq_not, Bool.not_true, Bool.not_false] at *); simp only [*, List.getD_eq_getElem?_getD, Bool.and_true, Bool.true_and, Bool.and_false, Bool.false_and, Bool.or_true, Bool.true_or, Bool.or_false, Bool.false_or, Bool.not_true, Bool.not_false, Bool.not_not, finalB]
    · refine Ent.round0 hE ?_ (by simp [ltAll, ltObs, Ob.lt, D.lt, D.ltL, or_imp, forall_and])
      simp only [le, ↓reduceIte, Nat.reduceEqDiff, and_true]; repeat' (first | exact trivial | exact D.le_refl _ | exact D.le_any _ | with_reducible refine And.intro ?_ ?_)
      all_goals refine D.le_eq (congrArg D.v (congrArg V.bool ?_)); (try simp only [Bool.not_eq_eq_eq_not, Bool.not_true, Bool.not_false] at *); simp only [*, List.getD_eq_getElem?_getD, Bool.and_true, Bool.true_and, Bool.and_false, Bool.false_and, Bool.or_true, Bool.true_or, Bool.or_false, Bool.false_or, Bool.not_true, Bool.not_false, Bool.not_not, finalB]
    · refine Ent.round0 hE ?_ (by simp [ltAll, ltObs, Ob.lt, D.lt, D.ltL, or_imp, forall_and])
      simp only [le, ↓reduceIte, Nat.reduceEqDiff, and_true]; repeat' (first | exact trivial | exact D.le_refl _ | exact D.le_any _ | with_reducible refine And.intro ?_ ?_)
      all_goals refine D.le_eq (congrArg D.v (congrArg V.bool ?_)); (try simp only [Bool.not_eq_eq_eq_not, Bool.not_true, Bool.not_false] at *); simp only [*, List.getD_eq_getElem?_getD, Bool.and_true, Bool.true_and, Bool.and_false, Bool.false_and, Bool.or_true, Bool.true_or, Bool.or_false, Bool.false_or, Bool.not_true, Bool.not_false, Bool.not_not, finalB]
  repeat (first | refine wa ?_ | refine wb rfl ?_ | refine wc rfl rfl hM ?_ | refine wd rfl hM ?_ | ((first | refine we rfl fun K hK => ?_ | refine wf rfl rfl fun K hK => ?_ | refine wg rfl rfl fun K hK => ?_ | refine wh rfl fun K hK => ?_); (simp only [lo, ld, ↓aop, ↓aCall, hP, hG, Nat.reduceLT, ↓reduceIte, Nat.reduceEqDiff, Nat.reduceAdd, Nat.reduceMul, Nat.reduceLeDiff, reduceCtorEq, D.cs, D.plain, fillD, chop, List.replicate]; repeat (with_reducible refine And.intro ?_ ?_; focus (first | decide | omega | (simp only [ln]; omega)))); try ((first | refine hK _ _ ?_ | refine hK _ ?_); clear hK K; simp only [lp])) | ((first | refine wi ?_ | refine wj ?_ | refine wk ?_ | refine wl ?_ | refine wm ?_ | refine wn ?_); simp only [lt, ↓reduceIte, Nat.reduceEqDiff]) | refine wo ?_)
  exact Fin.is _ (by decide) rfl hK
end Go.Ag
namespace Go.Ag
open Go Go.Proofs
variable {G : Nat → Option (List V)}
attribute [local irreducible] aops qops Sat aop

def dig (n : Nat) : UInt8 := UInt8.ofNat (48 + n % 10)
/-- The digits of a number; none of nothing. -/
def dz (n : Nat) : Str := if h : n = 0 then [] else dz (n / 10) ++ [dig n]
termination_by n
decreasing_by omega
theorem dz0 : dz 0 = [] := by unfold dz; rfl
theorem dzS {n : Nat} (h : 0 < n) : dz n = dz (n / 10) ++ [dig n] := by rw [dz]; simp [Nat.pos_iff_ne_zero.1 h]
def natT (n : Nat) : Str := dz (n / 10) ++ [dig n]
def intT (n : Int) : Str := if n < 0 then 45 :: natT n.natAbs else natT n.natAbs
theorem wrap_u64 (n : Int) (h0 : 0 ≤ n) (h : n < 18446744073709551616) : IntKind.u64.wrap n = n := by
  simp only [IntKind.wrap, IntKind.signed, IntKind.bits, Bool.false_and, Bool.false_eq_true, if_false]; omega
theorem wrap_neg (n : Int) (h0 : n < 0) (h : -9223372036854775808 ≤ n) : IntKind.u64.wrap (0 - IntKind.u64.wrap n) = n.natAbs := by
  simp only [IntKind.wrap, IntKind.signed, IntKind.bits, Bool.false_and, Bool.false_eq_true, if_false]; omega
theorem wf64 {n : Int} (h : (Lit.int .i64 n).wf = true) : -9223372036854775808 ≤ n ∧ n < 9223372036854775808 := by
  simp [Lit.wf, IntKind.min, IntKind.max, IntKind.signed, IntKind.bits] at h
  omega
theorem dig_int (n : Nat) : ((dig n).toNat : Int) = 48 + n % 10 := by
  have h : 48 + n % 10 < 256 := by omega
  simp only [dig, UInt8.toNat_ofNat']
  rw [Nat.mod_eq_of_lt (by omega)]; omega
theorem enc_dig (n : Nat) : (Utf8.encode (48 + (n : Int) % 10)).data.toList = [dig n] := by
  have e : (48 + (n : Int) % 10) = ((48 + n % 10 : Nat) : Int) := by omega
  have h : n % 10 < 10 := by omega
  rw [e, dig]
  generalize n % 10 = k at h
  rcases k with _|_|_|_|_|_|_|_|_|_|k <;> first | (decide +kernel) | omega
theorem tm (n : Nat) : Int.tmod (n : Int) 10 = ((n % 10 : Nat) : Int) := by rw [Int.tmod_eq_emod_of_nonneg (by omega)]; omega
theorem td (n : Nat) : Int.tdiv (n : Int) 10 = ((n / 10 : Nat) : Int) := by rw [Int.tdiv_eq_ediv_of_nonneg (by omega)]; omega
/-- The digits so far. -/
def dInv (u0 u : Nat) (s : Str) : Prop := u * 10 ^ s.length ≤ u0 ∧ ((s = [] ∧ u = u0) ∨ (s ≠ [] ∧ dz u ++ s = natT u0))
theorem dInv.step {u0 u : Nat} {s : Str} (h : dInv u0 u s) (h0 : s = [] ∨ 0 < u) : dInv u0 (u / 10) (dig u :: s) := by
  obtain ⟨h1, h2⟩ := h
  refine ⟨?_, .inr ⟨by simp, ?_⟩⟩
  · rw [List.length_cons, Nat.pow_succ, Nat.mul_comm (10 ^ s.length), ← Nat.mul_assoc]
    exact Nat.le_trans (Nat.mul_le_mul_right _ (Nat.div_mul_le_self u 10)) h1
  · rcases h2 with ⟨rfl, rfl⟩ | ⟨h3, h4⟩
    · rfl
    · have hp : 0 < u := h0.resolve_left h3
      rw [dzS hp, List.append_assoc] at h4
      exact h4
theorem dInv.len {u0 u : Nat} {s : Str} (h : dInv u0 u s) (hb : u0 < 18446744073709551616) (h0 : s = [] ∨ 0 < u) : s.length < 20 := by
  rcases h0 with rfl | h0
  · simp
  obtain ⟨h1, _⟩ := h
  apply Nat.lt_of_not_le
  intro hc
  have h2 : 10 ^ 20 ≤ 10 ^ s.length := Nat.pow_le_pow_right (by omega) hc
  have h3 : 10 ^ s.length ≤ u * 10 ^ s.length := Nat.le_mul_of_pos_left _ h0
  omega
theorem dInv.done {u0 : Nat} {s : Str} (h : dInv u0 0 s) (h0 : s ≠ []) : s = natT u0 := by
  rcases h.2 with ⟨h1, _⟩ | ⟨_, h1⟩
  · exact absurd h1 h0
  · rwa [dz0, List.nil_append] at h1
theorem dz_len : ∀ (k n : Nat), n < 10 ^ k → (dz n).length ≤ k
  | 0, n, h => by have : n = 0 := by simpa using h
                  subst this; rw [dz0]; simp
  | k + 1, n, h => by
    by_cases h0 : n = 0
    · subst h0; rw [dz0]; simp
    · rw [dzS (by omega), List.length_append, List.length_singleton]
      have := dz_len k (n / 10) (by rw [Nat.pow_succ] at h; omega)
      omega
theorem natT_len {n : Nat} (h : n < 18446744073709551616) : (natT n).length ≤ 20 := by
  have := dz_len 19 (n / 10) (by omega)
  simp only [natT, List.length_append, List.length_singleton]; omega
theorem dInv.start (u0 : Nat) : dInv u0 u0 [] := ⟨by simp, .inl ⟨rfl, rfl⟩⟩

def u8V (c : UInt8) : V := .int .u8 c.toNat
theorem bytesOfV_u8 : ∀ s : Str, bytesOfV (s.map fun c => [u8V c]) = some s
  | [] => rfl
  | c :: s => by
    have h := bytesOfV_u8 s
    simp only [u8V] at h
    simp [bytesOfV, u8V, h]
def buf (a : Nat) (s : Str) : List V := List.replicate a (.int .u8 0) ++ s.map u8V
theorem buf_len (a : Nat) (s : Str) : (buf a s).length = a + s.length := by simp [buf]
theorem buf_put (b : Nat) (s : Str) (c : UInt8) : ((buf (b + 1) s).map D.v).take b ++ [.v (u8V c)] ++ ((buf (b + 1) s).map D.v).drop (b + 1) = (buf b (c :: s)).map D.v := by
  simp [buf, List.take_append, List.drop_append, List.take_replicate, List.drop_replicate]
theorem buf_drop (a : Nat) (s : Str) : (buf a s).drop a = s.map u8V := by simp [buf]

set_option maxHeartbeats 4000000 in
theorem spec_Text (n : Int) (hn : (Lit.int .i64 n).wf = true) (H : List Ob) (K : D → List Ob → Prop) (hK : K (.v (.str (intT n))) H) : ACalls Tryz.prog G 48 [.v (.int .i64 n)] H K := by
  refine ACalls.go Tryz.f48 _ 37 [2] Tryz.func48 rfl Tryz.ntmps48 (by kernel_rfl) rfl (by simp) (fun E hE hP hG hH => ?_)
  have hM : E.P.follows .mixedOrders = true := hP ▸ mixed
  obtain ⟨n1, n2⟩ := wf64 hn
  have hb : n.natAbs < 18446744073709551616 := by omega
  subst hH
  simp only [args0]
  repeat (first | refine wa ?_ | refine wb rfl ?_ | refine wc rfl rfl hM ?_ | refine wd rfl hM ?_ | ((first | refine we rfl fun K hK => ?_ | refine wf rfl rfl fun K hK => ?_ | refine wg rfl rfl fun K hK => ?_ | refine wh rfl fun K hK => ?_); (simp only [lo, ld, ↓aop, ↓aCall, hP, hG, Nat.reduceLT, ↓reduceIte, Nat.reduceEqDiff, Nat.reduceAdd, Nat.reduceMul, Nat.reduceLeDiff, reduceCtorEq, D.cs, D.plain, fillD, chop, List.replicate, tk_3, ze_3, sz_3, tk_9, ze_9, sz_9, tk_96, ze_96, sz_96, tk_21, ze_21, sz_21]; repeat (with_reducible refine And.intro ?_ ?_; focus (first | decide | omega | (simp only [ln]; omega)))); try ((first | refine hK _ _ ?_ | refine hK _ ?_); clear hK K; simp only [lp])) | ((first | refine wi ?_ | refine wj ?_ | refine wk ?_ | refine wl ?_ | refine wm ?_ | refine wn ?_); simp only [lt, ↓reduceIte, Nat.reduceEqDiff]) | refine wo ?_)
  refine sat_thru (fr 37 [(3, .v (.int .u64 n.natAbs)), (2, .v (.str [])), (0, .v (.int .i64 n))]) E.H0 ?_ ?_
  · refine sat_cond rfl (fun hb => ?_) (fun hb => ?_)
    · simp at hb
      have hw := wrap_neg n hb n1
      repeat (first | refine wa ?_ | refine wb rfl ?_ | refine wc rfl rfl hM ?_ | refine wd rfl hM ?_ | ((first | refine we rfl fun K hK => ?_ | refine wf rfl rfl fun K hK => ?_ | refine wg rfl rfl fun K hK => ?_ | refine wh rfl fun K hK => ?_); (simp only [lo, ld, ↓aop, ↓aCall, hP, hG, Nat.reduceLT, ↓reduceIte, Nat.reduceEqDiff, Nat.reduceAdd, Nat.reduceMul, Nat.reduceLeDiff, reduceCtorEq, D.cs, D.plain, fillD, chop, List.replicate, tk_3, ze_3, sz_3, tk_9, ze_9, sz_9, tk_96, ze_96, sz_96, tk_21, ze_21, sz_21, hw]; repeat (with_reducible refine And.intro ?_ ?_; focus (first | decide | omega | (simp only [ln]; omega)))); try ((first | refine hK _ _ ?_ | refine hK _ ?_); clear hK K; simp only [lp])) | ((first | refine wi ?_ | refine wj ?_ | refine wk ?_ | refine wl ?_ | refine wm ?_ | refine wn ?_); simp only [lt, ↓reduceIte, Nat.reduceEqDiff]) | refine wo ?_)
      refine .weakFr ?_
      simp only [le, ↓reduceIte, Nat.reduceEqDiff, and_true]; repeat' (first | exact trivial | exact D.le_refl _ | exact D.le_any _ | with_reducible refine And.intro ?_ ?_)
    · simp at hb
      have hw := wrap_u64 n hb (by omega)
      have hw2 : (n.natAbs : Int) = n := by omega
      repeat (first | refine wa ?_ | refine wb rfl ?_ | refine wc rfl rfl hM ?_ | refine wd rfl hM ?_ | ((first | refine we rfl fun K hK => ?_ | refine wf rfl rfl fun K hK => ?_ | refine wg rfl rfl fun K hK => ?_ | refine wh rfl fun K hK => ?_); (simp only [lo, ld, ↓aop, ↓aCall, hP, hG, Nat.reduceLT, ↓reduceIte, Nat.reduceEqDiff, Nat.reduceAdd, Nat.reduceMul, Nat.reduceLeDiff, reduceCtorEq, D.cs, D.plain, fillD, chop, List.replicate, tk_3, ze_3, sz_3, tk_9, ze_9, sz_9, tk_96, ze_96, sz_96, tk_21, ze_21, sz_21, hw]; repeat (with_reducible refine And.intro ?_ ?_; focus (first | decide | omega | (simp only [ln]; omega)))); try ((first | refine hK _ _ ?_ | refine hK _ ?_); clear hK K; simp only [lp])) | ((first | refine wi ?_ | refine wj ?_ | refine wk ?_ | refine wl ?_ | refine wm ?_ | refine wn ?_); simp only [lt, ↓reduceIte, Nat.reduceEqDiff]) | refine wo ?_)
      refine .weakFr ?_
      rw [hw, hw2]
      simp only [le, ↓reduceIte, Nat.reduceEqDiff, and_true]; repeat' (first | exact trivial | exact D.le_refl _ | exact D.le_any _ | with_reducible refine And.intro ?_ ?_)
  generalize hu : n.natAbs = u0 at hb
  repeat (first | refine wa ?_ | refine wb rfl ?_ | refine wc rfl rfl hM ?_ | refine wd rfl hM ?_ | ((first | refine we rfl fun K hK => ?_ | refine wf rfl rfl fun K hK => ?_ | refine wg rfl rfl fun K hK => ?_ | refine wh rfl fun K hK => ?_); (simp only [lo, ld, ↓aop, ↓aCall, hP, hG, Nat.reduceLT, ↓reduceIte, Nat.reduceEqDiff, Nat.reduceAdd, Nat.reduceMul, Nat.reduceLeDiff, reduceCtorEq, D.cs, D.plain, fillD, chop, List.replicate, tk_3, ze_3, sz_3, tk_9, ze_9, sz_9, tk_96, ze_96, sz_96, tk_21, ze_21, sz_21, tk_97, ze_97, sz_97, kn_97]; repeat (with_reducible refine And.intro ?_ ?_; focus (first | decide | omega | (simp only [ln]; omega)))); try ((first | refine hK _ _ ?_ | refine hK _ ?_); clear hK K; simp only [lp])) | ((first | refine wi ?_ | refine wj ?_ | refine wk ?_ | refine wl ?_ | refine wm ?_ | refine wn ?_); simp only [lt, ↓reduceIte, Nat.reduceEqDiff]) | refine wo ?_)
  refine sat_loop_ent (fun m ts H => ∃ (a u : Nat) (s : Str), m = u + (if s = [] then 1 else 0) ∧ a + s.length = 20 ∧ dInv u0 u s ∧
    ts = fr 37 [(5, .v (.int .i64 a)), (4, .ptr E.H0.length 0), (3, .v (.int .u64 u)), (2, .v (.str [])), (0, .v (.int .i64 n))] ∧ H = E.H0 ++ [.box ((buf a s).map .v)]) (u0 + 1) (.weakFr ?_) ⟨20, u0, [], rfl, rfl, dInv.start u0, rfl, rfl⟩ ?_
  · simp only [le, ↓reduceIte, Nat.reduceEqDiff, and_true]; repeat' (first | exact trivial | exact D.le_refl _ | exact D.le_any _ | with_reducible refine And.intro ?_ ?_)
  rintro m ts H ⟨a, u, s, rfl, ha, hI, rfl, rfl⟩
  have hub : u < 18446744073709551616 := Nat.lt_of_le_of_lt (Nat.le_trans (Nat.le_mul_of_pos_right u (Nat.pow_pos (by omega))) hI.1) hb
  repeat (first | refine wa ?_ | refine wb rfl ?_ | refine wc rfl rfl hM ?_ | refine wd rfl hM ?_ | ((first | refine we rfl fun K hK => ?_ | refine wf rfl rfl fun K hK => ?_ | refine wg rfl rfl fun K hK => ?_ | refine wh rfl fun K hK => ?_); (simp only [lo, ld, ↓aop, ↓aCall, hP, hG, Nat.reduceLT, ↓reduceIte, Nat.reduceEqDiff, Nat.reduceAdd, Nat.reduceMul, Nat.reduceLeDiff, reduceCtorEq, D.cs, D.plain, fillD, chop, List.replicate]; repeat (with_reducible refine And.intro ?_ ?_; focus (first | decide | omega | (simp only [ln]; omega)))); try ((first | refine hK _ _ ?_ | refine hK _ ?_); clear hK K; simp only [lp])) | ((first | refine wi ?_ | refine wj ?_ | refine wk ?_ | refine wl ?_ | refine wm ?_ | refine wn ?_); simp only [lt, ↓reduceIte, Nat.reduceEqDiff]) | refine wo ?_)
  refine sat_thru (fr 37 [(17, .v (.bool (decide (a = 20) || decide (0 < u)))), (5, .v (.int .i64 a)), (4, .ptr E.H0.length 0), (3, .v (.int .u64 u)), (2, .v (.str [])), (0, .v (.int .i64 n))]) (E.H0 ++ [.box ((buf a s).map .v)]) ?_ ?_
  · (first | refine wr ?_ | refine wp rfl hM ?_ | refine wq hM ?_); repeat' (first | ((first | refine wx ?_ | refine wy ?_ | refine wz ?_); (simp only [lo, ld, ↓aop, ↓aCall, hP, hG, Nat.reduceLT, ↓reduceIte, Nat.reduceEqDiff, Nat.reduceAdd, Nat.reduceMul, Nat.reduceLeDiff, reduceCtorEq, D.cs, D.plain, fillD, chop, List.replicate, tk_3, ze_3, sz_3, tk_9, ze_9, sz_9, tk_96, ze_96, sz_96]; repeat (with_reducible refine And.intro ?_ ?_; focus (first | decide | omega | (simp only [ln]; omega)))); try ((first | refine hK _ _ ?_ | refine hK _ ?_); clear hK K; simp only [lp])) | refine we rfl fun K hK => ?_ | refine wf rfl rfl fun K hK => ?_ | refine wg rfl rfl fun K hK => ?_ | refine wh rfl fun K hK => ?_ | ((first | refine Xg rfl rfl (by decide) ?_ fun K hK => ?_ | refine Yg rfl rfl (by decide) ?_ fun K hK => ?_ | refine Zg rfl rfl rfl (by decide) ?_ fun K hK => ?_); (focus (simp only [look_cons, ↓reduceIte, Nat.reduceEqDiff, Bool.not_true, Bool.not_false]; done))) | ((first | refine Xn rfl rfl (by decide) ?_ ?_ | refine Yn rfl rfl (by decide) ?_ ?_ | refine Zn rfl rfl rfl (by decide) ?_ ?_); (focus (simp only [look_cons, ↓reduceIte, Nat.reduceEqDiff, Bool.not_true, Bool.not_false]; done)); simp only [lp]) | ((first | refine Xo rfl rfl (by decide) ?_ ?_ | refine Yo rfl rfl (by decide) ?_ ?_ | refine Zo rfl rfl rfl (by decide) ?_ ?_); (focus (simp only [look_cons, ↓reduceIte, Nat.reduceEqDiff, Bool.not_true, Bool.not_false]; done)); simp only [lp]) | ((first | refine Xs rfl rfl (by decide) rfl (fun h K hK => ?_) fun h => ?_ | refine Ys rfl rfl (by decide) rfl (fun h K hK => ?_) fun h => ?_ | refine Zs rfl rfl rfl (by decide) rfl (fun h K hK => ?_) fun h => ?_); rotate_left; (focus (simp only [Bool.not_true, Bool.not_false, lp])); rotate_left) | ((first | refine wi ?_ | refine wj ?_ | refine wk ?_); simp only [lt, ↓reduceIte, Nat.reduceEqDiff]))
    all_goals refine .weakFr ?_
    all_goals simp only [le, ↓reduceIte, Nat.reduceEqDiff, and_true]; repeat' (first | exact trivial | exact D.le_refl _ | exact D.le_any _ | with_reducible refine And.intro ?_ ?_)
    all_goals refine D.le_eq (congrArg D.v (congrArg V.bool (Bool.eq_iff_iff.2 ?_))); simp only [decide_eq_true_eq, decide_eq_false_iff_not, Bool.or_eq_true, Bool.and_eq_true, Bool.or_eq_false_iff, Bool.and_eq_false_iff, Bool.not_eq_true', Bool.not_eq_false', Bool.not_eq_eq_eq_not, Bool.not_true, Bool.not_false, beq_iff_eq, beq_eq_false_iff_ne, bne_iff_ne, ne_eq, Bool.false_eq_true, Bool.true_eq_false, true_iff, false_iff, iff_true, iff_false, not_true_eq_false, not_false_eq_true] at *; omega
  refine sat_cond rfl (fun hc => ?_) (fun hc => ?_)
  · have hs : s = [] ∨ 0 < u := by
      simp at hc
      rcases hc with hc | hc
      · left; exact List.length_eq_zero_iff.1 (by omega)
      · exact .inr hc
    have hlen := hI.len hb hs
    obtain ⟨b, rfl⟩ : ∃ b, a = b + 1 := ⟨a - 1, by omega⟩
    have hw := wpred b (by omega)
    have hbl := buf_len (b + 1) s
    have e0 : IntKind.u8.wrap ((u % 10 : Nat) : Int) = ((u % 10 : Nat) : Int) := by
      simp only [IntKind.wrap, IntKind.signed, IntKind.bits, Bool.false_and, Bool.false_eq_true, if_false]; omega
    have e2 := wrap_u64 ((u / 10 : Nat) : Int) (by omega) (by omega)
    repeat (first | refine wa ?_ | refine wb rfl ?_ | refine wc rfl rfl hM ?_ | refine wd rfl hM ?_ | ((first | refine we rfl fun K hK => ?_ | refine wf rfl rfl fun K hK => ?_ | refine wg rfl rfl fun K hK => ?_ | refine wh rfl fun K hK => ?_); (simp only [lo, ld, ↓aop, ↓aCall, hP, hG, Nat.reduceLT, ↓reduceIte, Nat.reduceEqDiff, Nat.reduceAdd, Nat.reduceMul, Nat.reduceLeDiff, reduceCtorEq, D.cs, D.plain, fillD, chop, List.replicate, tk_3, ze_3, sz_3, tk_9, ze_9, sz_9, tk_96, ze_96, sz_96, tk_21, ze_21, sz_21, tk_97, ze_97, sz_97, kn_97, tk_5, ze_5, sz_5, tm, td, e0, e2, hw, hbl]; repeat (with_reducible refine And.intro ?_ ?_; focus (first | decide | omega | (simp only [ln]; omega)))); try ((first | refine hK _ _ ?_ | refine hK _ ?_); clear hK K; simp only [lp])) | ((first | refine wi ?_ | refine wj ?_ | refine wk ?_ | refine wl ?_ | refine wm ?_ | refine wn ?_); simp only [lt, ↓reduceIte, Nat.reduceEqDiff]) | refine wo ?_)
    have e3 : IntKind.u8.wrap (48 + ((u % 10 : Nat) : Int)) = (dig u).toNat := by
      rw [dig_int]
      simp only [IntKind.wrap, IntKind.signed, IntKind.bits, Bool.false_and, Bool.false_eq_true, if_false]; omega
    rw [Nat.mul_one, e3]
    refine ⟨u / 10 + 0, _, _, ?_, ?_, b, u / 10, dig u :: s, by simp, by simp only [List.length_cons]; omega, hI.step hs, rfl, rfl⟩
    · rcases hs with rfl | hs
      · simp; omega
      · split <;> omega
    · rw [show D.v (V.int IntKind.u8 (dig u).toNat) = D.v (u8V (dig u)) from rfl, buf_put]
      refine .weakFr ?_
      simp only [le, ↓reduceIte, Nat.reduceEqDiff, and_true]; repeat' (first | exact trivial | exact D.le_refl _ | exact D.le_any _ | with_reducible refine And.intro ?_ ?_)
  · have hu0 : u = 0 := by simp at hc; omega
    subst hu0
    have hne : s ≠ [] := by rintro rfl; simp at hc ha; omega
    have hd := hI.done hne
    have hl := natT_len hb
    have hbl := buf_len a s
    have hal : a ≤ 20 := by omega
    have hcut : bytesOfV (List.map (fun c => [c]) (List.drop a (List.take 20 (buf a s)))) = some s := by
      rw [List.take_of_length_le (by omega), buf_drop, List.map_map]; exact bytesOfV_u8 s
    rw [← hd] at hl
    repeat (first | refine wa ?_ | refine wb rfl ?_ | refine wc rfl rfl hM ?_ | refine wd rfl hM ?_ | ((first | refine we rfl fun K hK => ?_ | refine wf rfl rfl fun K hK => ?_ | refine wg rfl rfl fun K hK => ?_ | refine wh rfl fun K hK => ?_); (simp only [lo, ld, ↓aop, ↓aCall, hP, hG, Nat.reduceLT, ↓reduceIte, Nat.reduceEqDiff, Nat.reduceAdd, Nat.reduceMul, Nat.reduceLeDiff, reduceCtorEq, D.cs, D.plain, fillD, chop, List.replicate, tk_3, ze_3, sz_3, tk_9, ze_9, sz_9, tk_96, ze_96, sz_96]; repeat (with_reducible refine And.intro ?_ ?_; focus (first | decide | omega | (simp only [ln]; omega)))); try ((first | refine hK _ _ ?_ | refine hK _ ?_); clear hK K; simp only [lp])) | ((first | refine wi ?_ | refine wj ?_ | refine wk ?_ | refine wl ?_ | refine wm ?_ | refine wn ?_); simp only [lt, ↓reduceIte, Nat.reduceEqDiff]) | refine wo ?_)
    refine sat_ent (Ent.freeze 4 E.H0.length (buf a s) [(29, .v (.bool (decide (n < 0)))), (5, .v (.int .i64 a)), (4, .ptr E.H0.length 0), (2, .v (.str [])), (0, .v (.int .i64 n))] (by rw [hp_get0]; rfl) rfl ?_) ?_
    · simp only [le, ↓reduceIte, Nat.reduceEqDiff, and_true]; repeat' (first | exact trivial | exact D.le_refl _ | exact D.le_any _ | with_reducible refine And.intro ?_ ?_)
    rw [hp_set0]
    change Sat _ _ _ (E.H0 ++ [.dead]) _
    refine sat_cond rfl (fun hb => ?_) (fun hb => ?_)
    · repeat (first | refine wa ?_ | refine wb rfl ?_ | refine wc rfl rfl hM ?_ | refine wd rfl hM ?_ | ((first | refine we rfl fun K hK => ?_ | refine wf rfl rfl fun K hK => ?_ | refine wg rfl rfl fun K hK => ?_ | refine wh rfl fun K hK => ?_); (simp only [lo, ld, ↓aop, ↓aCall, hP, hG, Nat.reduceLT, ↓reduceIte, Nat.reduceEqDiff, Nat.reduceAdd, Nat.reduceMul, Nat.reduceLeDiff, reduceCtorEq, D.cs, D.plain, fillD, chop, List.replicate, tk_3, ze_3, sz_3, tk_9, ze_9, sz_9, tk_96, ze_96, sz_96, tk_97, ze_97, sz_97, kn_97, tk_98, ze_98, sz_98, tk_5, ze_5, sz_5, hbl, ha, hal, hcut]; repeat (with_reducible refine And.intro ?_ ?_; focus (first | decide | omega | (simp only [ln]; omega)))); try ((first | refine hK _ _ ?_ | refine hK _ ?_); clear hK K; simp only [lp])) | ((first | refine wi ?_ | refine wj ?_ | refine wk ?_ | refine wl ?_ | refine wm ?_ | refine wn ?_); simp only [lt, ↓reduceIte, Nat.reduceEqDiff]) | refine wo ?_)
      refine Fin.gc _ hE (by decide) rfl trivial ?_
      have : intT n = [45] ++ s := by simp at hb; simp only [intT, hb, if_true, hu, hd]; rfl
      rwa [this] at hK
    · repeat (first | refine wa ?_ | refine wb rfl ?_ | refine wc rfl rfl hM ?_ | refine wd rfl hM ?_ | ((first | refine we rfl fun K hK => ?_ | refine wf rfl rfl fun K hK => ?_ | refine wg rfl rfl fun K hK => ?_ | refine wh rfl fun K hK => ?_); (simp only [lo, ld, ↓aop, ↓aCall, hP, hG, Nat.reduceLT, ↓reduceIte, Nat.reduceEqDiff, Nat.reduceAdd, Nat.reduceMul, Nat.reduceLeDiff, reduceCtorEq, D.cs, D.plain, fillD, chop, List.replicate, tk_3, ze_3, sz_3, tk_9, ze_9, sz_9, tk_96, ze_96, sz_96, tk_97, ze_97, sz_97, kn_97, tk_98, ze_98, sz_98, tk_5, ze_5, sz_5, hbl, ha, hal, hcut]; repeat (with_reducible refine And.intro ?_ ?_; focus (first | decide | omega | (simp only [ln]; omega)))); try ((first | refine hK _ _ ?_ | refine hK _ ?_); clear hK K; simp only [lp])) | ((first | refine wi ?_ | refine wj ?_ | refine wk ?_ | refine wl ?_ | refine wm ?_ | refine wn ?_); simp only [lt, ↓reduceIte, Nat.reduceEqDiff]) | refine wo ?_)
      refine Fin.gc _ hE (by decide) rfl trivial ?_
      have : intT n = s := by simp at hb; simp only [intT, Int.not_lt.2 hb, if_false, hu, hd]
      rwa [this] at hK
end Go.Ag
namespace Go.Ag
open Go Go.Proofs
variable {G : Nat → Option (List V)}
attribute [local irreducible] aops qops Sat aop

def choMid (c : Cho) : Prop := c.path.length ≤ 1000000 ∧ c.slaves.length ≤ 1000000 ∧ ∀ t ∈ c.slaves, t.length ≤ 1000000
theorem getD_len {l : List Str} {m : Nat} (h : ∀ t ∈ l, t.length ≤ m) (i : Nat) : (l.getD i []).length ≤ m := by
  rw [List.getD_eq_getElem?_getD]
  cases hi : l[i]? with
  | none => simp
  | some t => exact h t (List.mem_of_getElem? hi)
theorem slv_mid {x : Alt} (h : altMid x) (i : Nat) : (x.slaves.getD i slv0).name.length ≤ 1000000 ∧ (x.slaves.getD i slv0).link.length ≤ 1000000 := by
  rw [List.getD_eq_getElem?_getD]
  cases hi : x.slaves[i]? with
  | none => simp [slv0]
  | some t => exact h.2.2.2.2.2.1 t (List.mem_of_getElem? hi)
theorem choR_lt (n : Nat) (c : Cho) : ltObs n [.box ((choR c).map .v)] := ⟨by simp only [Ob.lt]; exact ltL_v _ _, trivial⟩
theorem ltObs_two {n : Nat} {a b : Ob} (h1 : ltObs n [a]) (h2 : ltObs n [b]) : ltObs n [a, b] := ⟨h1.1, h2.1, trivial⟩

theorem right_cho {x : Alt} (h : rightP x = true) : (∀ c ∈ x.choices, c.slaves.length = x.slaves.length) ∧ ∃ k : Nat, best x.choices = k ∧ k < x.choices.length := by
  simp only [rightP, choicesOk, Bool.and_eq_true, List.all_eq_true, decide_eq_true_eq] at h
  obtain ⟨⟨⟨_, h1, h2, _⟩, _⟩, _⟩ := h
  constructor
  · intro c hc
    obtain ⟨i, hi, rfl⟩ := List.getElem_of_mem hc
    have h3 := h1 i (List.mem_range.2 hi)
    have e : x.choices.getD i cho0 = x.choices[i] := by simp [List.getD_eq_getElem?_getD, hi]
    rw [e] at h3
    simp [choBad] at h3
    exact h3.1.1.2
  · rcases bestN_rng x.choices x.choices.length with ⟨_, h4⟩ | h4
    · omega
    · exact h4
theorem cho_mid {x : Alt} (h : altMid x) {c : Cho} (hc : c ∈ x.choices) : choMid c := h.2.2.2.2.2.2 c hc
theorem intT_len {n : Int} (h : (Lit.int .i64 n).wf = true) : (intT n).length ≤ 21 := by
  obtain ⟨n1, n2⟩ := wf64 h
  have := natT_len (n := n.natAbs) (by omega)
  unfold intT
  split <;> (try simp only [List.length_cons]) <;> omega
end Go.Ag
namespace Go.Ag
open Go Go.Proofs
variable {G : Nat → Option (List V)}
attribute [local irreducible] aops qops Sat aop

/-! ### alternatives as lines -/
def modeA (x : Alt) : Str := if x.manual then [109, 97, 110, 117, 97, 108, 32] ++ x.cur else [97, 117, 116, 111]
def slvW (x : Alt) : Nat → List Str
  | 0 => []
  | n + 1 => slvW x n ++ [(x.slaves.getD n slv0).name, (x.slaves.getD n slv0).link]
def choW (x : Alt) : Nat → List Str
  | 0 => []
  | n + 1 => choW x n ++ ([(x.choices.getD n cho0).path, intT (x.choices.getD n cho0).prio] ++ (x.choices.getD n cho0).slaves)
def linesA (x : Alt) : List Str := [modeA x, x.link] ++ (slvW x x.slaves.length ++ ([[]] ++ (choW x x.choices.length ++ [[]])))
def textA (x : Alt) : Str := Lib.join (linesA x) [10] ++ [10]
def ShortL (m : Nat) (l : List Str) : Prop := ∀ s ∈ l, s.length ≤ m
theorem join_short {m : Nat} {l : List Str} (h : ShortL m l) : (Lib.join l [10]).length ≤ l.length * (m + 1) := by
  cases l with
  | nil => simp [Lib.join_nil]
  | cons a l =>
    have : (Lib.join (a :: l) [10]).length + 1 = (a :: l).length + ((a :: l).map List.length).sum := by
      clear h
      induction l generalizing a with
      | nil => simp [Lib.join_one]; omega
      | cons b l ih =>
        have h1 := ih b
        have h2 : Lib.join (a :: b :: l) [10] = a ++ ([10] ++ Lib.join (b :: l) [10]) := by simp [Lib.join, List.intercalate]
        rw [h2]
        simp only [List.length_append, List.length_cons, List.length_nil, List.map_cons, List.sum_cons] at h1 ⊢
        omega
    have h3 : ∀ l : List Str, ShortL m l → (l.map List.length).sum ≤ l.length * m := by
      intro l
      induction l with
      | nil => simp
      | cons a l ih =>
        intro h
        have h4 := ih fun s hs => h s (List.mem_cons_of_mem _ hs)
        have h5 := h a (by simp)
        simp only [List.map_cons, List.sum_cons, List.length_cons, Nat.add_mul, Nat.one_mul]; omega
    have h4 := h3 _ h
    rw [Nat.mul_add, Nat.mul_one]; omega
theorem ShortL.append {m : Nat} {a b : List Str} (h1 : ShortL m a) (h2 : ShortL m b) : ShortL m (a ++ b) := fun s hs => (List.mem_append.1 hs).elim (h1 s) (h2 s)
theorem slvW_short {x : Alt} (h : altMid x) : ∀ n, ShortL 1000007 (slvW x n) ∧ (slvW x n).length = n * 2
  | 0 => ⟨fun s hs => by simp [slvW] at hs, rfl⟩
  | n + 1 => by
    obtain ⟨h1, h2⟩ := slvW_short h n
    have h3 := slv_mid h n
    refine ⟨h1.append fun s hs => ?_, by simp only [slvW, List.length_append, h2, List.length_cons, List.length_nil]; omega⟩
    rcases List.mem_cons.1 hs with rfl | hs
    · omega
    · rw [List.mem_singleton] at hs; subst hs; omega
theorem cho_mem {x : Alt} {n : Nat} (h : n < x.choices.length) : x.choices.getD n cho0 ∈ x.choices := by
  rw [List.getD_eq_getElem?_getD, List.getElem?_eq_getElem h]
  exact List.getElem_mem _
theorem choW_short {x : Alt} (h : altMid x) (hr : rightP x = true) (hw : ∀ c ∈ x.choices, (Lit.int .i64 c.prio).wf = true) : ∀ n, n ≤ x.choices.length → ShortL 1000007 (choW x n) ∧ (choW x n).length = n * (x.slaves.length + 2)
  | 0, _ => ⟨fun s hs => by simp [choW] at hs, by simp [choW]⟩
  | n + 1, hn => by
    obtain ⟨h1, h2⟩ := choW_short h hr hw n (by omega)
    have h3 := cho_mem (x := x) (n := n) (by omega)
    have h4 := cho_mid h h3
    have h5 := intT_len (hw _ h3)
    have h6 := (right_cho hr).1 _ h3
    refine ⟨h1.append fun s hs => ?_, by simp only [choW, List.length_append, h2, List.length_cons, List.length_nil, h6, Nat.add_mul, Nat.one_mul]; omega⟩
    rcases List.mem_append.1 hs with hs | hs
    · rcases List.mem_cons.1 hs with rfl | hs
      · exact Nat.le_trans h4.1 (by omega)
      · rw [List.mem_singleton] at hs; subst hs; omega
    · exact Nat.le_trans (h4.2.2 s hs) (by omega)
theorem right_few {x : Alt} (h : rightP x = true) : x.slaves.length ≤ 64 ∧ x.choices.length ≤ 64 := by
  simp only [rightP, choicesOk, slavesOk, Bool.and_eq_true, decide_eq_true_eq] at h
  omega
theorem modeA_len {x : Alt} (h : altMid x) : (modeA x).length ≤ 1000007 := by
  have := h.2.2.1
  unfold modeA
  split <;> simp only [List.length_append, List.length_cons, List.length_nil] <;> omega
theorem linesA_short {x : Alt} (h : altMid x) (hr : rightP x = true) (hw : ∀ c ∈ x.choices, (Lit.int .i64 c.prio).wf = true) : ShortL 1000007 (linesA x) ∧ (linesA x).length ≤ 5000 := by
  obtain ⟨h1, h2⟩ := slvW_short h x.slaves.length
  obtain ⟨h3, h4⟩ := choW_short h hr hw x.choices.length (Nat.le_refl _)
  obtain ⟨h5, h6⟩ := right_few hr
  have h7 := modeA_len h
  have h8 := h.2.1
  refine ⟨ShortL.append (fun s hs => ?_) (h1.append (ShortL.append (fun s hs => ?_) (h3.append fun s hs => ?_))), ?_⟩
  · simp at hs
    rcases hs with rfl | rfl <;> omega
  · simp at hs; subst hs; simp
  · simp at hs; subst hs; simp
  · have h9 : x.choices.length * (x.slaves.length + 2) ≤ 64 * 66 := Nat.mul_le_mul h6 (by omega)
    simp only [linesA, List.length_append, h2, h4, List.length_cons, List.length_nil]; omega

/-! ### the place of a text -/
def idxS (l : List Str) (v : Str) : Int := match l.findIdx? (· == v) with | some i => (i : Int) | none => -1
set_option maxHeartbeats 4000000 in
theorem spec_Index (l : List Str) (v : Str) (hl : l.length ≤ 1099511627776) (H : List Ob) (K : D → List Ob → Prop) (hK : K (.v (.int .i64 (idxS l v))) H) : ACalls Tryz.prog G 76 [.v (strs l), .v (.str v)] H K := by
  refine ACalls.go Tryz.f76 _ 19 [4] Tryz.func76 rfl Tryz.ntmps76 (by kernel_rfl) rfl (by simp) (fun E hE hP hG hH => ?_)
  have hM : E.P.follows .mixedOrders = true := hP ▸ mixed
  subst hH
  simp only [args0]
  repeat (first | refine wa ?_ | refine wb rfl ?_ | refine wc rfl rfl hM ?_ | refine wd rfl hM ?_ | ((first | refine we rfl fun K hK => ?_ | refine wf rfl rfl fun K hK => ?_ | refine wg rfl rfl fun K hK => ?_ | refine wh rfl fun K hK => ?_); (simp only [lo, ld, ↓aop, ↓aCall, hP, hG, Nat.reduceLT, ↓reduceIte, Nat.reduceEqDiff, Nat.reduceAdd, Nat.reduceMul, Nat.reduceLeDiff, reduceCtorEq, D.cs, D.plain, fillD, chop, List.replicate, strs, tk_3, ze_3, sz_3, tk_9, ze_9, sz_9, tk_44, ze_44, sz_44]; repeat (with_reducible refine And.intro ?_ ?_; focus (first | decide | omega | (simp only [ln]; omega)))); try ((first | refine hK _ _ ?_ | refine hK _ ?_); clear hK K; simp only [lp])) | ((first | refine wi ?_ | refine wj ?_ | refine wk ?_ | refine wl ?_ | refine wm ?_ | refine wn ?_); simp only [lt, ↓reduceIte, Nat.reduceEqDiff]) | refine wo ?_)
  refine sat_loop_ent (fun n ts H => ∃ (i : Nat), n = l.length - i ∧ i ≤ l.length ∧ (∀ j, j < i → ∀ s, l[j]? = some s → s ≠ v) ∧
    ts = fr 19 [(8, .v (.int .i64 i)), (7, .v (.int .i64 l.length)), (4, .v (.int .i64 0)), (1, .v (.str v)), (0, .v (strs l))] ∧ H = E.H0) (l.length) (.weakFr ?_) ⟨0, rfl, Nat.zero_le _, by simp, rfl, rfl⟩ ?_
  · simp only [le, ↓reduceIte, Nat.reduceEqDiff, and_true]; repeat' (first | exact trivial | exact D.le_refl _ | exact D.le_any _ | with_reducible refine And.intro ?_ ?_)
  rintro n ts H ⟨i, rfl, hi, hall, rfl, rfl⟩
  repeat (first | refine wa ?_ | refine wb rfl ?_ | refine wc rfl rfl hM ?_ | refine wd rfl hM ?_ | ((first | refine we rfl fun K hK => ?_ | refine wf rfl rfl fun K hK => ?_ | refine wg rfl rfl fun K hK => ?_ | refine wh rfl fun K hK => ?_); (simp only [lo, ld, ↓aop, ↓aCall, hP, hG, Nat.reduceLT, ↓reduceIte, Nat.reduceEqDiff, Nat.reduceAdd, Nat.reduceMul, Nat.reduceLeDiff, reduceCtorEq, D.cs, D.plain, fillD, chop, List.replicate, strs, tk_3, ze_3, sz_3, tk_9, ze_9, sz_9, tk_44, ze_44, sz_44]; repeat (with_reducible refine And.intro ?_ ?_; focus (first | decide | omega | (simp only [ln]; omega)))); try ((first | refine hK _ _ ?_ | refine hK _ ?_); clear hK K; simp only [lp])) | ((first | refine wi ?_ | refine wj ?_ | refine wk ?_ | refine wl ?_ | refine wm ?_ | refine wn ?_); simp only [lt, ↓reduceIte, Nat.reduceEqDiff]) | refine wo ?_)
  refine sat_cond rfl (fun hc => ?_) (fun hc => ?_)
  · simp at hc
    obtain ⟨s, hx⟩ : ∃ s, l[i]? = some s := ⟨_, List.getElem?_eq_getElem hc⟩
    have hw := wrap_succ (i := i) (by omega)
    repeat (first | refine wa ?_ | refine wb rfl ?_ | refine wc rfl rfl hM ?_ | refine wd rfl hM ?_ | ((first | refine we rfl fun K hK => ?_ | refine wf rfl rfl fun K hK => ?_ | refine wg rfl rfl fun K hK => ?_ | refine wh rfl fun K hK => ?_); (simp only [lo, ld, ↓aop, ↓aCall, hP, hG, Nat.reduceLT, ↓reduceIte, Nat.reduceEqDiff, Nat.reduceAdd, Nat.reduceMul, Nat.reduceLeDiff, reduceCtorEq, D.cs, D.plain, fillD, chop, List.replicate, strs, tk_3, ze_3, sz_3, tk_9, ze_9, sz_9, tk_44, ze_44, sz_44, hc, hx]; repeat (with_reducible refine And.intro ?_ ?_; focus (first | decide | omega | (simp only [ln]; omega)))); try ((first | refine hK _ _ ?_ | refine hK _ ?_); clear hK K; simp only [lp])) | ((first | refine wi ?_ | refine wj ?_ | refine wk ?_ | refine wl ?_ | refine wm ?_ | refine wn ?_); simp only [lt, ↓reduceIte, Nat.reduceEqDiff]) | refine wo ?_)
    refine sat_cond rfl (fun hb => ?_) (fun hb => ?_)
    · repeat (first | refine wa ?_ | refine wb rfl ?_ | refine wc rfl rfl hM ?_ | refine wd rfl hM ?_ | ((first | refine we rfl fun K hK => ?_ | refine wf rfl rfl fun K hK => ?_ | refine wg rfl rfl fun K hK => ?_ | refine wh rfl fun K hK => ?_); (simp only [lo, ld, ↓aop, ↓aCall, hP, hG, Nat.reduceLT, ↓reduceIte, Nat.reduceEqDiff, Nat.reduceAdd, Nat.reduceMul, Nat.reduceLeDiff, reduceCtorEq, D.cs, D.plain, fillD, chop, List.replicate]; repeat (with_reducible refine And.intro ?_ ?_; focus (first | decide | omega | (simp only [ln]; omega)))); try ((first | refine hK _ _ ?_ | refine hK _ ?_); clear hK K; simp only [lp])) | ((first | refine wi ?_ | refine wj ?_ | refine wk ?_ | refine wl ?_ | refine wm ?_ | refine wn ?_); simp only [lt, ↓reduceIte, Nat.reduceEqDiff]) | refine wo ?_)
      refine Fin.is _ (by decide) rfl ?_
      have hb' : v = s := by simpa using hb
      subst hb'
      have : idxS l v = i := by
        have h1 : l.findIdx? (· == v) = some i := by
          rw [List.findIdx?_eq_some_iff_getElem]
          refine ⟨hc, ?_, fun j hj => ?_⟩
          · rw [List.getElem?_eq_getElem hc] at hx; cases hx; simp
          · simpa using hall j hj _ (List.getElem?_eq_getElem (by omega))
        rw [idxS, h1]
      rwa [this] at hK
    · repeat (first | refine wa ?_ | refine wb rfl ?_ | refine wc rfl rfl hM ?_ | refine wd rfl hM ?_ | ((first | refine we rfl fun K hK => ?_ | refine wf rfl rfl fun K hK => ?_ | refine wg rfl rfl fun K hK => ?_ | refine wh rfl fun K hK => ?_); (simp only [lo, ld, ↓aop, ↓aCall, hP, hG, Nat.reduceLT, ↓reduceIte, Nat.reduceEqDiff, Nat.reduceAdd, Nat.reduceMul, Nat.reduceLeDiff, reduceCtorEq, D.cs, D.plain, fillD, chop, List.replicate, hw]; repeat (with_reducible refine And.intro ?_ ?_; focus (first | decide | omega | (simp only [ln]; omega)))); try ((first | refine hK _ _ ?_ | refine hK _ ?_); clear hK K; simp only [lp])) | ((first | refine wi ?_ | refine wj ?_ | refine wk ?_ | refine wl ?_ | refine wm ?_ | refine wn ?_); simp only [lt, ↓reduceIte, Nat.reduceEqDiff]) | refine wo ?_)
      refine ⟨l.length - (i + 1), _, _, by omega, .weakFr ?_, i + 1, rfl, by omega, fun j hj s' hs' => ?_, rfl, rfl⟩
      · simp only [le, ↓reduceIte, Nat.reduceEqDiff, and_true]; repeat' (first | exact trivial | exact D.le_refl _ | exact D.le_any _ | with_reducible refine And.intro ?_ ?_)
      · by_cases hji : j = i
        · subst hji
          rw [hx] at hs'; cases hs'
          have hb' : ¬ v = s := by simpa using hb
          exact fun h => hb' h.symm
        · exact hall j (by omega) s' hs'
  · simp at hc
    repeat (first | refine wa ?_ | refine wb rfl ?_ | refine wc rfl rfl hM ?_ | refine wd rfl hM ?_ | ((first | refine we rfl fun K hK => ?_ | refine wf rfl rfl fun K hK => ?_ | refine wg rfl rfl fun K hK => ?_ | refine wh rfl fun K hK => ?_); (simp only [lo, ld, ↓aop, ↓aCall, hP, hG, Nat.reduceLT, ↓reduceIte, Nat.reduceEqDiff, Nat.reduceAdd, Nat.reduceMul, Nat.reduceLeDiff, reduceCtorEq, D.cs, D.plain, fillD, chop, List.replicate]; repeat (with_reducible refine And.intro ?_ ?_; focus (first | decide | omega | (simp only [ln]; omega)))); try ((first | refine hK _ _ ?_ | refine hK _ ?_); clear hK K; simp only [lp])) | ((first | refine wi ?_ | refine wj ?_ | refine wk ?_ | refine wl ?_ | refine wm ?_ | refine wn ?_); simp only [lt, ↓reduceIte, Nat.reduceEqDiff]) | refine wo ?_)
    refine Fin.is _ (by decide) rfl ?_
    have : idxS l v = -1 := by
      have h1 : l.findIdx? (· == v) = none := by
        rw [List.findIdx?_eq_none_iff]
        intro s hs
        obtain ⟨j, hj, rfl⟩ := List.getElem_of_mem hs
        simpa using hall j (by omega) _ (List.getElem?_eq_getElem hj)
      rw [idxS, h1]
    rwa [this] at hK
end Go.Ag
namespace Go.Ag
open Go Go.Proofs
variable {G : Nat → Option (List V)}
attribute [local irreducible] aops qops Sat aop

def printA (x : Alt) : Str × Int := if rightP x then (textA x, 0) else ([], 1)
theorem rowsS_len (l : List Str) : (rowsS l).length = l.length := by simp [rowsS]
theorem rowsS_app (a b : List Str) : rowsS (a ++ b) = rowsS a ++ rowsS b := by simp [rowsS]
theorem rowsS_take (l : List Str) : (rowsS l).take l.length = rowsS l := List.take_of_length_le (by simp [rowsS])
theorem rowsS_v (l : List Str) : rowsS l = (l.map fun s => [V.str s]).map (·.map .v) := by simp [rowsS]
theorem rowsS_lt (n v : Nat) (l : List Str) : Ob.lt n (.arr v 1 (rowsS l) 0) := by
  rw [rowsS_v]; exact ltRows n _
set_option maxRecDepth 20000 in
set_option maxHeartbeats 8000000 in
theorem spec_AltPrint (x : Alt) (m : Int) (hm : altMid x) (hw : ∀ c ∈ x.choices, (Lit.int .i64 c.prio).wf = true) (hG0 : G 0 = some [.int .i64 m]) (H : List Ob) (K : D → List Ob → Prop) (hK : K (.tup [.v (.str (printA x).1), .v (.int .i64 (printA x).2)]) H) : ACalls Tryz.prog G 25 [altd x] H K := by
  refine ACalls.go Tryz.f25 _ 65 [2, 3] Tryz.func25 rfl Tryz.ntmps25 (by kernel_rfl) rfl (by simp) (fun E hE hP hG hH => ?_)
  have hM : E.P.follows .mixedOrders = true := hP ▸ mixed
  have hm0 := hm
  obtain ⟨m1, m2, m3, m4, m5, m6, m7⟩ := hm0
  subst hH
  simp only [args0, altd]
  repeat (first | refine wa ?_ | refine wb rfl ?_ | refine wc rfl rfl hM ?_ | refine wd rfl hM ?_ | ((first | refine we rfl fun K hK => ?_ | refine wf rfl rfl fun K hK => ?_ | refine wg rfl rfl fun K hK => ?_ | refine wh rfl fun K hK => ?_); (simp only [lo, ld, ↓aop, ↓aCall, hP, hG, Nat.reduceLT, ↓reduceIte, Nat.reduceEqDiff, Nat.reduceAdd, Nat.reduceMul, Nat.reduceLeDiff, reduceCtorEq, D.cs, D.plain, fillD, chop, List.replicate, altB, altV, tk_3, ze_3, sz_3, tk_9, ze_9, sz_9, tk_26, ze_26, sz_26, kn_26, tk_41, ze_41, sz_41]; repeat (with_reducible refine And.intro ?_ ?_; focus (first | decide | omega | (simp only [ln]; omega)))); try ((first | refine hK _ _ ?_ | refine hK _ ?_); clear hK K; simp only [lp])) | ((first | refine wi ?_ | refine wj ?_ | refine wk ?_ | refine wl ?_ | refine wm ?_ | refine wn ?_); simp only [lt, ↓reduceIte, Nat.reduceEqDiff]) | refine wo ?_)
  refine spec_AltRight x m hm hG0 _ _ (hK _ _ ?_)
  clear hK K; simp only [lp]
  repeat (first | refine wa ?_ | refine wb rfl ?_ | refine wc rfl rfl hM ?_ | refine wd rfl hM ?_ | ((first | refine we rfl fun K hK => ?_ | refine wf rfl rfl fun K hK => ?_ | refine wg rfl rfl fun K hK => ?_ | refine wh rfl fun K hK => ?_); (simp only [lo, ld, ↓aop, ↓aCall, hP, hG, Nat.reduceLT, ↓reduceIte, Nat.reduceEqDiff, Nat.reduceAdd, Nat.reduceMul, Nat.reduceLeDiff, reduceCtorEq, D.cs, D.plain, fillD, chop, List.replicate, altB, altV, tk_3, ze_3, sz_3, tk_9, ze_9, sz_9, tk_26, ze_26, sz_26, kn_26, tk_41, ze_41, sz_41]; repeat (with_reducible refine And.intro ?_ ?_; focus (first | decide | omega | (simp only [ln]; omega)))); try ((first | refine hK _ _ ?_ | refine hK _ ?_); clear hK K; simp only [lp])) | ((first | refine wi ?_ | refine wj ?_ | refine wk ?_ | refine wl ?_ | refine wm ?_ | refine wn ?_); simp only [lt, ↓reduceIte, Nat.reduceEqDiff]) | refine wo ?_)
  refine sat_cond rfl (fun hb => ?_) (fun hb => ?_)
  · repeat (first | refine wa ?_ | refine wb rfl ?_ | refine wc rfl rfl hM ?_ | refine wd rfl hM ?_ | ((first | refine we rfl fun K hK => ?_ | refine wf rfl rfl fun K hK => ?_ | refine wg rfl rfl fun K hK => ?_ | refine wh rfl fun K hK => ?_); (simp only [lo, ld, ↓aop, ↓aCall, hP, hG, Nat.reduceLT, ↓reduceIte, Nat.reduceEqDiff, Nat.reduceAdd, Nat.reduceMul, Nat.reduceLeDiff, reduceCtorEq, D.cs, D.plain, fillD, chop, List.replicate, tk_41, ze_41, sz_41]; repeat (with_reducible refine And.intro ?_ ?_; focus (first | decide | omega | (simp only [ln]; omega)))); try ((first | refine hK _ _ ?_ | refine hK _ ?_); clear hK K; simp only [lp])) | ((first | refine wi ?_ | refine wj ?_ | refine wk ?_ | refine wl ?_ | refine wm ?_ | refine wn ?_); simp only [lt, ↓reduceIte, Nat.reduceEqDiff]) | refine wo ?_)
    refine Fin.gc2 _ _ hE (by decide) (by decide) (by decide) rfl rfl trivial trivial ?_
    have : printA x = ([], 1) := by rw [Bool.not_eq_true'] at hb; simp [printA, hb]
    rwa [this] at hK
  have hr : rightP x = true := by rw [Bool.not_eq_false'] at hb; exact hb
  obtain ⟨hcs, -⟩ := right_cho hr
  obtain ⟨f1, f2⟩ := right_few hr
  obtain ⟨s1, s2⟩ := linesA_short hm hr hw
  repeat (first | refine wa ?_ | refine wb rfl ?_ | refine wc rfl rfl hM ?_ | refine wd rfl hM ?_ | ((first | refine we rfl fun K hK => ?_ | refine wf rfl rfl fun K hK => ?_ | refine wg rfl rfl fun K hK => ?_ | refine wh rfl fun K hK => ?_); (simp only [lo, ld, ↓aop, ↓aCall, hP, hG, Nat.reduceLT, ↓reduceIte, Nat.reduceEqDiff, Nat.reduceAdd, Nat.reduceMul, Nat.reduceLeDiff, reduceCtorEq, D.cs, D.plain, fillD, chop, List.replicate, altB, altV, tk_3, ze_3, sz_3, tk_4, ze_4, sz_4, tk_9, ze_9, sz_9, tk_26, ze_26, sz_26, kn_26, tk_41, ze_41, sz_41]; repeat (with_reducible refine And.intro ?_ ?_; focus (first | decide | omega | (simp only [ln]; omega)))); try ((first | refine hK _ _ ?_ | refine hK _ ?_); clear hK K; simp only [lp])) | ((first | refine wi ?_ | refine wj ?_ | refine wk ?_ | refine wl ?_ | refine wm ?_ | refine wn ?_); simp only [lt, ↓reduceIte, Nat.reduceEqDiff]) | refine wo ?_)
  refine sat_thru (fr 65 [(4, .v (.str (modeA x))), (3, .v (.int .i64 0)), (2, .v (.str [])), (1, .ptr E.H0.length 0)]) (E.H0 ++ [altB x]) ?_ ?_
  · refine sat_cond rfl (fun hb => ?_) (fun hb => ?_)
    · have e : modeA x = [109, 97, 110, 117, 97, 108, 32] ++ x.cur := by simp only [modeA, hb, if_true]
      repeat (first | refine wa ?_ | refine wb rfl ?_ | refine wc rfl rfl hM ?_ | refine wd rfl hM ?_ | ((first | refine we rfl fun K hK => ?_ | refine wf rfl rfl fun K hK => ?_ | refine wg rfl rfl fun K hK => ?_ | refine wh rfl fun K hK => ?_); (simp only [lo, ld, ↓aop, ↓aCall, hP, hG, Nat.reduceLT, ↓reduceIte, Nat.reduceEqDiff, Nat.reduceAdd, Nat.reduceMul, Nat.reduceLeDiff, reduceCtorEq, D.cs, D.plain, fillD, chop, List.replicate, altB, altV, tk_3, ze_3, sz_3, tk_4, ze_4, sz_4, tk_9, ze_9, sz_9, tk_26, ze_26, sz_26, kn_26]; repeat (with_reducible refine And.intro ?_ ?_; focus (first | decide | omega | (simp only [ln]; omega)))); try ((first | refine hK _ _ ?_ | refine hK _ ?_); clear hK K; simp only [lp])) | ((first | refine wi ?_ | refine wj ?_ | refine wk ?_ | refine wl ?_ | refine wm ?_ | refine wn ?_); simp only [lt, ↓reduceIte, Nat.reduceEqDiff]) | refine wo ?_)
      refine .weakFr ?_
      rw [e]
      simp only [le, ↓reduceIte, Nat.reduceEqDiff, and_true]; repeat' (first | exact trivial | exact D.le_refl _ | exact D.le_any _ | with_reducible refine And.intro ?_ ?_)
    · have e : modeA x = [97, 117, 116, 111] := by simp only [modeA, hb]; rfl
      repeat (first | refine wa ?_ | refine wb rfl ?_ | refine wc rfl rfl hM ?_ | refine wd rfl hM ?_ | ((first | refine we rfl fun K hK => ?_ | refine wf rfl rfl fun K hK => ?_ | refine wg rfl rfl fun K hK => ?_ | refine wh rfl fun K hK => ?_); (simp only [lo, ld, ↓aop, ↓aCall, hP, hG, Nat.reduceLT, ↓reduceIte, Nat.reduceEqDiff, Nat.reduceAdd, Nat.reduceMul, Nat.reduceLeDiff, reduceCtorEq, D.cs, D.plain, fillD, chop, List.replicate]; repeat (with_reducible refine And.intro ?_ ?_; focus (first | decide | omega | (simp only [ln]; omega)))); try ((first | refine hK _ _ ?_ | refine hK _ ?_); clear hK K; simp only [lp])) | ((first | refine wi ?_ | refine wj ?_ | refine wk ?_ | refine wl ?_ | refine wm ?_ | refine wn ?_); simp only [lt, ↓reduceIte, Nat.reduceEqDiff]) | refine wo ?_)
      refine .weakFr ?_
      rw [e]
      simp only [le, ↓reduceIte, Nat.reduceEqDiff, and_true]; repeat' (first | exact trivial | exact D.le_refl _ | exact D.le_any _ | with_reducible refine And.intro ?_ ?_)
  repeat (first | refine wa ?_ | refine wb rfl ?_ | refine wc rfl rfl hM ?_ | refine wd rfl hM ?_ | ((first | refine we rfl fun K hK => ?_ | refine wf rfl rfl fun K hK => ?_ | refine wg rfl rfl fun K hK => ?_ | refine wh rfl fun K hK => ?_); (simp only [lo, ld, ↓aop, ↓aCall, hP, hG, Nat.reduceLT, ↓reduceIte, Nat.reduceEqDiff, Nat.reduceAdd, Nat.reduceMul, Nat.reduceLeDiff, reduceCtorEq, D.cs, D.plain, fillD, chop, List.replicate, altB, altV, slvs, tk_3, ze_3, sz_3, tk_4, ze_4, sz_4, tk_9, ze_9, sz_9, tk_26, ze_26, sz_26, kn_26, tk_44, ze_44, sz_44, tk_23, ze_23, sz_23]; repeat (with_reducible refine And.intro ?_ ?_; focus (first | decide | omega | (simp only [ln]; omega)))); try ((first | refine hK _ _ ?_ | refine hK _ ?_); clear hK K; simp only [lp])) | ((first | refine wi ?_ | refine wj ?_ | refine wk ?_ | refine wl ?_ | refine wm ?_ | refine wn ?_); simp only [lt, ↓reduceIte, Nat.reduceEqDiff]) | refine wo ?_)
  refine sat_loop_ent (fun n ts H => ∃ (i ver : Nat) (l : List Str), n = x.slaves.length - i ∧ i ≤ x.slaves.length ∧ l = [modeA x, x.link] ++ slvW x i ∧ 1 ≤ ver ∧
    ts = fr 65 [(25, .v (.int .i64 i)), (24, .v (.int .i64 x.slaves.length)), (23, .v (slvs x.slaves)), (5, .own (E.H0.length + 1) ver l.length), (2, .v (.str [])), (1, .ptr E.H0.length 0)] ∧ H = E.H0 ++ [altB x, .arr ver 1 (rowsS l) 0]) (x.slaves.length) (.weakFr ?_) ⟨0, 1, _, rfl, Nat.zero_le _, rfl, Nat.le_refl _, rfl, rfl⟩ ?_
  · simp only [le, ↓reduceIte, Nat.reduceEqDiff, and_true]; repeat' (first | exact trivial | exact D.le_refl _ | exact D.le_any _ | with_reducible refine And.intro ?_ ?_)
  rintro n ts H ⟨i, ver, l, rfl, hi, hl, hv, rfl, rfl⟩
  have hll : l.length = 2 + i * 2 := by rw [hl, List.length_append, (slvW_short hm i).2]; rfl
  repeat (first | refine wa ?_ | refine wb rfl ?_ | refine wc rfl rfl hM ?_ | refine wd rfl hM ?_ | ((first | refine we rfl fun K hK => ?_ | refine wf rfl rfl fun K hK => ?_ | refine wg rfl rfl fun K hK => ?_ | refine wh rfl fun K hK => ?_); (simp only [lo, ld, ↓aop, ↓aCall, hP, hG, Nat.reduceLT, ↓reduceIte, Nat.reduceEqDiff, Nat.reduceAdd, Nat.reduceMul, Nat.reduceLeDiff, reduceCtorEq, D.cs, D.plain, fillD, chop, List.replicate, slvs, tk_3, ze_3, sz_3, tk_9, ze_9, sz_9, tk_26, ze_26, sz_26, kn_26, tk_23, ze_23, sz_23, tk_37, ze_37, sz_37, kn_37]; repeat (with_reducible refine And.intro ?_ ?_; focus (first | decide | omega | (simp only [ln]; omega)))); try ((first | refine hK _ _ ?_ | refine hK _ ?_); clear hK K; simp only [lp])) | ((first | refine wi ?_ | refine wj ?_ | refine wk ?_ | refine wl ?_ | refine wm ?_ | refine wn ?_); simp only [lt, ↓reduceIte, Nat.reduceEqDiff]) | refine wo ?_)
  refine sat_cond rfl (fun hb => ?_) (fun hb => ?_)
  · simp at hb
    obtain ⟨s, hx⟩ : ∃ s, x.slaves[i]? = some s := ⟨_, List.getElem?_eq_getElem hb⟩
    have hw := wrap_succ (i := i) (by omega)
    have gx : x.slaves.getD i slv0 = s := by simp [List.getD_eq_getElem?_getD, hx]
    repeat (first | refine wa ?_ | refine wb rfl ?_ | refine wc rfl rfl hM ?_ | refine wd rfl hM ?_ | ((first | refine we rfl fun K hK => ?_ | refine wf rfl rfl fun K hK => ?_ | refine wg rfl rfl fun K hK => ?_ | refine wh rfl fun K hK => ?_); (simp only [lo, ld, ↓aop, ↓aCall, hP, hG, Nat.reduceLT, ↓reduceIte, Nat.reduceEqDiff, Nat.reduceAdd, Nat.reduceMul, Nat.reduceLeDiff, reduceCtorEq, D.cs, D.plain, fillD, chop, List.replicate, slvs, tk_3, ze_3, sz_3, tk_9, ze_9, sz_9, tk_26, ze_26, sz_26, kn_26, tk_23, ze_23, sz_23, tk_37, ze_37, sz_37, kn_37, tk_44, ze_44, sz_44, hb, hx, hw, rowsS_len, rowsS_take]; repeat (with_reducible refine And.intro ?_ ?_; focus (first | decide | omega | (simp only [ln]; omega)))); try ((first | refine hK _ _ ?_ | refine hK _ ?_); clear hK K; simp only [lp])) | ((first | refine wi ?_ | refine wj ?_ | refine wk ?_ | refine wl ?_ | refine wm ?_ | refine wn ?_); simp only [lt, ↓reduceIte, Nat.reduceEqDiff]) | refine wo ?_)
    refine ⟨x.slaves.length - (i + 1), _, _, by omega, ?_, i + 1, ver + 1, l ++ [s.name, s.link], rfl, by omega, by rw [hl, slvW, gx, List.append_assoc], by omega, rfl, rfl⟩
    refine Ent.rnd hE ?_ ?_ ?_ ?_
    · rw [List.length_append]
      simp only [le, ↓reduceIte, Nat.reduceEqDiff, and_true]; repeat' (first | exact trivial | exact D.le_refl _ | exact D.le_any _ | with_reducible refine And.intro ?_ ?_)
    · rw [rowsS_app]; rfl
    · simp [ltAll, ltObs, Ob.lt, D.lt, D.ltL, or_imp, forall_and]
    · exact ⟨(altB_lt _ _).1, rowsS_lt _ _ _, trivial⟩
  simp at hb
  obtain rfl : i = x.slaves.length := by omega
  repeat (first | refine wa ?_ | refine wb rfl ?_ | refine wc rfl rfl hM ?_ | refine wd rfl hM ?_ | ((first | refine we rfl fun K hK => ?_ | refine wf rfl rfl fun K hK => ?_ | refine wg rfl rfl fun K hK => ?_ | refine wh rfl fun K hK => ?_); (simp only [lo, ld, ↓aop, ↓aCall, hP, hG, Nat.reduceLT, ↓reduceIte, Nat.reduceEqDiff, Nat.reduceAdd, Nat.reduceMul, Nat.reduceLeDiff, reduceCtorEq, D.cs, D.plain, fillD, chop, List.replicate, altB, altV, chos, tk_3, ze_3, sz_3, tk_9, ze_9, sz_9, tk_26, ze_26, sz_26, kn_26, tk_23, ze_23, sz_23, tk_44, ze_44, sz_44, tk_24, ze_24, sz_24, rowsS_len, rowsS_take]; repeat (with_reducible refine And.intro ?_ ?_; focus (first | decide | omega | (simp only [ln]; omega)))); try ((first | refine hK _ _ ?_ | refine hK _ ?_); clear hK K; simp only [lp])) | ((first | refine wi ?_ | refine wj ?_ | refine wk ?_ | refine wl ?_ | refine wm ?_ | refine wn ?_); simp only [lt, ↓reduceIte, Nat.reduceEqDiff]) | refine wo ?_)
  refine sat_loop_ent (fun n ts H => ∃ (i ver : Nat) (l2 : List Str), n = x.choices.length - i ∧ i ≤ x.choices.length ∧ l2 = l ++ ([[]] ++ choW x i) ∧ 1 ≤ ver ∧
    ts = fr 65 [(43, .v (.int .i64 i)), (42, .v (.int .i64 x.choices.length)), (41, .v (chos x.choices)), (5, .own (E.H0.length + 1) ver l2.length), (2, .v (.str [])), (1, .ptr E.H0.length 0)] ∧ H = E.H0 ++ [altB x, .arr ver 1 (rowsS l2) 0]) (x.choices.length) (Ent.rnd hE ?_ ?_ ?_ ?_) ⟨0, ver + 1, l ++ [[]], rfl, Nat.zero_le _, rfl, by omega, rfl, rfl⟩ ?_
  · rw [List.length_append]
    simp only [le, ↓reduceIte, Nat.reduceEqDiff, and_true]; repeat' (first | exact trivial | exact D.le_refl _ | exact D.le_any _ | with_reducible refine And.intro ?_ ?_)
  · rw [rowsS_app]; rfl
  · simp [ltAll, ltObs, Ob.lt, D.lt, D.ltL, or_imp, forall_and]
  · exact ⟨(altB_lt _ _).1, rowsS_lt _ _ _, trivial⟩
  rintro n ts H ⟨i, ver, l2, rfl, hi, hl2, hv, rfl, rfl⟩
  have hll2 : l2.length ≤ 5000 := by
    rw [hl2, List.length_append, List.length_append, (choW_short hm hr hw i hi).2, hll]
    have := Nat.mul_le_mul (Nat.le_trans hi f2) (show x.slaves.length + 2 ≤ 66 by omega)
    simp only [List.length_cons, List.length_nil]; omega
  repeat (first | refine wa ?_ | refine wb rfl ?_ | refine wc rfl rfl hM ?_ | refine wd rfl hM ?_ | ((first | refine we rfl fun K hK => ?_ | refine wf rfl rfl fun K hK => ?_ | refine wg rfl rfl fun K hK => ?_ | refine wh rfl fun K hK => ?_); (simp only [lo, ld, ↓aop, ↓aCall, hP, hG, Nat.reduceLT, ↓reduceIte, Nat.reduceEqDiff, Nat.reduceAdd, Nat.reduceMul, Nat.reduceLeDiff, reduceCtorEq, D.cs, D.plain, fillD, chop, List.replicate, chos, tk_3, ze_3, sz_3, tk_9, ze_9, sz_9, tk_26, ze_26, sz_26, kn_26, tk_24, ze_24, sz_24, tk_46, ze_46, sz_46, kn_46]; repeat (with_reducible refine And.intro ?_ ?_; focus (first | decide | omega | (simp only [ln]; omega)))); try ((first | refine hK _ _ ?_ | refine hK _ ?_); clear hK K; simp only [lp])) | ((first | refine wi ?_ | refine wj ?_ | refine wk ?_ | refine wl ?_ | refine wm ?_ | refine wn ?_); simp only [lt, ↓reduceIte, Nat.reduceEqDiff]) | refine wo ?_)
  refine sat_cond rfl (fun hb => ?_) (fun hb => ?_)
  · simp at hb
    obtain ⟨c, hx⟩ : ∃ s, x.choices[i]? = some s := ⟨_, List.getElem?_eq_getElem hb⟩
    have hc := List.mem_of_getElem? hx
    have hw1 := wrap_succ (i := i) (by omega)
    have gx : x.choices.getD i cho0 = c := by simp [List.getD_eq_getElem?_getD, hx]
    have hcn := hcs c hc
    repeat (first | refine wa ?_ | refine wo ?_ | (refine wl ?_; simp only [lt]))
    refine wb rfl ?_
    repeat' (first | ((first | refine wx ?_ | refine wy ?_ | refine wz ?_); (simp only [lo, ld, ↓aop, ↓aCall, hP, hG, Nat.reduceLT, ↓reduceIte, Nat.reduceEqDiff, Nat.reduceAdd, Nat.reduceMul, Nat.reduceLeDiff, reduceCtorEq, D.cs, D.plain, fillD, chop, List.replicate, chos, tk_3, ze_3, sz_3, tk_9, ze_9, sz_9, tk_26, ze_26, sz_26, kn_26, tk_24, ze_24, sz_24, tk_46, ze_46, sz_46, kn_46, tk_44, ze_44, sz_44, hb, hx]; repeat (with_reducible refine And.intro ?_ ?_; focus (first | decide | omega | (simp only [ln]; omega)))); try ((first | refine hK _ _ ?_ | refine hK _ ?_); clear hK K; simp only [lp])) | refine we rfl fun K hK => ?_ | refine wf rfl rfl fun K hK => ?_ | refine wg rfl rfl fun K hK => ?_ | refine wh rfl fun K hK => ?_ | ((first | refine Xg rfl rfl (by decide) ?_ fun K hK => ?_ | refine Yg rfl rfl (by decide) ?_ fun K hK => ?_ | refine Zg rfl rfl rfl (by decide) ?_ fun K hK => ?_); (focus (simp only [look_cons, ↓reduceIte, Nat.reduceEqDiff, Bool.not_true, Bool.not_false]; done))) | ((first | refine Xn rfl rfl (by decide) ?_ ?_ | refine Yn rfl rfl (by decide) ?_ ?_ | refine Zn rfl rfl rfl (by decide) ?_ ?_); (focus (simp only [look_cons, ↓reduceIte, Nat.reduceEqDiff, Bool.not_true, Bool.not_false]; done)); simp only [lp]) | ((first | refine Xo rfl rfl (by decide) ?_ ?_ | refine Yo rfl rfl (by decide) ?_ ?_ | refine Zo rfl rfl rfl (by decide) ?_ ?_); (focus (simp only [look_cons, ↓reduceIte, Nat.reduceEqDiff, Bool.not_true, Bool.not_false]; done)); simp only [lp]) | ((first | refine Xs rfl rfl (by decide) rfl (fun h K hK => ?_) fun h => ?_ | refine Ys rfl rfl (by decide) rfl (fun h K hK => ?_) fun h => ?_ | refine Zs rfl rfl rfl (by decide) rfl (fun h K hK => ?_) fun h => ?_); rotate_left; (focus (simp only [Bool.not_true, Bool.not_false, lp])); rotate_left) | ((first | refine wi ?_ | refine wj ?_ | refine wk ?_); simp only [lt, ↓reduceIte, Nat.reduceEqDiff]))
    refine wa ?_
    refine vb (E.H0.length + 2) ((choR c).map .v) hM (by rw [hp_get]; rfl) ?_
    repeat (first | refine wa ?_ | ((first | refine vl rfl rfl fun K hK => ?_ | refine vf rfl rfl fun K hK => ?_ | refine vg rfl rfl fun K hK => ?_); (simp only [lo, ld, ↓aop, ↓aCall, hP, hG, Nat.reduceLT, ↓reduceIte, Nat.reduceEqDiff, Nat.reduceAdd, Nat.reduceMul, Nat.reduceLeDiff, reduceCtorEq, D.cs, D.plain, fillD, chop, List.replicate, putB_get, choR, tk_3, ze_3, sz_3, tk_9, ze_9, sz_9, tk_46, ze_46, sz_46, kn_46, tk_44, ze_44, sz_44, rowsS_len, rowsS_take]; repeat (with_reducible refine And.intro ?_ ?_; focus (first | decide | omega | (simp only [ln]; omega)))); try ((first | refine hK _ _ (by first | (rw [hp_get]; rfl) | exact hp_old (by assumption)) ?_ | refine hK _ _ ?_ | refine hK _ ?_); clear hK K; simp only [lp])) | (refine vk ?_; simp only [lt, ↓reduceIte, Nat.reduceEqDiff]))
    refine ⟨_, fun H => spec_Text c.prio (hw c hc) _ _ ⟨rfl, rfl⟩, hK _ ?_⟩
    clear hK K; simp only [lp]
    repeat (first | refine wa ?_ | ((first | refine vl rfl rfl fun K hK => ?_ | refine vf rfl rfl fun K hK => ?_ | refine vg rfl rfl fun K hK => ?_); (simp only [lo, ld, ↓aop, ↓aCall, hP, hG, Nat.reduceLT, ↓reduceIte, Nat.reduceEqDiff, Nat.reduceAdd, Nat.reduceMul, Nat.reduceLeDiff, reduceCtorEq, D.cs, D.plain, fillD, chop, List.replicate, putB_get, choR, tk_3, ze_3, sz_3, tk_9, ze_9, sz_9, tk_46, ze_46, sz_46, kn_46, tk_44, ze_44, sz_44, rowsS_len, rowsS_take]; repeat (with_reducible refine And.intro ?_ ?_; focus (first | decide | omega | (simp only [ln]; omega)))); try ((first | refine hK _ _ (by first | (rw [hp_get]; rfl) | exact hp_old (by assumption)) ?_ | refine hK _ _ ?_ | refine hK _ ?_); clear hK K; simp only [lp])) | (refine vk ?_; simp only [lt, ↓reduceIte, Nat.reduceEqDiff]))
    have r1 : rowsS l2 ++ [[D.v (.str c.path)], [D.v (.str (intT c.prio))]] = rowsS (l2 ++ [c.path, intT c.prio]) := by rw [rowsS_app]; rfl
    have r2 : (rowsS (l2 ++ [c.path, intT c.prio])).take (l2.length + 2) = rowsS (l2 ++ [c.path, intT c.prio]) := List.take_of_length_le (by rw [rowsS_len]; simp)
    repeat (first | refine wa ?_ | refine wb rfl ?_ | refine wc rfl rfl hM ?_ | refine wd rfl hM ?_ | ((first | refine we rfl fun K hK => ?_ | refine wf rfl rfl fun K hK => ?_ | refine wg rfl rfl fun K hK => ?_ | refine wh rfl fun K hK => ?_); (simp only [lo, ld, ↓aop, ↓aCall, hP, hG, Nat.reduceLT, ↓reduceIte, Nat.reduceEqDiff, Nat.reduceAdd, Nat.reduceMul, Nat.reduceLeDiff, reduceCtorEq, D.cs, D.plain, fillD, chop, List.replicate, choR, strs, tk_3, ze_3, sz_3, tk_9, ze_9, sz_9, tk_46, ze_46, sz_46, kn_46, tk_44, ze_44, sz_44, rowsS_len, r1, r2, hcn, hw1]; repeat (with_reducible refine And.intro ?_ ?_; focus (first | decide | omega | (simp only [ln]; omega)))); try ((first | refine hK _ _ ?_ | refine hK _ ?_); clear hK K; simp only [lp])) | ((first | refine wi ?_ | refine wj ?_ | refine wk ?_ | refine wl ?_ | refine wm ?_ | refine wn ?_); simp only [lt, ↓reduceIte, Nat.reduceEqDiff]) | refine wo ?_)
    refine ⟨x.choices.length - (i + 1), _, _, by omega, ?_, i + 1, ver + 1 + 1, l2 ++ ([c.path, intT c.prio] ++ c.slaves), rfl, by omega, by rw [hl2, choW, gx]; simp only [List.append_assoc], by omega, rfl, rfl⟩
    have e : (l2 ++ ([c.path, intT c.prio] ++ c.slaves)).length = l2.length + 2 + x.slaves.length := by simp [hcn]; omega
    refine Ent.rnd hE ?_ ?_ ?_ ?_
    · rw [e]
      simp only [le, ↓reduceIte, Nat.reduceEqDiff, and_true]; repeat' (first | exact trivial | exact D.le_refl _ | exact D.le_any _ | with_reducible refine And.intro ?_ ?_)
    · rw [← List.append_assoc, rowsS_app _ c.slaves, rowsS_v c.slaves]; rfl
    · rw [e]
      simp [ltAll, ltObs, Ob.lt, D.lt, D.ltL, or_imp, forall_and]
    · exact ⟨(altB_lt _ _).1, rowsS_lt _ _ _, trivial⟩
  simp at hb
  obtain rfl : i = x.choices.length := by omega
  have el : l2 ++ [[]] = linesA x := by rw [hl2, hl]; simp only [linesA, List.append_assoc]
  have hj : (Lib.join (linesA x) [10]).length ≤ 5000 * 1000008 := Nat.le_trans (join_short s1) (Nat.mul_le_mul_right _ s2)
  repeat (first | refine wa ?_ | refine wb rfl ?_ | refine wc rfl rfl hM ?_ | refine wd rfl hM ?_ | ((first | refine we rfl fun K hK => ?_ | refine wf rfl rfl fun K hK => ?_ | refine wg rfl rfl fun K hK => ?_ | refine wh rfl fun K hK => ?_); (simp only [lo, ld, ↓aop, ↓aCall, hP, hG, Nat.reduceLT, ↓reduceIte, Nat.reduceEqDiff, Nat.reduceAdd, Nat.reduceMul, Nat.reduceLeDiff, reduceCtorEq, D.cs, D.plain, fillD, chop, List.replicate, tk_3, ze_3, sz_3, tk_9, ze_9, sz_9, tk_44, ze_44, sz_44, rowsS_len, rowsS_take]; repeat (with_reducible refine And.intro ?_ ?_; focus (first | decide | omega | (simp only [ln]; omega)))); try ((first | refine hK _ _ ?_ | refine hK _ ?_); clear hK K; simp only [lp])) | ((first | refine wi ?_ | refine wj ?_ | refine wk ?_ | refine wl ?_ | refine wm ?_ | refine wn ?_); simp only [lt, ↓reduceIte, Nat.reduceEqDiff]) | refine wo ?_)
  refine ACalls.pub1 (E.H0.length + 1) ((linesA x).map fun s => [V.str s]) (ver := ver + 1) (esc := 0) (sz := 1) (len := l2.length + 1) ?_ (Nat.zero_le _) ?_ ?_
  · rw [hp_get, ← rowsS_v, ← el, rowsS_app]; rfl
  · rw [← el]; simp
  have et : ((linesA x).map fun s => [V.str s]).take (l2.length + 1) = (linesA x).map fun s => [V.str s] := List.take_of_length_le (by rw [← el]; simp)
  rw [et]
  refine spec_Join (linesA x) [10] (by omega) (by omega) _ _ (hK _ _ ?_)
  clear hK K; simp only [lp]
  rw [hp_set]
  change aops _ _ _ _ (E.H0 ++ [altB x, .arr (ver + 1) 1 _ _, .arr 1 1 [[.v (.str [])]] 0]) _
  repeat (first | refine wa ?_ | refine wb rfl ?_ | refine wc rfl rfl hM ?_ | refine wd rfl hM ?_ | ((first | refine we rfl fun K hK => ?_ | refine wf rfl rfl fun K hK => ?_ | refine wg rfl rfl fun K hK => ?_ | refine wh rfl fun K hK => ?_); (simp only [lo, ld, ↓aop, ↓aCall, hP, hG, Nat.reduceLT, ↓reduceIte, Nat.reduceEqDiff, Nat.reduceAdd, Nat.reduceMul, Nat.reduceLeDiff, reduceCtorEq, D.cs, D.plain, fillD, chop, List.replicate, tk_3, ze_3, sz_3, tk_9, ze_9, sz_9, tk_41, ze_41, sz_41]; repeat (with_reducible refine And.intro ?_ ?_; focus (first | decide | omega | (simp only [ln]; omega)))); try ((first | refine hK _ _ ?_ | refine hK _ ?_); clear hK K; simp only [lp])) | ((first | refine wi ?_ | refine wj ?_ | refine wk ?_ | refine wl ?_ | refine wm ?_ | refine wn ?_); simp only [lt, ↓reduceIte, Nat.reduceEqDiff]) | refine wo ?_)
  refine Fin.gc2 _ _ hE (by decide) (by decide) (by decide) rfl rfl trivial trivial ?_
  have : printA x = (Lib.join (linesA x) [10] ++ [10], 0) := by simp only [printA, hr, if_true, textA]
  rwa [this] at hK
end Go.Ag
namespace Go.Ag
open Go Go.Proofs
variable {G : Nat → Option (List V)}
attribute [local irreducible] aops qops Sat aop

theorem wrapU8 (z : Int) (h0 : 0 ≤ z) (h : z < 256) : IntKind.u8.wrap z = z := by
  simp only [IntKind.wrap, IntKind.signed, IntKind.bits, Bool.false_and, Bool.false_eq_true, if_false]; omega
theorem wrapI64 (z : Int) (h0 : 0 ≤ z) (h : z < 9223372036854775808) : IntKind.i64.wrap z = z := by
  rw [IntKind.wrap_i64]; omega
set_option maxHeartbeats 8000000 in
theorem spec_Int1 (c : UInt8) (n : Nat) (hc : (c.toNat : Int) = 48 + n) (hn : n < 10) (ht : intT n = [c]) (H : List Ob) (K : D → List Ob → Prop) (hK : K (.tup [.v (.int .i64 n), .v (.int .i64 0)]) H) : ACalls Tryz.prog G 52 [.v (.str [c])] H K := by
  refine ACalls.go Tryz.f52 _ 63 [2, 3] Tryz.func52 rfl Tryz.ntmps52 (by kernel_rfl) rfl (by simp) (fun E hE hP hG hH => ?_)
  have hM : E.P.follows .mixedOrders = true := hP ▸ mixed
  subst hH
  have c1 : ((c.toNat : Int) == 45) = false := by rw [hc, beq_eq_false_iff_ne]; omega
  have c2 : decide ((c.toNat : Int) < 48) = false := by rw [hc, decide_eq_false_iff_not]; omega
  have c3 : decide (57 < (c.toNat : Int)) = false := by rw [hc, decide_eq_false_iff_not]; omega
  have c4 : decide ((c.toNat : Int) > 57) = false := c3
  have x0 : [c][Int.toNat 0]?.getD 0 = c := rfl
  have d1 : decide (((1 : Nat) : Int) > 0) = true := rfl
  have d2 : (((1 : Nat) : Int) == 0) = false := rfl
  have d3 : decide (((1 : Nat) : Int) > 19) = false := rfl
  have u0 : IntKind.u64.wrap (0 * 10) = 0 := by rw [wrap_u64] <;> omega
  have u1 : IntKind.u8.wrap ((c.toNat : Int) - 48) = n := by rw [wrapU8] <;> omega
  have u2 : IntKind.u64.wrap (n : Int) = n := by rw [wrap_u64] <;> omega
  have u3 : IntKind.u64.wrap (0 + (n : Int)) = n := by rw [wrap_u64] <;> omega
  have u4 : IntKind.i64.wrap (n : Int) = n := by rw [wrapI64] <;> omega
  have hwf : (Lit.int .i64 (n : Int)).wf = true := by
    simp only [Lit.wf, IntKind.min, IntKind.max, IntKind.signed, IntKind.bits, Bool.and_eq_true, decide_eq_true_eq, if_true]; omega
  simp only [args0]
  repeat (first | refine wa ?_ | refine wb rfl ?_ | refine wc rfl rfl hM ?_ | refine wd rfl hM ?_ | ((first | refine we rfl fun K hK => ?_ | refine wf rfl rfl fun K hK => ?_ | refine wg rfl rfl fun K hK => ?_ | refine wh rfl fun K hK => ?_); (simp only [lo, ld, ↓aop, ↓aCall, hP, hG, Nat.reduceLT, ↓reduceIte, Nat.reduceEqDiff, Nat.reduceAdd, Nat.reduceMul, Nat.reduceLeDiff, reduceCtorEq, D.cs, D.plain, fillD, chop, List.replicate, tk_3, ze_3, sz_3, tk_9, ze_9, sz_9, tk_4, ze_4, sz_4, tk_5, ze_5, sz_5]; repeat (with_reducible refine And.intro ?_ ?_; focus (first | decide | omega | (simp only [ln]; omega)))); try ((first | refine hK _ _ ?_ | refine hK _ ?_); clear hK K; simp only [lp])) | ((first | refine wi ?_ | refine wj ?_ | refine wk ?_ | refine wl ?_ | refine wm ?_ | refine wn ?_); simp only [lt, ↓reduceIte, Nat.reduceEqDiff]) | refine wo ?_)
  refine sat_thru (fr 63 [(17, .v (.bool false)), (5, .v (.bool false)), (4, .v (.str [c])), (3, .v (.int .i64 0)), (2, .v (.int .i64 0)), (0, .v (.str [c]))]) E.H0 ?_ ?_
  · (first | refine wr ?_ | refine wp rfl hM ?_ | refine wq hM ?_); repeat' (first | ((first | refine wx ?_ | refine wy ?_ | refine wz ?_); (simp only [lo, ld, ↓aop, ↓aCall, hP, hG, Nat.reduceLT, ↓reduceIte, Nat.reduceEqDiff, Nat.reduceAdd, Nat.reduceMul, Nat.reduceLeDiff, reduceCtorEq, D.cs, D.plain, fillD, chop, List.replicate, tk_3, ze_3, sz_3, tk_9, ze_9, sz_9, tk_4, ze_4, sz_4, tk_5, ze_5, sz_5, x0, c1, d1, d2, d3]; repeat (with_reducible refine And.intro ?_ ?_; focus (first | decide | omega | (simp only [ln]; omega)))); try ((first | refine hK _ _ ?_ | refine hK _ ?_); clear hK K; simp only [lp])) | refine we rfl fun K hK => ?_ | refine wf rfl rfl fun K hK => ?_ | refine wg rfl rfl fun K hK => ?_ | refine wh rfl fun K hK => ?_ | ((first | refine Xg rfl rfl (by decide) ?_ fun K hK => ?_ | refine Yg rfl rfl (by decide) ?_ fun K hK => ?_ | refine Zg rfl rfl rfl (by decide) ?_ fun K hK => ?_); (focus (simp only [look_cons, ↓reduceIte, Nat.reduceEqDiff, Bool.not_true, Bool.not_false]; done))) | ((first | refine Xn rfl rfl (by decide) ?_ ?_ | refine Yn rfl rfl (by decide) ?_ ?_ | refine Zn rfl rfl rfl (by decide) ?_ ?_); (focus (simp only [look_cons, ↓reduceIte, Nat.reduceEqDiff, Bool.not_true, Bool.not_false]; done)); simp only [lp]) | ((first | refine Xo rfl rfl (by decide) ?_ ?_ | refine Yo rfl rfl (by decide) ?_ ?_ | refine Zo rfl rfl rfl (by decide) ?_ ?_); (focus (simp only [look_cons, ↓reduceIte, Nat.reduceEqDiff, Bool.not_true, Bool.not_false]; done)); simp only [lp]) | ((first | refine Xs rfl rfl (by decide) rfl (fun h K hK => ?_) fun h => ?_ | refine Ys rfl rfl (by decide) rfl (fun h K hK => ?_) fun h => ?_ | refine Zs rfl rfl rfl (by decide) rfl (fun h K hK => ?_) fun h => ?_); rotate_left; (focus (simp only [Bool.not_true, Bool.not_false, lp])); rotate_left) | ((first | refine wi ?_ | refine wj ?_ | refine wk ?_); simp only [lt, ↓reduceIte, Nat.reduceEqDiff]))
    all_goals refine .weakFr ?_
    all_goals simp only [le, ↓reduceIte, Nat.reduceEqDiff, and_true]; repeat' (first | exact trivial | exact D.le_refl _ | exact D.le_any _ | with_reducible refine And.intro ?_ ?_)
  refine sat_cond rfl (fun hb => ?_) (fun hb => ?_)
  · exact absurd hb (by decide)
  repeat (first | refine wa ?_ | refine wb rfl ?_ | refine wc rfl rfl hM ?_ | refine wd rfl hM ?_ | ((first | refine we rfl fun K hK => ?_ | refine wf rfl rfl fun K hK => ?_ | refine wg rfl rfl fun K hK => ?_ | refine wh rfl fun K hK => ?_); (simp only [lo, ld, ↓aop, ↓aCall, hP, hG, Nat.reduceLT, ↓reduceIte, Nat.reduceEqDiff, Nat.reduceAdd, Nat.reduceMul, Nat.reduceLeDiff, reduceCtorEq, D.cs, D.plain, fillD, chop, List.replicate]; repeat (with_reducible refine And.intro ?_ ?_; focus (first | decide | omega | (simp only [ln]; omega)))); try ((first | refine hK _ _ ?_ | refine hK _ ?_); clear hK K; simp only [lp])) | ((first | refine wi ?_ | refine wj ?_ | refine wk ?_ | refine wl ?_ | refine wm ?_ | refine wn ?_); simp only [lt, ↓reduceIte, Nat.reduceEqDiff]) | refine wo ?_)
  refine sat_thru (fr 63 [(27, .v (.bool false)), (5, .v (.bool false)), (4, .v (.str [c])), (3, .v (.int .i64 0)), (2, .v (.int .i64 0)), (0, .v (.str [c]))]) E.H0 ?_ ?_
  · (first | refine wr ?_ | refine wp rfl hM ?_ | refine wq hM ?_); repeat' (first | ((first | refine wx ?_ | refine wy ?_ | refine wz ?_); (simp only [lo, ld, ↓aop, ↓aCall, hP, hG, Nat.reduceLT, ↓reduceIte, Nat.reduceEqDiff, Nat.reduceAdd, Nat.reduceMul, Nat.reduceLeDiff, reduceCtorEq, D.cs, D.plain, fillD, chop, List.replicate, tk_3, ze_3, sz_3, tk_9, ze_9, sz_9, tk_4, ze_4, sz_4, tk_5, ze_5, sz_5, x0, c1, d1, d2, d3]; repeat (with_reducible refine And.intro ?_ ?_; focus (first | decide | omega | (simp only [ln]; omega)))); try ((first | refine hK _ _ ?_ | refine hK _ ?_); clear hK K; simp only [lp])) | refine we rfl fun K hK => ?_ | refine wf rfl rfl fun K hK => ?_ | refine wg rfl rfl fun K hK => ?_ | refine wh rfl fun K hK => ?_ | ((first | refine Xg rfl rfl (by decide) ?_ fun K hK => ?_ | refine Yg rfl rfl (by decide) ?_ fun K hK => ?_ | refine Zg rfl rfl rfl (by decide) ?_ fun K hK => ?_); (focus (simp only [look_cons, ↓reduceIte, Nat.reduceEqDiff, Bool.not_true, Bool.not_false]; done))) | ((first | refine Xn rfl rfl (by decide) ?_ ?_ | refine Yn rfl rfl (by decide) ?_ ?_ | refine Zn rfl rfl rfl (by decide) ?_ ?_); (focus (simp only [look_cons, ↓reduceIte, Nat.reduceEqDiff, Bool.not_true, Bool.not_false]; done)); simp only [lp]) | ((first | refine Xo rfl rfl (by decide) ?_ ?_ | refine Yo rfl rfl (by decide) ?_ ?_ | refine Zo rfl rfl rfl (by decide) ?_ ?_); (focus (simp only [look_cons, ↓reduceIte, Nat.reduceEqDiff, Bool.not_true, Bool.not_false]; done)); simp only [lp]) | ((first | refine Xs rfl rfl (by decide) rfl (fun h K hK => ?_) fun h => ?_ | refine Ys rfl rfl (by decide) rfl (fun h K hK => ?_) fun h => ?_ | refine Zs rfl rfl rfl (by decide) rfl (fun h K hK => ?_) fun h => ?_); rotate_left; (focus (simp only [Bool.not_true, Bool.not_false, lp])); rotate_left) | ((first | refine wi ?_ | refine wj ?_ | refine wk ?_); simp only [lt, ↓reduceIte, Nat.reduceEqDiff]))
    all_goals refine .weakFr ?_
    all_goals simp only [le, ↓reduceIte, Nat.reduceEqDiff, and_true]; repeat' (first | exact trivial | exact D.le_refl _ | exact D.le_any _ | with_reducible refine And.intro ?_ ?_)
  refine sat_cond rfl (fun hb => ?_) (fun hb => ?_)
  · exact absurd hb (by decide)
  repeat (first | refine wa ?_ | refine wb rfl ?_ | refine wc rfl rfl hM ?_ | refine wd rfl hM ?_ | ((first | refine we rfl fun K hK => ?_ | refine wf rfl rfl fun K hK => ?_ | refine wg rfl rfl fun K hK => ?_ | refine wh rfl fun K hK => ?_); (simp only [lo, ld, ↓aop, ↓aCall, hP, hG, Nat.reduceLT, ↓reduceIte, Nat.reduceEqDiff, Nat.reduceAdd, Nat.reduceMul, Nat.reduceLeDiff, reduceCtorEq, D.cs, D.plain, fillD, chop, List.replicate, tk_3, ze_3, sz_3, tk_9, ze_9, sz_9, tk_4, ze_4, sz_4, tk_5, ze_5, sz_5]; repeat (with_reducible refine And.intro ?_ ?_; focus (first | decide | omega | (simp only [ln]; omega)))); try ((first | refine hK _ _ ?_ | refine hK _ ?_); clear hK K; simp only [lp])) | ((first | refine wi ?_ | refine wj ?_ | refine wk ?_ | refine wl ?_ | refine wm ?_ | refine wn ?_); simp only [lt, ↓reduceIte, Nat.reduceEqDiff]) | refine wo ?_)
  refine sat_loop_ent (fun k ts H => (k = 1 ∧ ts = fr 63 [(30, .v (.int .i64 0)), (29, .v (.int .i64 1)), (6, .v (.int .u64 0)), (5, .v (.bool false)), (4, .v (.str [c])), (3, .v (.int .i64 0)), (2, .v (.int .i64 0)), (0, .v (.str [c]))] ∧ H = E.H0) ∨
    (k = 0 ∧ ts = fr 63 [(30, .v (.int .i64 1)), (29, .v (.int .i64 1)), (6, .v (.int .u64 n)), (5, .v (.bool false)), (4, .v (.str [c])), (3, .v (.int .i64 0)), (2, .v (.int .i64 0)), (0, .v (.str [c]))] ∧ H = E.H0)) 1 (.weakFr ?_) (.inl ⟨rfl, rfl, rfl⟩) ?_
  · simp only [le, ↓reduceIte, Nat.reduceEqDiff, and_true]; repeat' (first | exact trivial | exact D.le_refl _ | exact D.le_any _ | with_reducible refine And.intro ?_ ?_)
  rintro k ts H (⟨rfl, rfl, rfl⟩ | ⟨rfl, rfl, rfl⟩)
  · repeat (first | refine wa ?_ | refine wb rfl ?_ | refine wc rfl rfl hM ?_ | refine wd rfl hM ?_ | ((first | refine we rfl fun K hK => ?_ | refine wf rfl rfl fun K hK => ?_ | refine wg rfl rfl fun K hK => ?_ | refine wh rfl fun K hK => ?_); (simp only [lo, ld, ↓aop, ↓aCall, hP, hG, Nat.reduceLT, ↓reduceIte, Nat.reduceEqDiff, Nat.reduceAdd, Nat.reduceMul, Nat.reduceLeDiff, reduceCtorEq, D.cs, D.plain, fillD, chop, List.replicate, tk_3, ze_3, sz_3, tk_9, ze_9, sz_9, tk_4, ze_4, sz_4, tk_5, ze_5, sz_5]; repeat (with_reducible refine And.intro ?_ ?_; focus (first | decide | omega | (simp only [ln]; omega)))); try ((first | refine hK _ _ ?_ | refine hK _ ?_); clear hK K; simp only [lp])) | ((first | refine wi ?_ | refine wj ?_ | refine wk ?_ | refine wl ?_ | refine wm ?_ | refine wn ?_); simp only [lt, ↓reduceIte, Nat.reduceEqDiff]) | refine wo ?_)
    refine sat_cond rfl (fun hb => ?_) (fun hb => ?_)
    · repeat (first | refine wa ?_ | refine wb rfl ?_ | refine wc rfl rfl hM ?_ | refine wd rfl hM ?_ | ((first | refine we rfl fun K hK => ?_ | refine wf rfl rfl fun K hK => ?_ | refine wg rfl rfl fun K hK => ?_ | refine wh rfl fun K hK => ?_); (simp only [lo, ld, ↓aop, ↓aCall, hP, hG, Nat.reduceLT, ↓reduceIte, Nat.reduceEqDiff, Nat.reduceAdd, Nat.reduceMul, Nat.reduceLeDiff, reduceCtorEq, D.cs, D.plain, fillD, chop, List.replicate, tk_3, ze_3, sz_3, tk_9, ze_9, sz_9, tk_4, ze_4, sz_4, tk_5, ze_5, sz_5]; repeat (with_reducible refine And.intro ?_ ?_; focus (first | decide | omega | (simp only [ln]; omega)))); try ((first | refine hK _ _ ?_ | refine hK _ ?_); clear hK K; simp only [lp])) | ((first | refine wi ?_ | refine wj ?_ | refine wk ?_ | refine wl ?_ | refine wm ?_ | refine wn ?_); simp only [lt, ↓reduceIte, Nat.reduceEqDiff]) | refine wo ?_)
      refine sat_thru (fr 63 [(42, .v (.bool false)), (7, .v (.int .i64 0)), (30, .v (.int .i64 0)), (29, .v (.int .i64 1)), (6, .v (.int .u64 0)), (5, .v (.bool false)), (4, .v (.str [c])), (3, .v (.int .i64 0)), (2, .v (.int .i64 0)), (0, .v (.str [c]))]) E.H0 ?_ ?_
      · (first | refine wr ?_ | refine wp rfl hM ?_ | refine wq hM ?_); repeat' (first | ((first | refine wx ?_ | refine wy ?_ | refine wz ?_); (simp only [lo, ld, ↓aop, ↓aCall, hP, hG, Nat.reduceLT, ↓reduceIte, Nat.reduceEqDiff, Nat.reduceAdd, Nat.reduceMul, Nat.reduceLeDiff, reduceCtorEq, D.cs, D.plain, fillD, chop, List.replicate, tk_3, ze_3, sz_3, tk_9, ze_9, sz_9, tk_4, ze_4, sz_4, tk_5, ze_5, sz_5, x0, c2, c3, c4]; repeat (with_reducible refine And.intro ?_ ?_; focus (first | decide | omega | (simp only [ln]; omega)))); try ((first | refine hK _ _ ?_ | refine hK _ ?_); clear hK K; simp only [lp])) | refine we rfl fun K hK => ?_ | refine wf rfl rfl fun K hK => ?_ | refine wg rfl rfl fun K hK => ?_ | refine wh rfl fun K hK => ?_ | ((first | refine Xg rfl rfl (by decide) ?_ fun K hK => ?_ | refine Yg rfl rfl (by decide) ?_ fun K hK => ?_ | refine Zg rfl rfl rfl (by decide) ?_ fun K hK => ?_); (focus (simp only [look_cons, ↓reduceIte, Nat.reduceEqDiff, Bool.not_true, Bool.not_false]; done))) | ((first | refine Xn rfl rfl (by decide) ?_ ?_ | refine Yn rfl rfl (by decide) ?_ ?_ | refine Zn rfl rfl rfl (by decide) ?_ ?_); (focus (simp only [look_cons, ↓reduceIte, Nat.reduceEqDiff, Bool.not_true, Bool.not_false]; done)); simp only [lp]) | ((first | refine Xo rfl rfl (by decide) ?_ ?_ | refine Yo rfl rfl (by decide) ?_ ?_ | refine Zo rfl rfl rfl (by decide) ?_ ?_); (focus (simp only [look_cons, ↓reduceIte, Nat.reduceEqDiff, Bool.not_true, Bool.not_false]; done)); simp only [lp]) | ((first | refine Xs rfl rfl (by decide) rfl (fun h K hK => ?_) fun h => ?_ | refine Ys rfl rfl (by decide) rfl (fun h K hK => ?_) fun h => ?_ | refine Zs rfl rfl rfl (by decide) rfl (fun h K hK => ?_) fun h => ?_); rotate_left; (focus (simp only [Bool.not_true, Bool.not_false, lp])); rotate_left) | ((first | refine wi ?_ | refine wj ?_ | refine wk ?_); simp only [lt, ↓reduceIte, Nat.reduceEqDiff]))
        all_goals refine .weakFr ?_
        all_goals simp only [le, ↓reduceIte, Nat.reduceEqDiff, and_true]; repeat' (first | exact trivial | exact D.le_refl _ | exact D.le_any _ | with_reducible refine And.intro ?_ ?_)
      refine sat_cond rfl (fun hb => ?_) (fun hb => ?_)
      · exact absurd hb (by decide)
      repeat (first | refine wa ?_ | refine wb rfl ?_ | refine wc rfl rfl hM ?_ | refine wd rfl hM ?_ | ((first | refine we rfl fun K hK => ?_ | refine wf rfl rfl fun K hK => ?_ | refine wg rfl rfl fun K hK => ?_ | refine wh rfl fun K hK => ?_); (simp only [lo, ld, ↓aop, ↓aCall, hP, hG, Nat.reduceLT, ↓reduceIte, Nat.reduceEqDiff, Nat.reduceAdd, Nat.reduceMul, Nat.reduceLeDiff, reduceCtorEq, D.cs, D.plain, fillD, chop, List.replicate, tk_3, ze_3, sz_3, tk_9, ze_9, sz_9, tk_4, ze_4, sz_4, tk_5, ze_5, sz_5, tk_96, ze_96, sz_96, x0, u0, u1, u2, u3]; repeat (with_reducible refine And.intro ?_ ?_; focus (first | decide | omega | (simp only [ln]; omega)))); try ((first | refine hK _ _ ?_ | refine hK _ ?_); clear hK K; simp only [lp])) | ((first | refine wi ?_ | refine wj ?_ | refine wk ?_ | refine wl ?_ | refine wm ?_ | refine wn ?_); simp only [lt, ↓reduceIte, Nat.reduceEqDiff]) | refine wo ?_)
      refine ⟨0, _, _, by omega, .weakFr ?_, .inr ⟨rfl, rfl, rfl⟩⟩
      simp only [le, ↓reduceIte, Nat.reduceEqDiff, and_true]; repeat' (first | exact trivial | exact D.le_refl _ | exact D.le_any _ | with_reducible refine And.intro ?_ ?_)
    · exact absurd hb (by decide)
  · repeat (first | refine wa ?_ | refine wb rfl ?_ | refine wc rfl rfl hM ?_ | refine wd rfl hM ?_ | ((first | refine we rfl fun K hK => ?_ | refine wf rfl rfl fun K hK => ?_ | refine wg rfl rfl fun K hK => ?_ | refine wh rfl fun K hK => ?_); (simp only [lo, ld, ↓aop, ↓aCall, hP, hG, Nat.reduceLT, ↓reduceIte, Nat.reduceEqDiff, Nat.reduceAdd, Nat.reduceMul, Nat.reduceLeDiff, reduceCtorEq, D.cs, D.plain, fillD, chop, List.replicate, tk_3, ze_3, sz_3, tk_9, ze_9, sz_9, tk_4, ze_4, sz_4, tk_5, ze_5, sz_5]; repeat (with_reducible refine And.intro ?_ ?_; focus (first | decide | omega | (simp only [ln]; omega)))); try ((first | refine hK _ _ ?_ | refine hK _ ?_); clear hK K; simp only [lp])) | ((first | refine wi ?_ | refine wj ?_ | refine wk ?_ | refine wl ?_ | refine wm ?_ | refine wn ?_); simp only [lt, ↓reduceIte, Nat.reduceEqDiff]) | refine wo ?_)
    refine sat_cond rfl (fun hb => ?_) (fun hb => ?_)
    · exact absurd hb (by decide)
    repeat (first | refine wa ?_ | refine wb rfl ?_ | refine wc rfl rfl hM ?_ | refine wd rfl hM ?_ | ((first | refine we rfl fun K hK => ?_ | refine wf rfl rfl fun K hK => ?_ | refine wg rfl rfl fun K hK => ?_ | refine wh rfl fun K hK => ?_); (simp only [lo, ld, ↓aop, ↓aCall, hP, hG, Nat.reduceLT, ↓reduceIte, Nat.reduceEqDiff, Nat.reduceAdd, Nat.reduceMul, Nat.reduceLeDiff, reduceCtorEq, D.cs, D.plain, fillD, chop, List.replicate, tk_3, ze_3, sz_3, tk_9, ze_9, sz_9, tk_4, ze_4, sz_4, tk_5, ze_5, sz_5, tk_96, ze_96, sz_96, u4]; repeat (with_reducible refine And.intro ?_ ?_; focus (first | decide | omega | (simp only [ln]; omega)))); try ((first | refine hK _ _ ?_ | refine hK _ ?_); clear hK K; simp only [lp])) | ((first | refine wi ?_ | refine wj ?_ | refine wk ?_ | refine wl ?_ | refine wm ?_ | refine wn ?_); simp only [lt, ↓reduceIte, Nat.reduceEqDiff]) | refine wo ?_)
    refine sat_cond rfl (fun hb => ?_) (fun hb => ?_)
    · exact absurd hb (by decide)
    repeat (first | refine wa ?_ | refine wb rfl ?_ | refine wc rfl rfl hM ?_ | refine wd rfl hM ?_ | ((first | refine we rfl fun K hK => ?_ | refine wf rfl rfl fun K hK => ?_ | refine wg rfl rfl fun K hK => ?_ | refine wh rfl fun K hK => ?_); (simp only [lo, ld, ↓aop, ↓aCall, hP, hG, Nat.reduceLT, ↓reduceIte, Nat.reduceEqDiff, Nat.reduceAdd, Nat.reduceMul, Nat.reduceLeDiff, reduceCtorEq, D.cs, D.plain, fillD, chop, List.replicate]; repeat (with_reducible refine And.intro ?_ ?_; focus (first | decide | omega | (simp only [ln]; omega)))); try ((first | refine hK _ _ ?_ | refine hK _ ?_); clear hK K; simp only [lp])) | ((first | refine wi ?_ | refine wj ?_ | refine wk ?_ | refine wl ?_ | refine wm ?_ | refine wn ?_); simp only [lt, ↓reduceIte, Nat.reduceEqDiff]) | refine wo ?_)
    refine spec_Text n hwf _ _ (hK _ _ ?_)
    clear hK K; simp only [lp]
    repeat (first | refine wa ?_ | refine wb rfl ?_ | refine wc rfl rfl hM ?_ | refine wd rfl hM ?_ | ((first | refine we rfl fun K hK => ?_ | refine wf rfl rfl fun K hK => ?_ | refine wg rfl rfl fun K hK => ?_ | refine wh rfl fun K hK => ?_); (simp only [lo, ld, ↓aop, ↓aCall, hP, hG, Nat.reduceLT, ↓reduceIte, Nat.reduceEqDiff, Nat.reduceAdd, Nat.reduceMul, Nat.reduceLeDiff, reduceCtorEq, D.cs, D.plain, fillD, chop, List.replicate, tk_3, ze_3, sz_3, tk_9, ze_9, sz_9, tk_4, ze_4, sz_4, ht, bne_self_eq_false]; repeat (with_reducible refine And.intro ?_ ?_; focus (first | decide | omega | (simp only [ln]; omega)))); try ((first | refine hK _ _ ?_ | refine hK _ ?_); clear hK K; simp only [lp])) | ((first | refine wi ?_ | refine wj ?_ | refine wk ?_ | refine wl ?_ | refine wm ?_ | refine wn ?_); simp only [lt, ↓reduceIte, Nat.reduceEqDiff]) | refine wo ?_)
    refine sat_cond rfl (fun hb => ?_) (fun hb => ?_)
    · exact absurd hb (by decide)
    repeat (first | refine wa ?_ | refine wb rfl ?_ | refine wc rfl rfl hM ?_ | refine wd rfl hM ?_ | ((first | refine we rfl fun K hK => ?_ | refine wf rfl rfl fun K hK => ?_ | refine wg rfl rfl fun K hK => ?_ | refine wh rfl fun K hK => ?_); (simp only [lo, ld, ↓aop, ↓aCall, hP, hG, Nat.reduceLT, ↓reduceIte, Nat.reduceEqDiff, Nat.reduceAdd, Nat.reduceMul, Nat.reduceLeDiff, reduceCtorEq, D.cs, D.plain, fillD, chop, List.replicate]; repeat (with_reducible refine And.intro ?_ ?_; focus (first | decide | omega | (simp only [ln]; omega)))); try ((first | refine hK _ _ ?_ | refine hK _ ?_); clear hK K; simp only [lp])) | ((first | refine wi ?_ | refine wj ?_ | refine wk ?_ | refine wl ?_ | refine wm ?_ | refine wn ?_); simp only [lt, ↓reduceIte, Nat.reduceEqDiff]) | refine wo ?_)
    exact Fin.is2 _ _ (by decide) (by decide) rfl rfl hK
end Go.Ag
/- AGo, part 29: Cut, and Clone told by value. -/
namespace Go.Ag
open Go Go.RowKit Go.Sort Go.Proofs
variable {P : Program} {G : Nat → Option (List V)} {f : FuncId} {H : List Ob} {K : D → List Ob → Prop}

theorem lib_Cut (hc : callB P f = true) (s sep : List UInt8) (g : Nat) (m : Int) (hG : G g = some [.int .i64 m])
    (h : ∀ (s sep : ByteArray) (m : Int) (w : World) (hs : s.size < 4294967281) (hm : w.cell? ⟨g, 0, none⟩ = some (.int .i64 m)),
      Calls P f #[.string s, .string sep] w fun e w' => e = .returned (.tuple #[.string ⟨(Lib.cut s.data.toList sep.data.toList).1.toArray⟩, .string ⟨(Lib.cut s.data.toList sep.data.toList).2.1.toArray⟩, .bool (Lib.cut s.data.toList sep.data.toList).2.2]) ∧ ∃ n, w' = w.drewN n)
    (hs : s.length < 4294967281) (hK : K (.tup [.v (.str (Lib.cut s sep).1), .v (.str (Lib.cut s sep).2.1), .v (.bool (Lib.cut s sep).2.2)]) H) : ACalls P G f [.v (.str s), .v (.str sep)] H K := by
  refine ACalls.of_calls hc fun E e1 e2 M μ w vs hr hv => ?_
  obtain ⟨y1, y2, rfl, g1, g2⟩ := hv.two
  simp only [Rel, RelV] at g1 g2
  subst g1; subst g2
  have hm : w.cell? ⟨g, 0, none⟩ = some (.int .i64 m) := by
    have := hr.glob g _ (e2 ▸ hG)
    simp only [RelRow, RelV] at this
    obtain ⟨⟨y, hy, rfl⟩, _⟩ := this
    exact hr.imm _ _ _ hy
  refine (h _ _ m w (by rw [size_mk]; exact hs) hm).mono ?_
  rintro e w' ⟨rfl, n, rfl⟩
  refine ⟨_, _, rfl, ⟨rfl, rfl, rfl, Nat.le_refl _, fun k hk => rfl⟩, ?_, hK⟩
  simp only [Rel]
  refine ⟨_, rfl, ?_⟩
  simp [RelL, Rel, RelV]

theorem lib_CloneV {t : TypeId} (hc : callB P f = true) (l : List Str)
    (h0 : ∀ (n c : Nat) (w : World), Calls P f #[.slice none n c] w fun e w' => e = .returned (.slice none 0 0) ∧ w' = w)
    (h1 : ∀ (a : Addr) (c : Nat) (w : World), Calls P f #[.slice (some a) 0 c] w fun e w' => ∃ v', e = .returned v' ∧ w'.ownsRow w.heap.size t 1 v' 0 [] ∧ v' ≠ .slice none 0 0 ∧ Below w.heap.size w w')
    (h : ∀ (b off n c : Nat) (zs : List ByteArray) (w : World) (hz : n ≤ zs.length) (hbig : n * 16 ≤ 140737488355328) (hc : ∀ j, j < zs.length → w.cell? ⟨b, off + j, none⟩ = some (.string (zs.getD j ByteArray.empty))),
      Calls P f #[.slice (some ⟨b, off, none⟩) n c] w fun e w' => ∃ v', e = .returned v' ∧ w'.ownsRow w.heap.size t 1 v' n ((zs.take n).map (Value.string)) ∧ v' ≠ .slice none 0 0 ∧ Below w.heap.size w w')
    (hbig : l.length * 16 ≤ 140737488355328) (hK : K (.v (.list 1 (l.map fun s => [.str s]))) H) : ACalls P G f [.v (.list 1 (l.map fun s => [.str s]))] H K := by
  refine ACalls.of_new hc fun E e1 e2 M μ w vs hr hv => ?_
  obtain ⟨y1, rfl, g1⟩ := hv.one
  obtain ⟨A, c, rfl, hcap, hh⟩ := hr.strs g1
  have emp : l = [] → ∀ (a : Option Addr) (n : Nat) (M : Mem), Rel M μ (.v (.list 1 (l.map fun s => [.str s]))) (.slice a 0 n) := fun e a n M => by
    subst e; simp only [Rel]; exact relV_strs_nil
  have none' : ∀ (o : Nat) (y : Value), ([] : List Value)[o]? = some y → False := fun o y hy => by simp at hy
  rcases hh with hl | ⟨b, o, rfl, hb, _, hcell⟩
  · have hl0 : l.length = 0 := by rw [hl]; rfl
    rw [hl0]
    cases A with
    | none =>
      refine (h0 0 c w).mono ?_
      rintro e w' ⟨rfl, rfl⟩
      exact ⟨_, _, _, [], rfl, .refl _ _, Nat.le_refl _, fun o y hy => (none' o y hy).elim, emp hl _ _ _, hK⟩
    | some a =>
      refine (h1 a c w).mono ?_
      rintro e w' ⟨v', rfl, ⟨hxl, hown⟩, hnn, hbel⟩
      rcases hown with ⟨rfl, _⟩ | ⟨g, cap, cur, rfl, hg, hheap, hncap, hcm, hcs, htk⟩
      · exact absurd rfl hnn
      exact ⟨_, _, g, [], rfl, hbel, hg, fun o y hy => (none' o y hy).elim, emp hl _ _ _, hK⟩
  have := h b o l.length c (l.map fun s => ByteArray.mk s.toArray) w (by simp) hbig (fun j hj => by
    obtain ⟨s, hs⟩ : ∃ s, l[j]? = some s := ⟨_, List.getElem?_eq_getElem (by simpa using hj)⟩
    rw [hcell j s hs]; simp [List.getD_eq_getElem?_getD, hs])
  refine this.mono ?_
  rintro e w' ⟨v', rfl, ⟨hxl, hown⟩, hnn, hbel⟩
  rcases hown with ⟨rfl, _⟩ | ⟨g, cap, cur, rfl, hg, hheap, hncap, hcm, hcs, htk⟩
  · exact absurd rfl hnn
  have htk' : cur.toList.take l.length = l.map encStr := by
    have e := htk
    rw [Nat.mul_one] at e
    rw [e, List.take_of_length_le (by simp), List.map_map]
    rfl
  refine ⟨_, _, g, cur.toList.take l.length, rfl, hbel, hg, fun o y hy => ?_, ?_, hK⟩
  · rw [cell?_block (vs := cur.toList) (t := t) (by simpa using hheap)]
    rw [List.getElem?_take] at hy
    split at hy
    · exact hy
    · cases hy
  · simp only [Rel, RelV]
    refine ⟨_, _, by rw [List.length_map], by rw [List.length_map]; exact hncap, .inr ⟨_, _, rfl, ?_⟩⟩
    refine relRows_strs _ _ fun j t ht => ?_
    rw [memWith_self, htk', Nat.zero_add, List.getElem?_map, ht]
    rfl
end Go.Ag
namespace Go.Ag
open Go Go.Proofs
variable {G : Nat → Option (List V)}
attribute [local irreducible] aops qops Sat aop

theorem spec_Cut (s sep : Str) (m : Int) (hG : G 0 = some [.int .i64 m]) (hs : s.length < 4294967281) (H : List Ob) (K : D → List Ob → Prop) (hK : K (.tup [.v (.str (Lib.cut s sep).1), .v (.str (Lib.cut s sep).2.1), .v (.bool (Lib.cut s sep).2.2)]) H) : ACalls Tryz.prog G 77 [.v (.str s), .v (.str sep)] H K :=
  lib_Cut (by kernel_rfl) s sep 0 m hG (fun s sep m w h1 h2 => Tryz.strings_Cut s sep m w h1 h2) hs hK
theorem spec_Clone (l : List Str) (hl : l.length ≤ 1099511627) (H : List Ob) (K : D → List Ob → Prop) (hK : K (.v (strs l)) H) : ACalls Tryz.prog G 53 [.v (strs l)] H K :=
  lib_CloneV (by kernel_rfl) l (fun n c w => Tryz.slices_Clone_string_nil n c w) (fun a c w => Tryz.slices_Clone_string_zero a c w) (fun b off n c zs w h1 h2 h3 => Tryz.slices_Clone_string b off n c zs w h1 h2 h3) (by omega) hK
def autoS : Str := [97, 117, 116, 111]
theorem cut_auto : Lib.cut autoS [32] = (autoS, [], false) := by decide
theorem auto_man : (autoS == [109, 97, 110, 117, 97, 108]) = false := by decide

set_option maxHeartbeats 8000000 in
theorem spec_head (b : Nat) (nm l1 : Str) (rest : List Str) (s0 c0 : D) (m : Int) (h1 : l1 ≠ []) (hr : rest.length ≤ 1000000) (hG0 : G 0 = some [.int .i64 m]) (H : List Ob) (hb : H[b]? = some (.box [.v (.str nm), .v (.str []), .v (.bool false), .v (.str []), s0, c0]))
    (K : D → List Ob → Prop) (hK : K (.v (.int .i64 3)) (H.set b (.box [.v (.str nm), .v (.str l1), .v (.bool false), .v (.str []), s0, c0]))) : ACalls Tryz.prog G 51 [.ptr b 0, .v (strs (autoS :: l1 :: [] :: rest))] H K := by
  have hlt := (List.getElem?_eq_some_iff.1 hb).1
  refine ACalls.go Tryz.f51 _ 68 [4] Tryz.func51 rfl Tryz.ntmps51 (by kernel_rfl) rfl (by simp) (fun E hE hP hG hH => ?_)
  have hM : E.P.follows .mixedOrders = true := hP ▸ mixed
  subst hH
  have gs : ∀ o, (E.H0.set b o)[b]? = some o := fun o => List.getElem?_set_self hlt
  have hix : idxS (autoS :: l1 :: [] :: rest) [] = 2 := by
    simp [idxS, List.findIdx?_cons, autoS, h1]
  simp only [args0]
  repeat (first | refine wa ?_ | refine wb rfl ?_ | refine wc rfl rfl hM ?_ | refine wd rfl hM ?_ | ((first | refine we rfl fun K hK => ?_ | refine wf rfl rfl fun K hK => ?_ | refine wg rfl rfl fun K hK => ?_ | refine wh rfl fun K hK => ?_); (simp only [lo, ld, ↓aop, ↓aCall, hP, hG, Nat.reduceLT, ↓reduceIte, Nat.reduceEqDiff, Nat.reduceAdd, Nat.reduceMul, Nat.reduceLeDiff, reduceCtorEq, D.cs, D.plain, fillD, chop, List.replicate, tk_3, ze_3, sz_3, tk_9, ze_9, sz_9, tk_44, ze_44, sz_44]; repeat (with_reducible refine And.intro ?_ ?_; focus (first | decide | omega | (simp only [ln]; omega)))); try ((first | refine hK _ _ ?_ | refine hK _ ?_); clear hK K; simp only [lp])) | ((first | refine wi ?_ | refine wj ?_ | refine wk ?_ | refine wl ?_ | refine wm ?_ | refine wn ?_); simp only [lt, ↓reduceIte, Nat.reduceEqDiff]) | refine wo ?_)
  refine spec_Index (autoS :: l1 :: [] :: rest) [] (by simp only [List.length_cons]; omega) _ _ (hK _ _ ?_)
  clear hK K; simp only [lp]
  rw [hix]
  repeat (first | refine wa ?_ | refine wb rfl ?_ | refine wc rfl rfl hM ?_ | refine wd rfl hM ?_ | ((first | refine we rfl fun K hK => ?_ | refine wf rfl rfl fun K hK => ?_ | refine wg rfl rfl fun K hK => ?_ | refine wh rfl fun K hK => ?_); (simp only [lo, ld, ↓aop, ↓aCall, hP, hG, Nat.reduceLT, ↓reduceIte, Nat.reduceEqDiff, Nat.reduceAdd, Nat.reduceMul, Nat.reduceLeDiff, reduceCtorEq, D.cs, D.plain, fillD, chop, List.replicate, tk_3, ze_3, sz_3, tk_9, ze_9, sz_9, tk_44, ze_44, sz_44]; repeat (with_reducible refine And.intro ?_ ?_; focus (first | decide | omega | (simp only [ln]; omega)))); try ((first | refine hK _ _ ?_ | refine hK _ ?_); clear hK K; simp only [lp])) | ((first | refine wi ?_ | refine wj ?_ | refine wk ?_ | refine wl ?_ | refine wm ?_ | refine wn ?_); simp only [lt, ↓reduceIte, Nat.reduceEqDiff]) | refine wo ?_)
  refine sat_thru (fr 68 [(18, .v (.bool false)), (5, .v (.int .i64 2)), (4, .v (.int .i64 0)), (1, .v (strs (autoS :: l1 :: [] :: rest))), (0, .ptr b 0)]) E.H0 ?_ ?_
  · (first | refine wr ?_ | refine wp rfl hM ?_ | refine wq hM ?_); repeat' (first | ((first | refine wx ?_ | refine wy ?_ | refine wz ?_); (simp only [lo, ld, ↓aop, ↓aCall, hP, hG, Nat.reduceLT, ↓reduceIte, Nat.reduceEqDiff, Nat.reduceAdd, Nat.reduceMul, Nat.reduceLeDiff, reduceCtorEq, D.cs, D.plain, fillD, chop, List.replicate, tk_3, ze_3, sz_3, tk_9, ze_9, sz_9, tk_4, ze_4, sz_4, show decide ((2 : Int) < 2) = false from rfl, show ((Int.tmod 2 2) != 0) = false from rfl]; repeat (with_reducible refine And.intro ?_ ?_; focus (first | decide | omega | (simp only [ln]; omega)))); try ((first | refine hK _ _ ?_ | refine hK _ ?_); clear hK K; simp only [lp])) | refine we rfl fun K hK => ?_ | refine wf rfl rfl fun K hK => ?_ | refine wg rfl rfl fun K hK => ?_ | refine wh rfl fun K hK => ?_ | ((first | refine Xg rfl rfl (by decide) ?_ fun K hK => ?_ | refine Yg rfl rfl (by decide) ?_ fun K hK => ?_ | refine Zg rfl rfl rfl (by decide) ?_ fun K hK => ?_); (focus (simp only [look_cons, ↓reduceIte, Nat.reduceEqDiff, Bool.not_true, Bool.not_false]; done))) | ((first | refine Xn rfl rfl (by decide) ?_ ?_ | refine Yn rfl rfl (by decide) ?_ ?_ | refine Zn rfl rfl rfl (by decide) ?_ ?_); (focus (simp only [look_cons, ↓reduceIte, Nat.reduceEqDiff, Bool.not_true, Bool.not_false]; done)); simp only [lp]) | ((first | refine Xo rfl rfl (by decide) ?_ ?_ | refine Yo rfl rfl (by decide) ?_ ?_ | refine Zo rfl rfl rfl (by decide) ?_ ?_); (focus (simp only [look_cons, ↓reduceIte, Nat.reduceEqDiff, Bool.not_true, Bool.not_false]; done)); simp only [lp]) | ((first | refine Xs rfl rfl (by decide) rfl (fun h K hK => ?_) fun h => ?_ | refine Ys rfl rfl (by decide) rfl (fun h K hK => ?_) fun h => ?_ | refine Zs rfl rfl rfl (by decide) rfl (fun h K hK => ?_) fun h => ?_); rotate_left; (focus (simp only [Bool.not_true, Bool.not_false, lp])); rotate_left) | ((first | refine wi ?_ | refine wj ?_ | refine wk ?_); simp only [lt, ↓reduceIte, Nat.reduceEqDiff]))
    all_goals refine .weakFr ?_
    all_goals simp only [le, ↓reduceIte, Nat.reduceEqDiff, and_true]; repeat' (first | exact trivial | exact D.le_refl _ | exact D.le_any _ | with_reducible refine And.intro ?_ ?_)
  refine sat_cond rfl (fun hd => ?_) (fun hd => ?_)
  · exact absurd hd (by decide)
  repeat (first | refine wa ?_ | refine wb rfl ?_ | refine wc rfl rfl hM ?_ | refine wd rfl hM ?_ | ((first | refine we rfl fun K hK => ?_ | refine wf rfl rfl fun K hK => ?_ | refine wg rfl rfl fun K hK => ?_ | refine wh rfl fun K hK => ?_); (simp only [lo, ld, ↓aop, ↓aCall, hP, hG, Nat.reduceLT, ↓reduceIte, Nat.reduceEqDiff, Nat.reduceAdd, Nat.reduceMul, Nat.reduceLeDiff, reduceCtorEq, D.cs, D.plain, fillD, chop, List.replicate, strs, tk_3, ze_3, sz_3, tk_9, ze_9, sz_9, tk_44, ze_44, sz_44]; repeat (with_reducible refine And.intro ?_ ?_; focus (first | decide | omega | (simp only [ln]; omega)))); try ((first | refine hK _ _ ?_ | refine hK _ ?_); clear hK K; simp only [lp])) | ((first | refine wi ?_ | refine wj ?_ | refine wk ?_ | refine wl ?_ | refine wm ?_ | refine wn ?_); simp only [lt, ↓reduceIte, Nat.reduceEqDiff]) | refine wo ?_)
  refine spec_Cut autoS [32] m hG0 (by decide) _ _ (hK _ _ ?_)
  clear hK K; simp only [lp]
  rw [cut_auto]
  repeat (first | refine wa ?_ | refine wb rfl ?_ | refine wc rfl rfl hM ?_ | refine wd rfl hM ?_ | ((first | refine we rfl fun K hK => ?_ | refine wf rfl rfl fun K hK => ?_ | refine wg rfl rfl fun K hK => ?_ | refine wh rfl fun K hK => ?_); (simp only [lo, ld, ↓aop, ↓aCall, hP, hG, Nat.reduceLT, ↓reduceIte, Nat.reduceEqDiff, Nat.reduceAdd, Nat.reduceMul, Nat.reduceLeDiff, reduceCtorEq, D.cs, D.plain, fillD, chop, List.replicate, strs, tk_3, ze_3, sz_3, tk_4, ze_4, sz_4, tk_9, ze_9, sz_9, tk_26, ze_26, sz_26, kn_26, tk_44, ze_44, sz_44, hb, gs, auto_man, List.set_set]; repeat (with_reducible refine And.intro ?_ ?_; focus (first | decide | omega | (simp only [ln]; omega)))); try ((first | refine hK _ _ ?_ | refine hK _ ?_); clear hK K; simp only [lp])) | ((first | refine wi ?_ | refine wj ?_ | refine wk ?_ | refine wl ?_ | refine wm ?_ | refine wn ?_); simp only [lt, ↓reduceIte, Nat.reduceEqDiff]) | refine wo ?_)
  refine sat_loop_ent (fun n ts H => n = 0 ∧ ts = fr 68 [(9, .v (.int .i64 2)), (5, .v (.int .i64 2))] ∧ H = E.H0.set b (.box [.v (.str nm), .v (.str l1), .v (.bool false), .v (.str []), s0, c0])) 0 (.weakFr ?_) ⟨rfl, rfl, rfl⟩ ?_
  · simp only [le, ↓reduceIte, Nat.reduceEqDiff, and_true]; repeat' (first | exact trivial | exact D.le_refl _ | exact D.le_any _ | with_reducible refine And.intro ?_ ?_)
  rintro n ts H ⟨rfl, rfl, rfl⟩
  repeat (first | refine wa ?_ | refine wb rfl ?_ | refine wc rfl rfl hM ?_ | refine wd rfl hM ?_ | ((first | refine we rfl fun K hK => ?_ | refine wf rfl rfl fun K hK => ?_ | refine wg rfl rfl fun K hK => ?_ | refine wh rfl fun K hK => ?_); (simp only [lo, ld, ↓aop, ↓aCall, hP, hG, Nat.reduceLT, ↓reduceIte, Nat.reduceEqDiff, Nat.reduceAdd, Nat.reduceMul, Nat.reduceLeDiff, reduceCtorEq, D.cs, D.plain, fillD, chop, List.replicate, tk_3, ze_3, sz_3]; repeat (with_reducible refine And.intro ?_ ?_; focus (first | decide | omega | (simp only [ln]; omega)))); try ((first | refine hK _ _ ?_ | refine hK _ ?_); clear hK K; simp only [lp])) | ((first | refine wi ?_ | refine wj ?_ | refine wk ?_ | refine wl ?_ | refine wm ?_ | refine wn ?_); simp only [lt, ↓reduceIte, Nat.reduceEqDiff]) | refine wo ?_)
  refine sat_cond rfl (fun hd => ?_) (fun hd => ?_)
  · exact absurd hd (by decide)
  repeat (first | refine wa ?_ | refine wb rfl ?_ | refine wc rfl rfl hM ?_ | refine wd rfl hM ?_ | ((first | refine we rfl fun K hK => ?_ | refine wf rfl rfl fun K hK => ?_ | refine wg rfl rfl fun K hK => ?_ | refine wh rfl fun K hK => ?_); (simp only [lo, ld, ↓aop, ↓aCall, hP, hG, Nat.reduceLT, ↓reduceIte, Nat.reduceEqDiff, Nat.reduceAdd, Nat.reduceMul, Nat.reduceLeDiff, reduceCtorEq, D.cs, D.plain, fillD, chop, List.replicate, tk_3, ze_3, sz_3]; repeat (with_reducible refine And.intro ?_ ?_; focus (first | decide | omega | (simp only [ln]; omega)))); try ((first | refine hK _ _ ?_ | refine hK _ ?_); clear hK K; simp only [lp])) | ((first | refine wi ?_ | refine wj ?_ | refine wk ?_ | refine wl ?_ | refine wm ?_ | refine wn ?_); simp only [lt, ↓reduceIte, Nat.reduceEqDiff]) | refine wo ?_)
  trace_state
  exact Fin.is _ (by decide) rfl hK
end Go.Ag
