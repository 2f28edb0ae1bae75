import Derived.Test.YtbiajjcolfhioaaDoorAgDf
import Derived.Sort.OwnSorted
import Derived.Lib.SlicesCompact
import Derived.Sort.Walk0
set_option linter.all false
namespace Go.Ag
open Go Go.Proofs
variable {G : Nat → Option (List V)}
attribute [local irreducible] aops qops Sat aop

def lnBad (x : Alt) (i : Nat) (l n : Str) : Bool := !placeB l || ((links x).take i).any (· == l) || !nameOk n || ((names x).take i).any (· == n) || (decide ((i : Int) > 1) && !Op.bytesLess ((names x).getD (i - 1) []) n)
def lnsOk (x : Alt) : Bool := (List.range (links x).length).all (fun i => !lnBad x i ((links x).getD i []) ((names x).getD i []))
def chInner (x : Alt) : Bool := (List.range x.choices.length).all (fun i => !(choBad x i (x.choices.getD i cho0) || (x.choices.getD i cho0).slaves.any subBad))
def manyBad (x : Alt) : Bool := decide ((x.slaves.length : Int) > 64) || decide ((x.choices.length : Int) < 1) || decide ((x.choices.length : Int) > 64)
def finalB (x : Alt) : Bool := decide (choAt x.choices x.cur ≥ 0) && (x.manual || choAt x.choices x.cur == best x.choices)
def rightR (x : Alt) : Bool := !manyBad x && lnsOk x && chInner x && finalB x
theorem links_len (x : Alt) : (links x).length = x.slaves.length + 1 := by simp [links]
theorem names_len (x : Alt) : (names x).length = x.slaves.length + 1 := by simp [names]
def altMid (x : Alt) : Prop := x.name.length ≤ 1000000 ∧ x.link.length ≤ 1000000 ∧ x.cur.length ≤ 1000000 ∧ x.slaves.length ≤ 1000000 ∧ x.choices.length ≤ 1000000 ∧ (∀ s ∈ x.slaves, s.name.length ≤ 1000000 ∧ s.link.length ≤ 1000000) ∧ ∀ c ∈ x.choices, c.path.length ≤ 1000000 ∧ c.slaves.length ≤ 1000000 ∧ ∀ t ∈ c.slaves, t.length ≤ 1000000
theorem altMid_of {x : Alt} (h : altSmall x) : altMid x := by
  obtain ⟨h1, h2, h3, h4, h5, h6, h7⟩ := h
  refine ⟨by omega, by omega, by omega, by omega, by omega, fun s hs => ?_, fun c hc => ?_⟩
  · obtain ⟨g1, g2⟩ := h6 s hs; omega
  · obtain ⟨g1, g2, g3⟩ := h7 c hc
    exact ⟨by omega, by omega, fun t ht => by have := g3 t ht; omega⟩
theorem links_mid {x : Alt} (h : altMid x) : ∀ l ∈ links x, l.length ≤ 1000000 := by
  intro l hl
  rcases List.mem_cons.1 hl with rfl | hl
  · exact h.2.1
  · obtain ⟨s, hs, rfl⟩ := List.mem_map.1 hl
    exact (h.2.2.2.2.2.1 s hs).2
theorem names_mid {x : Alt} (h : altMid x) : ∀ l ∈ names x, l.length ≤ 1000000 := by
  intro l hl
  rcases List.mem_cons.1 hl with rfl | hl
  · exact h.1
  · obtain ⟨s, hs, rfl⟩ := List.mem_map.1 hl
    exact (h.2.2.2.2.2.1 s hs).1

set_option maxHeartbeats 32000000 in
theorem spec_rAltRight (x : Alt) (hm : altMid x) (H : List Ob) (K : D → List Ob → Prop) (hK : K (.v (.bool (rightR x))) H) : ACalls Tryd.prog G 46 [altd x] H K := by
  refine ACalls.go Tryd.f46 _ 176 [2] Tryd.func46 rfl Tryd.ntmps46 (by kernel_rfl) rfl (by simp) (fun E hE hP hG hH => ?_)
  have hM : E.P.follows .mixedOrders = true := hP ▸ mixed
  have hlm := links_mid hm
  have hnm := names_mid hm
  have hll := links_len x
  have hnl := names_len x
  obtain ⟨m1, m2, m3, m4, m5, m6, m7⟩ := hm
  subst hH
  simp only [args0, altd]
  repeat (first | refine wa ?_ | refine wb rfl ?_ | refine wc rfl rfl hM ?_ | refine wd rfl hM ?_ | ((first | refine we rfl fun K hK => ?_ | refine wf rfl rfl fun K hK => ?_ | refine wg rfl rfl fun K hK => ?_ | refine wh rfl fun K hK => ?_); (simp only [lo, ld, ↓aop, ↓aCall, hP, hG, Nat.reduceLT, ↓reduceIte, Nat.reduceEqDiff, Nat.reduceAdd, Nat.reduceMul, Nat.reduceLeDiff, reduceCtorEq, D.cs, D.plain, fillD, chop, List.replicate, tk_3, ze_3, sz_3, tk_9, ze_9, sz_9, tk_46, ze_46, sz_46, kn_46, tk_44, ze_44, sz_44, tk_52, ze_52, sz_52, kn_52]; repeat (with_reducible refine And.intro ?_ ?_; focus (first | decide | omega | (simp only [ln]; omega)))); try ((first | refine hK _ _ ?_ | refine hK _ ?_); clear hK K; simp only [lp])) | ((first | refine wi ?_ | refine wj ?_ | refine wk ?_ | refine wl ?_ | refine wm ?_ | refine wn ?_); simp only [lt, ↓reduceIte, Nat.reduceEqDiff]) | refine wo ?_)
  refine spec_rLinks x (by omega) _ _ (hK _ _ ?_)
  clear hK K; simp only [lp]
  repeat (first | refine wa ?_ | refine wb rfl ?_ | refine wc rfl rfl hM ?_ | refine wd rfl hM ?_ | ((first | refine we rfl fun K hK => ?_ | refine wf rfl rfl fun K hK => ?_ | refine wg rfl rfl fun K hK => ?_ | refine wh rfl fun K hK => ?_); (simp only [lo, ld, ↓aop, ↓aCall, hP, hG, Nat.reduceLT, ↓reduceIte, Nat.reduceEqDiff, Nat.reduceAdd, Nat.reduceMul, Nat.reduceLeDiff, reduceCtorEq, D.cs, D.plain, fillD, chop, List.replicate, tk_3, ze_3, sz_3, tk_9, ze_9, sz_9, tk_46, ze_46, sz_46, kn_46, tk_44, ze_44, sz_44, tk_52, ze_52, sz_52, kn_52]; repeat (with_reducible refine And.intro ?_ ?_; focus (first | decide | omega | (simp only [ln]; omega)))); try ((first | refine hK _ _ ?_ | refine hK _ ?_); clear hK K; simp only [lp])) | ((first | refine wi ?_ | refine wj ?_ | refine wk ?_ | refine wl ?_ | refine wm ?_ | refine wn ?_); simp only [lt, ↓reduceIte, Nat.reduceEqDiff]) | refine wo ?_)
  refine spec_rNames x (by omega) _ _ (hK _ _ ?_)
  clear hK K; simp only [lp]
  repeat (first | refine wa ?_ | refine wb rfl ?_ | refine wc rfl rfl hM ?_ | refine wd rfl hM ?_ | ((first | refine we rfl fun K hK => ?_ | refine wf rfl rfl fun K hK => ?_ | refine wg rfl rfl fun K hK => ?_ | refine wh rfl fun K hK => ?_); (simp only [lo, ld, ↓aop, ↓aCall, hP, hG, Nat.reduceLT, ↓reduceIte, Nat.reduceEqDiff, Nat.reduceAdd, Nat.reduceMul, Nat.reduceLeDiff, reduceCtorEq, D.cs, D.plain, fillD, chop, List.replicate, tk_3, ze_3, sz_3, tk_9, ze_9, sz_9, tk_46, ze_46, sz_46, kn_46, tk_44, ze_44, sz_44, tk_52, ze_52, sz_52, kn_52]; repeat (with_reducible refine And.intro ?_ ?_; focus (first | decide | omega | (simp only [ln]; omega)))); try ((first | refine hK _ _ ?_ | refine hK _ ?_); clear hK K; simp only [lp])) | ((first | refine wi ?_ | refine wj ?_ | refine wk ?_ | refine wl ?_ | refine wm ?_ | refine wn ?_); simp only [lt, ↓reduceIte, Nat.reduceEqDiff]) | refine wo ?_)
  refine sat_thru (fr 176 [(29, .v (.bool (manyBad x))), (4, .v (strs (names x))), (3, .v (strs (links x))), (2, .v (.bool false)), (1, .ptr E.H0.length 0)]) (E.H0 ++ [altB x]) ?_ ?_
  · (first | refine wr ?_ | refine wp rfl hM ?_ | refine wq hM ?_); repeat' (first | ((first | refine wx ?_ | refine wy ?_ | refine wz ?_); (simp only [lo, ld, ↓aop, ↓aCall, hP, hG, Nat.reduceLT, ↓reduceIte, Nat.reduceEqDiff, Nat.reduceAdd, Nat.reduceMul, Nat.reduceLeDiff, reduceCtorEq, D.cs, D.plain, fillD, chop, List.replicate, altB, altV, slvs, chos, tk_3, ze_3, sz_3, tk_4, ze_4, sz_4, tk_9, ze_9, sz_9, tk_46, ze_46, sz_46, kn_46, tk_43, ze_43, sz_43, tk_44, ze_44, sz_44]; repeat (with_reducible refine And.intro ?_ ?_; focus (first | decide | omega | (simp only [ln]; omega)))); try ((first | refine hK _ _ ?_ | refine hK _ ?_); clear hK K; simp only [lp])) | refine we rfl fun K hK => ?_ | refine wf rfl rfl fun K hK => ?_ | refine wg rfl rfl fun K hK => ?_ | refine wh rfl fun K hK => ?_ | ((first | refine Xg rfl rfl (by decide) ?_ fun K hK => ?_ | refine Yg rfl rfl (by decide) ?_ fun K hK => ?_ | refine Zg rfl rfl rfl (by decide) ?_ fun K hK => ?_); (focus (simp only [look_cons, ↓reduceIte, Nat.reduceEqDiff, Bool.not_true, Bool.not_false]; done))) | ((first | refine Xn rfl rfl (by decide) ?_ ?_ | refine Yn rfl rfl (by decide) ?_ ?_ | refine Zn rfl rfl rfl (by decide) ?_ ?_); (focus (simp only [look_cons, ↓reduceIte, Nat.reduceEqDiff, Bool.not_true, Bool.not_false]; done)); simp only [lp]) | ((first | refine Xo rfl rfl (by decide) ?_ ?_ | refine Yo rfl rfl (by decide) ?_ ?_ | refine Zo rfl rfl rfl (by decide) ?_ ?_); (focus (simp only [look_cons, ↓reduceIte, Nat.reduceEqDiff, Bool.not_true, Bool.not_false]; done)); simp only [lp]) | ((first | refine Xs rfl rfl (by decide) rfl (fun h K hK => ?_) fun h => ?_ | refine Ys rfl rfl (by decide) rfl (fun h K hK => ?_) fun h => ?_ | refine Zs rfl rfl rfl (by decide) rfl (fun h K hK => ?_) fun h => ?_); rotate_left; (focus (simp only [Bool.not_true, Bool.not_false, lp])); rotate_left) | ((first | refine wi ?_ | refine wj ?_ | refine wk ?_); simp only [lt, ↓reduceIte, Nat.reduceEqDiff]))
    all_goals refine .weakFr ?_
    all_goals simp only [le, ↓reduceIte, Nat.reduceEqDiff, and_true]; repeat' (first | exact trivial | exact D.le_refl _ | exact D.le_any _ | with_reducible refine And.intro ?_ ?_)
    all_goals refine D.le_eq (congrArg D.v (congrArg V.bool ?_)); (try simp only [Bool.not_eq_eq_eq_not, Bool.not_true, Bool.not_false] at *); simp only [*, List.getD_eq_getElem?_getD, Bool.and_true, Bool.true_and, Bool.and_false, Bool.false_and, Bool.or_true, Bool.true_or, Bool.or_false, Bool.false_or, Bool.not_true, Bool.not_false, Bool.not_not, manyBad]
  refine sat_cond rfl (fun hb => ?_) (fun hb => ?_)
  · repeat (first | refine wa ?_ | refine wb rfl ?_ | refine wc rfl rfl hM ?_ | refine wd rfl hM ?_ | ((first | refine we rfl fun K hK => ?_ | refine wf rfl rfl fun K hK => ?_ | refine wg rfl rfl fun K hK => ?_ | refine wh rfl fun K hK => ?_); (simp only [lo, ld, ↓aop, ↓aCall, hP, hG, Nat.reduceLT, ↓reduceIte, Nat.reduceEqDiff, Nat.reduceAdd, Nat.reduceMul, Nat.reduceLeDiff, reduceCtorEq, D.cs, D.plain, fillD, chop, List.replicate]; repeat (with_reducible refine And.intro ?_ ?_; focus (first | decide | omega | (simp only [ln]; omega)))); try ((first | refine hK _ _ ?_ | refine hK _ ?_); clear hK K; simp only [lp])) | ((first | refine wi ?_ | refine wj ?_ | refine wk ?_ | refine wl ?_ | refine wm ?_ | refine wn ?_); simp only [lt, ↓reduceIte, Nat.reduceEqDiff]) | refine wo ?_)
    refine Fin.gc (.v (.bool false)) hE (by decide) rfl (by simp only [D.lt]) ?_
    have : rightR x = false := by simp only [rightR, hb]; rfl
    rwa [this] at hK
  repeat (first | refine wa ?_ | refine wb rfl ?_ | refine wc rfl rfl hM ?_ | refine wd rfl hM ?_ | ((first | refine we rfl fun K hK => ?_ | refine wf rfl rfl fun K hK => ?_ | refine wg rfl rfl fun K hK => ?_ | refine wh rfl fun K hK => ?_); (simp only [lo, ld, ↓aop, ↓aCall, hP, hG, Nat.reduceLT, ↓reduceIte, Nat.reduceEqDiff, Nat.reduceAdd, Nat.reduceMul, Nat.reduceLeDiff, reduceCtorEq, D.cs, D.plain, fillD, chop, List.replicate]; repeat (with_reducible refine And.intro ?_ ?_; focus (first | decide | omega | (simp only [ln]; omega)))); try ((first | refine hK _ _ ?_ | refine hK _ ?_); clear hK K; simp only [lp])) | ((first | refine wi ?_ | refine wj ?_ | refine wk ?_ | refine wl ?_ | refine wm ?_ | refine wn ?_); simp only [lt, ↓reduceIte, Nat.reduceEqDiff]) | refine wo ?_)
  refine sat_loop_ent (fun n ts H => ∃ (i : Nat), n = (links x).length - i ∧ i ≤ (links x).length ∧ (∀ j, j < i → lnBad x j ((links x).getD j []) ((names x).getD j []) = false) ∧
    ts = fr 176 [(5, .v (.int .i64 i)), (4, .v (strs (names x))), (3, .v (strs (links x))), (2, .v (.bool false)), (1, .ptr E.H0.length 0)] ∧ H = E.H0 ++ [altB x]) ((links x).length) (.weakFr ?_) ⟨0, rfl, Nat.zero_le _, by simp, rfl, rfl⟩ ?_
  · simp only [le, ↓reduceIte, Nat.reduceEqDiff, and_true]; repeat' (first | exact trivial | exact D.le_refl _ | exact D.le_any _ | with_reducible refine And.intro ?_ ?_)
  · rintro n ts H ⟨i, rfl, hi, hall, rfl, rfl⟩
    repeat (first | refine wa ?_ | refine wb rfl ?_ | refine wc rfl rfl hM ?_ | refine wd rfl hM ?_ | ((first | refine we rfl fun K hK => ?_ | refine wf rfl rfl fun K hK => ?_ | refine wg rfl rfl fun K hK => ?_ | refine wh rfl fun K hK => ?_); (simp only [lo, ld, ↓aop, ↓aCall, hP, hG, Nat.reduceLT, ↓reduceIte, Nat.reduceEqDiff, Nat.reduceAdd, Nat.reduceMul, Nat.reduceLeDiff, reduceCtorEq, D.cs, D.plain, fillD, chop, List.replicate, strs, tk_3, ze_3, sz_3, tk_9, ze_9, sz_9, tk_50, ze_50, sz_50]; repeat (with_reducible refine And.intro ?_ ?_; focus (first | decide | omega | (simp only [ln]; omega)))); try ((first | refine hK _ _ ?_ | refine hK _ ?_); clear hK K; simp only [lp])) | ((first | refine wi ?_ | refine wj ?_ | refine wk ?_ | refine wl ?_ | refine wm ?_ | refine wn ?_); simp only [lt, ↓reduceIte, Nat.reduceEqDiff]) | refine wo ?_)
    refine sat_cond rfl (fun hc => ?_) (fun hc => ?_)
    · simp at hc
      obtain ⟨l, hx⟩ : ∃ l, (links x)[i]? = some l := ⟨_, List.getElem?_eq_getElem hc⟩
      have hcn : i < (names x).length := by omega
      have hln : i ≤ (names x).length := by omega
      obtain ⟨nm, hn⟩ : ∃ nm, (names x)[i]? = some nm := ⟨_, List.getElem?_eq_getElem hcn⟩
      have hw := wrap_succ (i := i) (by omega)
      have gl : (links x).getD i [] = l := by simp [List.getD_eq_getElem?_getD, hx]
      have gn : (names x).getD i [] = nm := by simp [List.getD_eq_getElem?_getD, hn]
      have sl := hlm l (List.mem_of_getElem? hx)
      have sn := hnm nm (List.mem_of_getElem? hn)
      repeat (first | refine wa ?_ | refine wb rfl ?_ | refine wc rfl rfl hM ?_ | refine wd rfl hM ?_ | ((first | refine we rfl fun K hK => ?_ | refine wf rfl rfl fun K hK => ?_ | refine wg rfl rfl fun K hK => ?_ | refine wh rfl fun K hK => ?_); (simp only [lo, ld, ↓aop, ↓aCall, hP, hG, Nat.reduceLT, ↓reduceIte, Nat.reduceEqDiff, Nat.reduceAdd, Nat.reduceMul, Nat.reduceLeDiff, reduceCtorEq, D.cs, D.plain, fillD, chop, List.replicate]; repeat (with_reducible refine And.intro ?_ ?_; focus (first | decide | omega | (simp only [ln]; omega)))); try ((first | refine hK _ _ ?_ | refine hK _ ?_); clear hK K; simp only [lp])) | ((first | refine wi ?_ | refine wj ?_ | refine wk ?_ | refine wl ?_ | refine wm ?_ | refine wn ?_); simp only [lt, ↓reduceIte, Nat.reduceEqDiff]) | refine wo ?_)
      refine sat_thru (fr 176 [(85, .v (.bool (lnBad x i l nm))), (5, .v (.int .i64 i)), (4, .v (strs (names x))), (3, .v (strs (links x))), (2, .v (.bool false)), (1, .ptr E.H0.length 0)]) (E.H0 ++ [altB x]) ?_ ?_
      · by_cases hgt : i > 1
        · obtain ⟨j, rfl⟩ : ∃ j, i = j + 1 := ⟨i - 1, by omega⟩
          have hgt2 : decide (((j + 1 : Nat) : Int) > 1) = true := by simp; omega
          have hj : j < (names x).length := by omega
          obtain ⟨p, hp⟩ : ∃ p, (names x)[j]? = some p := ⟨_, List.getElem?_eq_getElem hj⟩
          have gp : (names x).getD j [] = p := by simp [List.getD_eq_getElem?_getD, hp]
          have hwj := wpred j (by omega)
          (first | refine wr ?_ | refine wp rfl hM ?_ | refine wq hM ?_); repeat' (first | ((first | refine wx ?_ | refine wy ?_ | refine wz ?_); (simp only [lo, ld, ↓aop, ↓aCall, hP, hG, Nat.reduceLT, ↓reduceIte, Nat.reduceEqDiff, Nat.reduceAdd, Nat.reduceMul, Nat.reduceLeDiff, reduceCtorEq, D.cs, D.plain, fillD, chop, List.replicate, strs, tk_3, ze_3, sz_3, tk_4, ze_4, sz_4, tk_9, ze_9, sz_9, tk_50, ze_50, sz_50, hc, hx, hcn, hn, hln, hi, Int.reduceToNat, take_map_take', hgt2, hj, hp, hwj]; repeat (with_reducible refine And.intro ?_ ?_; focus (first | decide | omega | (simp only [ln]; omega)))); try ((first | refine hK _ _ ?_ | refine hK _ ?_); clear hK K; simp only [lp])) | refine we rfl fun K hK => ?_ | refine wf rfl rfl fun K hK => ?_ | refine wg rfl rfl fun K hK => ?_ | refine wh rfl fun K hK => ?_ | ((first | refine Xg rfl rfl (by decide) ?_ fun K hK => ?_ | refine Yg rfl rfl (by decide) ?_ fun K hK => ?_ | refine Zg rfl rfl rfl (by decide) ?_ fun K hK => ?_); (focus (simp only [look_cons, ↓reduceIte, Nat.reduceEqDiff, Bool.not_true, Bool.not_false]; done))) | ((first | refine Xn rfl rfl (by decide) ?_ ?_ | refine Yn rfl rfl (by decide) ?_ ?_ | refine Zn rfl rfl rfl (by decide) ?_ ?_); (focus (simp only [look_cons, ↓reduceIte, Nat.reduceEqDiff, Bool.not_true, Bool.not_false]; done)); simp only [lp]) | ((first | refine Xo rfl rfl (by decide) ?_ ?_ | refine Yo rfl rfl (by decide) ?_ ?_ | refine Zo rfl rfl rfl (by decide) ?_ ?_); (focus (simp only [look_cons, ↓reduceIte, Nat.reduceEqDiff, Bool.not_true, Bool.not_false]; done)); simp only [lp]) | ((first | refine Xs rfl rfl (by decide) rfl (fun h K hK => ?_) fun h => ?_ | refine Ys rfl rfl (by decide) rfl (fun h K hK => ?_) fun h => ?_ | refine Zs rfl rfl rfl (by decide) rfl (fun h K hK => ?_) fun h => ?_); rotate_left; (focus (simp only [Bool.not_true, Bool.not_false, lp])); rotate_left) | ((first | refine wi ?_ | refine wj ?_ | refine wk ?_); simp only [lt, ↓reduceIte, Nat.reduceEqDiff]))
          refine ⟨_, spec_rplace l (by omega) _ _ ⟨rfl, rfl⟩, hK _ ?_⟩
          clear hK K; simp only [lp]
          repeat' (first | ((first | refine wx ?_ | refine wy ?_ | refine wz ?_); (simp only [lo, ld, ↓aop, ↓aCall, hP, hG, Nat.reduceLT, ↓reduceIte, Nat.reduceEqDiff, Nat.reduceAdd, Nat.reduceMul, Nat.reduceLeDiff, reduceCtorEq, D.cs, D.plain, fillD, chop, List.replicate, strs, tk_3, ze_3, sz_3, tk_4, ze_4, sz_4, tk_9, ze_9, sz_9, tk_50, ze_50, sz_50, hc, hx, hcn, hn, hln, hi, Int.reduceToNat, take_map_take', hgt2, hj, hp, hwj]; repeat (with_reducible refine And.intro ?_ ?_; focus (first | decide | omega | (simp only [ln]; omega)))); try ((first | refine hK _ _ ?_ | refine hK _ ?_); clear hK K; simp only [lp])) | refine we rfl fun K hK => ?_ | refine wf rfl rfl fun K hK => ?_ | refine wg rfl rfl fun K hK => ?_ | refine wh rfl fun K hK => ?_ | ((first | refine Xg rfl rfl (by decide) ?_ fun K hK => ?_ | refine Yg rfl rfl (by decide) ?_ fun K hK => ?_ | refine Zg rfl rfl rfl (by decide) ?_ fun K hK => ?_); (focus (simp only [look_cons, ↓reduceIte, Nat.reduceEqDiff, Bool.not_true, Bool.not_false]; done))) | ((first | refine Xn rfl rfl (by decide) ?_ ?_ | refine Yn rfl rfl (by decide) ?_ ?_ | refine Zn rfl rfl rfl (by decide) ?_ ?_); (focus (simp only [look_cons, ↓reduceIte, Nat.reduceEqDiff, Bool.not_true, Bool.not_false]; done)); simp only [lp]) | ((first | refine Xo rfl rfl (by decide) ?_ ?_ | refine Yo rfl rfl (by decide) ?_ ?_ | refine Zo rfl rfl rfl (by decide) ?_ ?_); (focus (simp only [look_cons, ↓reduceIte, Nat.reduceEqDiff, Bool.not_true, Bool.not_false]; done)); simp only [lp]) | ((first | refine Xs rfl rfl (by decide) rfl (fun h K hK => ?_) fun h => ?_ | refine Ys rfl rfl (by decide) rfl (fun h K hK => ?_) fun h => ?_ | refine Zs rfl rfl rfl (by decide) rfl (fun h K hK => ?_) fun h => ?_); rotate_left; (focus (simp only [Bool.not_true, Bool.not_false, lp])); rotate_left) | ((first | refine wi ?_ | refine wj ?_ | refine wk ?_); simp only [lt, ↓reduceIte, Nat.reduceEqDiff]))
          · refine ⟨_, spec_Has ((links x).take (j + 1)) l (by simp; omega) _ _ ⟨rfl, rfl⟩, hK _ ?_⟩
            clear hK K; simp only [lp]
            repeat' (first | ((first | refine wx ?_ | refine wy ?_ | refine wz ?_); (simp only [lo, ld, ↓aop, ↓aCall, hP, hG, Nat.reduceLT, ↓reduceIte, Nat.reduceEqDiff, Nat.reduceAdd, Nat.reduceMul, Nat.reduceLeDiff, reduceCtorEq, D.cs, D.plain, fillD, chop, List.replicate, strs, tk_3, ze_3, sz_3, tk_4, ze_4, sz_4, tk_9, ze_9, sz_9, tk_50, ze_50, sz_50, hc, hx, hcn, hn, hln, hi, Int.reduceToNat, take_map_take', hgt2, hj, hp, hwj]; repeat (with_reducible refine And.intro ?_ ?_; focus (first | decide | omega | (simp only [ln]; omega)))); try ((first | refine hK _ _ ?_ | refine hK _ ?_); clear hK K; simp only [lp])) | refine we rfl fun K hK => ?_ | refine wf rfl rfl fun K hK => ?_ | refine wg rfl rfl fun K hK => ?_ | refine wh rfl fun K hK => ?_ | ((first | refine Xg rfl rfl (by decide) ?_ fun K hK => ?_ | refine Yg rfl rfl (by decide) ?_ fun K hK => ?_ | refine Zg rfl rfl rfl (by decide) ?_ fun K hK => ?_); (focus (simp only [look_cons, ↓reduceIte, Nat.reduceEqDiff, Bool.not_true, Bool.not_false]; done))) | ((first | refine Xn rfl rfl (by decide) ?_ ?_ | refine Yn rfl rfl (by decide) ?_ ?_ | refine Zn rfl rfl rfl (by decide) ?_ ?_); (focus (simp only [look_cons, ↓reduceIte, Nat.reduceEqDiff, Bool.not_true, Bool.not_false]; done)); simp only [lp]) | ((first | refine Xo rfl rfl (by decide) ?_ ?_ | refine Yo rfl rfl (by decide) ?_ ?_ | refine Zo rfl rfl rfl (by decide) ?_ ?_); (focus (simp only [look_cons, ↓reduceIte, Nat.reduceEqDiff, Bool.not_true, Bool.not_false]; done)); simp only [lp]) | ((first | refine Xs rfl rfl (by decide) rfl (fun h K hK => ?_) fun h => ?_ | refine Ys rfl rfl (by decide) rfl (fun h K hK => ?_) fun h => ?_ | refine Zs rfl rfl rfl (by decide) rfl (fun h K hK => ?_) fun h => ?_); rotate_left; (focus (simp only [Bool.not_true, Bool.not_false, lp])); rotate_left) | ((first | refine wi ?_ | refine wj ?_ | refine wk ?_); simp only [lt, ↓reduceIte, Nat.reduceEqDiff]))
            · refine ⟨_, spec_rName' nm (by omega) _ _ ⟨rfl, rfl⟩, hK _ ?_⟩
              clear hK K; simp only [lp]
              repeat' (first | ((first | refine wx ?_ | refine wy ?_ | refine wz ?_); (simp only [lo, ld, ↓aop, ↓aCall, hP, hG, Nat.reduceLT, ↓reduceIte, Nat.reduceEqDiff, Nat.reduceAdd, Nat.reduceMul, Nat.reduceLeDiff, reduceCtorEq, D.cs, D.plain, fillD, chop, List.replicate, strs, tk_3, ze_3, sz_3, tk_4, ze_4, sz_4, tk_9, ze_9, sz_9, tk_50, ze_50, sz_50, hc, hx, hcn, hn, hln, hi, Int.reduceToNat, take_map_take', hgt2, hj, hp, hwj]; repeat (with_reducible refine And.intro ?_ ?_; focus (first | decide | omega | (simp only [ln]; omega)))); try ((first | refine hK _ _ ?_ | refine hK _ ?_); clear hK K; simp only [lp])) | refine we rfl fun K hK => ?_ | refine wf rfl rfl fun K hK => ?_ | refine wg rfl rfl fun K hK => ?_ | refine wh rfl fun K hK => ?_ | ((first | refine Xg rfl rfl (by decide) ?_ fun K hK => ?_ | refine Yg rfl rfl (by decide) ?_ fun K hK => ?_ | refine Zg rfl rfl rfl (by decide) ?_ fun K hK => ?_); (focus (simp only [look_cons, ↓reduceIte, Nat.reduceEqDiff, Bool.not_true, Bool.not_false]; done))) | ((first | refine Xn rfl rfl (by decide) ?_ ?_ | refine Yn rfl rfl (by decide) ?_ ?_ | refine Zn rfl rfl rfl (by decide) ?_ ?_); (focus (simp only [look_cons, ↓reduceIte, Nat.reduceEqDiff, Bool.not_true, Bool.not_false]; done)); simp only [lp]) | ((first | refine Xo rfl rfl (by decide) ?_ ?_ | refine Yo rfl rfl (by decide) ?_ ?_ | refine Zo rfl rfl rfl (by decide) ?_ ?_); (focus (simp only [look_cons, ↓reduceIte, Nat.reduceEqDiff, Bool.not_true, Bool.not_false]; done)); simp only [lp]) | ((first | refine Xs rfl rfl (by decide) rfl (fun h K hK => ?_) fun h => ?_ | refine Ys rfl rfl (by decide) rfl (fun h K hK => ?_) fun h => ?_ | refine Zs rfl rfl rfl (by decide) rfl (fun h K hK => ?_) fun h => ?_); rotate_left; (focus (simp only [Bool.not_true, Bool.not_false, lp])); rotate_left) | ((first | refine wi ?_ | refine wj ?_ | refine wk ?_); simp only [lt, ↓reduceIte, Nat.reduceEqDiff]))
              · refine ⟨_, spec_Has ((names x).take (j + 1)) nm (by simp; omega) _ _ ⟨rfl, rfl⟩, hK _ ?_⟩
                clear hK K; simp only [lp]
                repeat' (first | ((first | refine wx ?_ | refine wy ?_ | refine wz ?_); (simp only [lo, ld, ↓aop, ↓aCall, hP, hG, Nat.reduceLT, ↓reduceIte, Nat.reduceEqDiff, Nat.reduceAdd, Nat.reduceMul, Nat.reduceLeDiff, reduceCtorEq, D.cs, D.plain, fillD, chop, List.replicate, strs, tk_3, ze_3, sz_3, tk_4, ze_4, sz_4, tk_9, ze_9, sz_9, tk_50, ze_50, sz_50, hc, hx, hcn, hn, hln, hi, Int.reduceToNat, take_map_take', hgt2, hj, hp, hwj]; repeat (with_reducible refine And.intro ?_ ?_; focus (first | decide | omega | (simp only [ln]; omega)))); try ((first | refine hK _ _ ?_ | refine hK _ ?_); clear hK K; simp only [lp])) | refine we rfl fun K hK => ?_ | refine wf rfl rfl fun K hK => ?_ | refine wg rfl rfl fun K hK => ?_ | refine wh rfl fun K hK => ?_ | ((first | refine Xg rfl rfl (by decide) ?_ fun K hK => ?_ | refine Yg rfl rfl (by decide) ?_ fun K hK => ?_ | refine Zg rfl rfl rfl (by decide) ?_ fun K hK => ?_); (focus (simp only [look_cons, ↓reduceIte, Nat.reduceEqDiff, Bool.not_true, Bool.not_false]; done))) | ((first | refine Xn rfl rfl (by decide) ?_ ?_ | refine Yn rfl rfl (by decide) ?_ ?_ | refine Zn rfl rfl rfl (by decide) ?_ ?_); (focus (simp only [look_cons, ↓reduceIte, Nat.reduceEqDiff, Bool.not_true, Bool.not_false]; done)); simp only [lp]) | ((first | refine Xo rfl rfl (by decide) ?_ ?_ | refine Yo rfl rfl (by decide) ?_ ?_ | refine Zo rfl rfl rfl (by decide) ?_ ?_); (focus (simp only [look_cons, ↓reduceIte, Nat.reduceEqDiff, Bool.not_true, Bool.not_false]; done)); simp only [lp]) | ((first | refine Xs rfl rfl (by decide) rfl (fun h K hK => ?_) fun h => ?_ | refine Ys rfl rfl (by decide) rfl (fun h K hK => ?_) fun h => ?_ | refine Zs rfl rfl rfl (by decide) rfl (fun h K hK => ?_) fun h => ?_); rotate_left; (focus (simp only [Bool.not_true, Bool.not_false, lp])); rotate_left) | ((first | refine wi ?_ | refine wj ?_ | refine wk ?_); simp only [lt, ↓reduceIte, Nat.reduceEqDiff]))
                all_goals refine .weakFr ?_
                all_goals simp only [le, ↓reduceIte, Nat.reduceEqDiff, and_true]; repeat' (first | exact trivial | exact D.le_refl _ | exact D.le_any _ | with_reducible refine And.intro ?_ ?_)
                all_goals clear hall
                all_goals refine D.le_eq (congrArg D.v (congrArg V.bool ?_)); (try simp only [Bool.not_eq_eq_eq_not, Bool.not_true, Bool.not_false] at *); simp only [*, List.getD_eq_getElem?_getD, Bool.and_true, Bool.true_and, Bool.and_false, Bool.false_and, Bool.or_true, Bool.true_or, Bool.or_false, Bool.false_or, Bool.not_true, Bool.not_false, Bool.not_not, lnBad, gl, gn, Nat.add_sub_cancel, hgt2, gp, hp, Option.getD_some]
              · refine .weakFr ?_
                simp only [le, ↓reduceIte, Nat.reduceEqDiff, and_true]; repeat' (first | exact trivial | exact D.le_refl _ | exact D.le_any _ | with_reducible refine And.intro ?_ ?_)
                all_goals clear hall
                all_goals refine D.le_eq (congrArg D.v (congrArg V.bool ?_)); (try simp only [Bool.not_eq_eq_eq_not, Bool.not_true, Bool.not_false] at *); simp only [*, List.getD_eq_getElem?_getD, Bool.and_true, Bool.true_and, Bool.and_false, Bool.false_and, Bool.or_true, Bool.true_or, Bool.or_false, Bool.false_or, Bool.not_true, Bool.not_false, Bool.not_not, lnBad, gl, gn, Nat.add_sub_cancel, hgt2, gp, hp, Option.getD_some]
            · refine .weakFr ?_
              simp only [le, ↓reduceIte, Nat.reduceEqDiff, and_true]; repeat' (first | exact trivial | exact D.le_refl _ | exact D.le_any _ | with_reducible refine And.intro ?_ ?_)
              all_goals clear hall
              all_goals refine D.le_eq (congrArg D.v (congrArg V.bool ?_)); (try simp only [Bool.not_eq_eq_eq_not, Bool.not_true, Bool.not_false] at *); simp only [*, List.getD_eq_getElem?_getD, Bool.and_true, Bool.true_and, Bool.and_false, Bool.false_and, Bool.or_true, Bool.true_or, Bool.or_false, Bool.false_or, Bool.not_true, Bool.not_false, Bool.not_not, lnBad, gl, gn, Nat.add_sub_cancel, hgt2, gp, hp, Option.getD_some]
          · refine .weakFr ?_
            simp only [le, ↓reduceIte, Nat.reduceEqDiff, and_true]; repeat' (first | exact trivial | exact D.le_refl _ | exact D.le_any _ | with_reducible refine And.intro ?_ ?_)
            all_goals clear hall
            all_goals refine D.le_eq (congrArg D.v (congrArg V.bool ?_)); (try simp only [Bool.not_eq_eq_eq_not, Bool.not_true, Bool.not_false] at *); simp only [*, List.getD_eq_getElem?_getD, Bool.and_true, Bool.true_and, Bool.and_false, Bool.false_and, Bool.or_true, Bool.true_or, Bool.or_false, Bool.false_or, Bool.not_true, Bool.not_false, Bool.not_not, lnBad, gl, gn, Nat.add_sub_cancel, hgt2, gp, hp, Option.getD_some]
        · have hgt2 : decide ((i : Int) > 1) = false := by simp; omega
          (first | refine wr ?_ | refine wp rfl hM ?_ | refine wq hM ?_); repeat' (first | ((first | refine wx ?_ | refine wy ?_ | refine wz ?_); (simp only [lo, ld, ↓aop, ↓aCall, hP, hG, Nat.reduceLT, ↓reduceIte, Nat.reduceEqDiff, Nat.reduceAdd, Nat.reduceMul, Nat.reduceLeDiff, reduceCtorEq, D.cs, D.plain, fillD, chop, List.replicate, strs, tk_3, ze_3, sz_3, tk_4, ze_4, sz_4, tk_9, ze_9, sz_9, tk_50, ze_50, sz_50, hc, hx, hcn, hn, hln, hi, Int.reduceToNat, take_map_take', hgt2]; repeat (with_reducible refine And.intro ?_ ?_; focus (first | decide | omega | (simp only [ln]; omega)))); try ((first | refine hK _ _ ?_ | refine hK _ ?_); clear hK K; simp only [lp])) | refine we rfl fun K hK => ?_ | refine wf rfl rfl fun K hK => ?_ | refine wg rfl rfl fun K hK => ?_ | refine wh rfl fun K hK => ?_ | ((first | refine Xg rfl rfl (by decide) ?_ fun K hK => ?_ | refine Yg rfl rfl (by decide) ?_ fun K hK => ?_ | refine Zg rfl rfl rfl (by decide) ?_ fun K hK => ?_); (focus (simp only [look_cons, ↓reduceIte, Nat.reduceEqDiff, Bool.not_true, Bool.not_false]; done))) | ((first | refine Xn rfl rfl (by decide) ?_ ?_ | refine Yn rfl rfl (by decide) ?_ ?_ | refine Zn rfl rfl rfl (by decide) ?_ ?_); (focus (simp only [look_cons, ↓reduceIte, Nat.reduceEqDiff, Bool.not_true, Bool.not_false]; done)); simp only [lp]) | ((first | refine Xo rfl rfl (by decide) ?_ ?_ | refine Yo rfl rfl (by decide) ?_ ?_ | refine Zo rfl rfl rfl (by decide) ?_ ?_); (focus (simp only [look_cons, ↓reduceIte, Nat.reduceEqDiff, Bool.not_true, Bool.not_false]; done)); simp only [lp]) | ((first | refine Xs rfl rfl (by decide) rfl (fun h K hK => ?_) fun h => ?_ | refine Ys rfl rfl (by decide) rfl (fun h K hK => ?_) fun h => ?_ | refine Zs rfl rfl rfl (by decide) rfl (fun h K hK => ?_) fun h => ?_); rotate_left; (focus (simp only [Bool.not_true, Bool.not_false, lp])); rotate_left) | ((first | refine wi ?_ | refine wj ?_ | refine wk ?_); simp only [lt, ↓reduceIte, Nat.reduceEqDiff]))
          refine ⟨_, spec_rplace l (by omega) _ _ ⟨rfl, rfl⟩, hK _ ?_⟩
          clear hK K; simp only [lp]
          repeat' (first | ((first | refine wx ?_ | refine wy ?_ | refine wz ?_); (simp only [lo, ld, ↓aop, ↓aCall, hP, hG, Nat.reduceLT, ↓reduceIte, Nat.reduceEqDiff, Nat.reduceAdd, Nat.reduceMul, Nat.reduceLeDiff, reduceCtorEq, D.cs, D.plain, fillD, chop, List.replicate, strs, tk_3, ze_3, sz_3, tk_4, ze_4, sz_4, tk_9, ze_9, sz_9, tk_50, ze_50, sz_50, hc, hx, hcn, hn, hln, hi, Int.reduceToNat, take_map_take', hgt2]; repeat (with_reducible refine And.intro ?_ ?_; focus (first | decide | omega | (simp only [ln]; omega)))); try ((first | refine hK _ _ ?_ | refine hK _ ?_); clear hK K; simp only [lp])) | refine we rfl fun K hK => ?_ | refine wf rfl rfl fun K hK => ?_ | refine wg rfl rfl fun K hK => ?_ | refine wh rfl fun K hK => ?_ | ((first | refine Xg rfl rfl (by decide) ?_ fun K hK => ?_ | refine Yg rfl rfl (by decide) ?_ fun K hK => ?_ | refine Zg rfl rfl rfl (by decide) ?_ fun K hK => ?_); (focus (simp only [look_cons, ↓reduceIte, Nat.reduceEqDiff, Bool.not_true, Bool.not_false]; done))) | ((first | refine Xn rfl rfl (by decide) ?_ ?_ | refine Yn rfl rfl (by decide) ?_ ?_ | refine Zn rfl rfl rfl (by decide) ?_ ?_); (focus (simp only [look_cons, ↓reduceIte, Nat.reduceEqDiff, Bool.not_true, Bool.not_false]; done)); simp only [lp]) | ((first | refine Xo rfl rfl (by decide) ?_ ?_ | refine Yo rfl rfl (by decide) ?_ ?_ | refine Zo rfl rfl rfl (by decide) ?_ ?_); (focus (simp only [look_cons, ↓reduceIte, Nat.reduceEqDiff, Bool.not_true, Bool.not_false]; done)); simp only [lp]) | ((first | refine Xs rfl rfl (by decide) rfl (fun h K hK => ?_) fun h => ?_ | refine Ys rfl rfl (by decide) rfl (fun h K hK => ?_) fun h => ?_ | refine Zs rfl rfl rfl (by decide) rfl (fun h K hK => ?_) fun h => ?_); rotate_left; (focus (simp only [Bool.not_true, Bool.not_false, lp])); rotate_left) | ((first | refine wi ?_ | refine wj ?_ | refine wk ?_); simp only [lt, ↓reduceIte, Nat.reduceEqDiff]))
          · refine ⟨_, spec_Has ((links x).take i) l (by simp; omega) _ _ ⟨rfl, rfl⟩, hK _ ?_⟩
            clear hK K; simp only [lp]
            repeat' (first | ((first | refine wx ?_ | refine wy ?_ | refine wz ?_); (simp only [lo, ld, ↓aop, ↓aCall, hP, hG, Nat.reduceLT, ↓reduceIte, Nat.reduceEqDiff, Nat.reduceAdd, Nat.reduceMul, Nat.reduceLeDiff, reduceCtorEq, D.cs, D.plain, fillD, chop, List.replicate, strs, tk_3, ze_3, sz_3, tk_4, ze_4, sz_4, tk_9, ze_9, sz_9, tk_50, ze_50, sz_50, hc, hx, hcn, hn, hln, hi, Int.reduceToNat, take_map_take', hgt2]; repeat (with_reducible refine And.intro ?_ ?_; focus (first | decide | omega | (simp only [ln]; omega)))); try ((first | refine hK _ _ ?_ | refine hK _ ?_); clear hK K; simp only [lp])) | refine we rfl fun K hK => ?_ | refine wf rfl rfl fun K hK => ?_ | refine wg rfl rfl fun K hK => ?_ | refine wh rfl fun K hK => ?_ | ((first | refine Xg rfl rfl (by decide) ?_ fun K hK => ?_ | refine Yg rfl rfl (by decide) ?_ fun K hK => ?_ | refine Zg rfl rfl rfl (by decide) ?_ fun K hK => ?_); (focus (simp only [look_cons, ↓reduceIte, Nat.reduceEqDiff, Bool.not_true, Bool.not_false]; done))) | ((first | refine Xn rfl rfl (by decide) ?_ ?_ | refine Yn rfl rfl (by decide) ?_ ?_ | refine Zn rfl rfl rfl (by decide) ?_ ?_); (focus (simp only [look_cons, ↓reduceIte, Nat.reduceEqDiff, Bool.not_true, Bool.not_false]; done)); simp only [lp]) | ((first | refine Xo rfl rfl (by decide) ?_ ?_ | refine Yo rfl rfl (by decide) ?_ ?_ | refine Zo rfl rfl rfl (by decide) ?_ ?_); (focus (simp only [look_cons, ↓reduceIte, Nat.reduceEqDiff, Bool.not_true, Bool.not_false]; done)); simp only [lp]) | ((first | refine Xs rfl rfl (by decide) rfl (fun h K hK => ?_) fun h => ?_ | refine Ys rfl rfl (by decide) rfl (fun h K hK => ?_) fun h => ?_ | refine Zs rfl rfl rfl (by decide) rfl (fun h K hK => ?_) fun h => ?_); rotate_left; (focus (simp only [Bool.not_true, Bool.not_false, lp])); rotate_left) | ((first | refine wi ?_ | refine wj ?_ | refine wk ?_); simp only [lt, ↓reduceIte, Nat.reduceEqDiff]))
            · refine ⟨_, spec_rName' nm (by omega) _ _ ⟨rfl, rfl⟩, hK _ ?_⟩
              clear hK K; simp only [lp]
              repeat' (first | ((first | refine wx ?_ | refine wy ?_ | refine wz ?_); (simp only [lo, ld, ↓aop, ↓aCall, hP, hG, Nat.reduceLT, ↓reduceIte, Nat.reduceEqDiff, Nat.reduceAdd, Nat.reduceMul, Nat.reduceLeDiff, reduceCtorEq, D.cs, D.plain, fillD, chop, List.replicate, strs, tk_3, ze_3, sz_3, tk_4, ze_4, sz_4, tk_9, ze_9, sz_9, tk_50, ze_50, sz_50, hc, hx, hcn, hn, hln, hi, Int.reduceToNat, take_map_take', hgt2]; repeat (with_reducible refine And.intro ?_ ?_; focus (first | decide | omega | (simp only [ln]; omega)))); try ((first | refine hK _ _ ?_ | refine hK _ ?_); clear hK K; simp only [lp])) | refine we rfl fun K hK => ?_ | refine wf rfl rfl fun K hK => ?_ | refine wg rfl rfl fun K hK => ?_ | refine wh rfl fun K hK => ?_ | ((first | refine Xg rfl rfl (by decide) ?_ fun K hK => ?_ | refine Yg rfl rfl (by decide) ?_ fun K hK => ?_ | refine Zg rfl rfl rfl (by decide) ?_ fun K hK => ?_); (focus (simp only [look_cons, ↓reduceIte, Nat.reduceEqDiff, Bool.not_true, Bool.not_false]; done))) | ((first | refine Xn rfl rfl (by decide) ?_ ?_ | refine Yn rfl rfl (by decide) ?_ ?_ | refine Zn rfl rfl rfl (by decide) ?_ ?_); (focus (simp only [look_cons, ↓reduceIte, Nat.reduceEqDiff, Bool.not_true, Bool.not_false]; done)); simp only [lp]) | ((first | refine Xo rfl rfl (by decide) ?_ ?_ | refine Yo rfl rfl (by decide) ?_ ?_ | refine Zo rfl rfl rfl (by decide) ?_ ?_); (focus (simp only [look_cons, ↓reduceIte, Nat.reduceEqDiff, Bool.not_true, Bool.not_false]; done)); simp only [lp]) | ((first | refine Xs rfl rfl (by decide) rfl (fun h K hK => ?_) fun h => ?_ | refine Ys rfl rfl (by decide) rfl (fun h K hK => ?_) fun h => ?_ | refine Zs rfl rfl rfl (by decide) rfl (fun h K hK => ?_) fun h => ?_); rotate_left; (focus (simp only [Bool.not_true, Bool.not_false, lp])); rotate_left) | ((first | refine wi ?_ | refine wj ?_ | refine wk ?_); simp only [lt, ↓reduceIte, Nat.reduceEqDiff]))
              · refine ⟨_, spec_Has ((names x).take i) nm (by simp; omega) _ _ ⟨rfl, rfl⟩, hK _ ?_⟩
                clear hK K; simp only [lp]
                repeat' (first | ((first | refine wx ?_ | refine wy ?_ | refine wz ?_); (simp only [lo, ld, ↓aop, ↓aCall, hP, hG, Nat.reduceLT, ↓reduceIte, Nat.reduceEqDiff, Nat.reduceAdd, Nat.reduceMul, Nat.reduceLeDiff, reduceCtorEq, D.cs, D.plain, fillD, chop, List.replicate, strs, tk_3, ze_3, sz_3, tk_4, ze_4, sz_4, tk_9, ze_9, sz_9, tk_50, ze_50, sz_50, hc, hx, hcn, hn, hln, hi, Int.reduceToNat, take_map_take', hgt2]; repeat (with_reducible refine And.intro ?_ ?_; focus (first | decide | omega | (simp only [ln]; omega)))); try ((first | refine hK _ _ ?_ | refine hK _ ?_); clear hK K; simp only [lp])) | refine we rfl fun K hK => ?_ | refine wf rfl rfl fun K hK => ?_ | refine wg rfl rfl fun K hK => ?_ | refine wh rfl fun K hK => ?_ | ((first | refine Xg rfl rfl (by decide) ?_ fun K hK => ?_ | refine Yg rfl rfl (by decide) ?_ fun K hK => ?_ | refine Zg rfl rfl rfl (by decide) ?_ fun K hK => ?_); (focus (simp only [look_cons, ↓reduceIte, Nat.reduceEqDiff, Bool.not_true, Bool.not_false]; done))) | ((first | refine Xn rfl rfl (by decide) ?_ ?_ | refine Yn rfl rfl (by decide) ?_ ?_ | refine Zn rfl rfl rfl (by decide) ?_ ?_); (focus (simp only [look_cons, ↓reduceIte, Nat.reduceEqDiff, Bool.not_true, Bool.not_false]; done)); simp only [lp]) | ((first | refine Xo rfl rfl (by decide) ?_ ?_ | refine Yo rfl rfl (by decide) ?_ ?_ | refine Zo rfl rfl rfl (by decide) ?_ ?_); (focus (simp only [look_cons, ↓reduceIte, Nat.reduceEqDiff, Bool.not_true, Bool.not_false]; done)); simp only [lp]) | ((first | refine Xs rfl rfl (by decide) rfl (fun h K hK => ?_) fun h => ?_ | refine Ys rfl rfl (by decide) rfl (fun h K hK => ?_) fun h => ?_ | refine Zs rfl rfl rfl (by decide) rfl (fun h K hK => ?_) fun h => ?_); rotate_left; (focus (simp only [Bool.not_true, Bool.not_false, lp])); rotate_left) | ((first | refine wi ?_ | refine wj ?_ | refine wk ?_); simp only [lt, ↓reduceIte, Nat.reduceEqDiff]))
                all_goals refine .weakFr ?_
                all_goals simp only [le, ↓reduceIte, Nat.reduceEqDiff, and_true]; repeat' (first | exact trivial | exact D.le_refl _ | exact D.le_any _ | with_reducible refine And.intro ?_ ?_)
                all_goals clear hall
                all_goals refine D.le_eq (congrArg D.v (congrArg V.bool ?_)); (try simp only [Bool.not_eq_eq_eq_not, Bool.not_true, Bool.not_false] at *); simp only [*, List.getD_eq_getElem?_getD, Bool.and_true, Bool.true_and, Bool.and_false, Bool.false_and, Bool.or_true, Bool.true_or, Bool.or_false, Bool.false_or, Bool.not_true, Bool.not_false, Bool.not_not, lnBad, gl, gn, hgt2]
              · refine .weakFr ?_
                simp only [le, ↓reduceIte, Nat.reduceEqDiff, and_true]; repeat' (first | exact trivial | exact D.le_refl _ | exact D.le_any _ | with_reducible refine And.intro ?_ ?_)
                all_goals clear hall
                all_goals refine D.le_eq (congrArg D.v (congrArg V.bool ?_)); (try simp only [Bool.not_eq_eq_eq_not, Bool.not_true, Bool.not_false] at *); simp only [*, List.getD_eq_getElem?_getD, Bool.and_true, Bool.true_and, Bool.and_false, Bool.false_and, Bool.or_true, Bool.true_or, Bool.or_false, Bool.false_or, Bool.not_true, Bool.not_false, Bool.not_not, lnBad, gl, gn, hgt2]
            · refine .weakFr ?_
              simp only [le, ↓reduceIte, Nat.reduceEqDiff, and_true]; repeat' (first | exact trivial | exact D.le_refl _ | exact D.le_any _ | with_reducible refine And.intro ?_ ?_)
              all_goals clear hall
              all_goals refine D.le_eq (congrArg D.v (congrArg V.bool ?_)); (try simp only [Bool.not_eq_eq_eq_not, Bool.not_true, Bool.not_false] at *); simp only [*, List.getD_eq_getElem?_getD, Bool.and_true, Bool.true_and, Bool.and_false, Bool.false_and, Bool.or_true, Bool.true_or, Bool.or_false, Bool.false_or, Bool.not_true, Bool.not_false, Bool.not_not, lnBad, gl, gn, hgt2]
          · refine .weakFr ?_
            simp only [le, ↓reduceIte, Nat.reduceEqDiff, and_true]; repeat' (first | exact trivial | exact D.le_refl _ | exact D.le_any _ | with_reducible refine And.intro ?_ ?_)
            all_goals clear hall
            all_goals refine D.le_eq (congrArg D.v (congrArg V.bool ?_)); (try simp only [Bool.not_eq_eq_eq_not, Bool.not_true, Bool.not_false] at *); simp only [*, List.getD_eq_getElem?_getD, Bool.and_true, Bool.true_and, Bool.and_false, Bool.false_and, Bool.or_true, Bool.true_or, Bool.or_false, Bool.false_or, Bool.not_true, Bool.not_false, Bool.not_not, lnBad, gl, gn, hgt2]
      refine sat_cond rfl (fun hb2 => ?_) (fun hb2 => ?_)
      · repeat (first | refine wa ?_ | refine wb rfl ?_ | refine wc rfl rfl hM ?_ | refine wd rfl hM ?_ | ((first | refine we rfl fun K hK => ?_ | refine wf rfl rfl fun K hK => ?_ | refine wg rfl rfl fun K hK => ?_ | refine wh rfl fun K hK => ?_); (simp only [lo, ld, ↓aop, ↓aCall, hP, hG, Nat.reduceLT, ↓reduceIte, Nat.reduceEqDiff, Nat.reduceAdd, Nat.reduceMul, Nat.reduceLeDiff, reduceCtorEq, D.cs, D.plain, fillD, chop, List.replicate]; repeat (with_reducible refine And.intro ?_ ?_; focus (first | decide | omega | (simp only [ln]; omega)))); try ((first | refine hK _ _ ?_ | refine hK _ ?_); clear hK K; simp only [lp])) | ((first | refine wi ?_ | refine wj ?_ | refine wk ?_ | refine wl ?_ | refine wm ?_ | refine wn ?_); simp only [lt, ↓reduceIte, Nat.reduceEqDiff]) | refine wo ?_)
        refine Fin.gc (.v (.bool false)) hE (by decide) rfl (by simp only [D.lt]) ?_
        have : rightR x = false := by
          have : lnsOk x = false := by
            simp only [lnsOk]
            rw [List.all_eq_false]
            exact ⟨i, by simpa using hc, by rw [gl, gn, hb2]; decide⟩
          simp only [rightR, this, Bool.and_false, Bool.false_and]
        rwa [this] at hK
      · repeat (first | refine wa ?_ | refine wb rfl ?_ | refine wc rfl rfl hM ?_ | refine wd rfl hM ?_ | ((first | refine we rfl fun K hK => ?_ | refine wf rfl rfl fun K hK => ?_ | refine wg rfl rfl fun K hK => ?_ | refine wh rfl fun K hK => ?_); (simp only [lo, ld, ↓aop, ↓aCall, hP, hG, Nat.reduceLT, ↓reduceIte, Nat.reduceEqDiff, Nat.reduceAdd, Nat.reduceMul, Nat.reduceLeDiff, reduceCtorEq, D.cs, D.plain, fillD, chop, List.replicate, hw]; repeat (with_reducible refine And.intro ?_ ?_; focus (first | decide | omega | (simp only [ln]; omega)))); try ((first | refine hK _ _ ?_ | refine hK _ ?_); clear hK K; simp only [lp])) | ((first | refine wi ?_ | refine wj ?_ | refine wk ?_ | refine wl ?_ | refine wm ?_ | refine wn ?_); simp only [lt, ↓reduceIte, Nat.reduceEqDiff]) | refine wo ?_)
        refine ⟨(links x).length - (i + 1), _, _, by omega, .weakFr ?_, i + 1, rfl, by omega, fun j hj => ?_, rfl, rfl⟩
        · simp only [le, ↓reduceIte, Nat.reduceEqDiff, and_true]; repeat' (first | exact trivial | exact D.le_refl _ | exact D.le_any _ | with_reducible refine And.intro ?_ ?_)
        · rcases Nat.lt_succ_iff_lt_or_eq.1 hj with h | rfl
          · exact hall j h
          · rw [gl, gn]; exact hb2
    · simp at hc
      have hlns : lnsOk x = true := by
        simp only [lnsOk, List.all_eq_true, List.mem_range]
        exact fun j hj => by rw [hall j (by omega)]; rfl
      clear hall hc
      repeat (first | refine wa ?_ | refine wb rfl ?_ | refine wc rfl rfl hM ?_ | refine wd rfl hM ?_ | ((first | refine we rfl fun K hK => ?_ | refine wf rfl rfl fun K hK => ?_ | refine wg rfl rfl fun K hK => ?_ | refine wh rfl fun K hK => ?_); (simp only [lo, ld, ↓aop, ↓aCall, hP, hG, Nat.reduceLT, ↓reduceIte, Nat.reduceEqDiff, Nat.reduceAdd, Nat.reduceMul, Nat.reduceLeDiff, reduceCtorEq, D.cs, D.plain, fillD, chop, List.replicate]; repeat (with_reducible refine And.intro ?_ ?_; focus (first | decide | omega | (simp only [ln]; omega)))); try ((first | refine hK _ _ ?_ | refine hK _ ?_); clear hK K; simp only [lp])) | ((first | refine wi ?_ | refine wj ?_ | refine wk ?_ | refine wl ?_ | refine wm ?_ | refine wn ?_); simp only [lt, ↓reduceIte, Nat.reduceEqDiff]) | refine wo ?_)
      refine sat_loop_ent (fun n ts H => ∃ (i : Nat), n = x.choices.length - i ∧ i ≤ x.choices.length ∧ (∀ j, j < i → (choBad x j (x.choices.getD j cho0) || (x.choices.getD j cho0).slaves.any subBad) = false) ∧
        ts = fr 176 [(6, .v (.int .i64 i)), (2, .v (.bool false)), (1, .ptr E.H0.length 0)] ∧ H = E.H0 ++ [altB x]) (x.choices.length) (.weakFr ?_) ⟨0, rfl, Nat.zero_le _, by simp, rfl, rfl⟩ ?_
      · simp only [le, ↓reduceIte, Nat.reduceEqDiff, and_true]; repeat' (first | exact trivial | exact D.le_refl _ | exact D.le_any _ | with_reducible refine And.intro ?_ ?_)
      rintro n ts H ⟨i, rfl, hi, hall, rfl, rfl⟩
      repeat (first | refine wa ?_ | refine wb rfl ?_ | refine wc rfl rfl hM ?_ | refine wd rfl hM ?_ | ((first | refine we rfl fun K hK => ?_ | refine wf rfl rfl fun K hK => ?_ | refine wg rfl rfl fun K hK => ?_ | refine wh rfl fun K hK => ?_); (simp only [lo, ld, ↓aop, ↓aCall, hP, hG, Nat.reduceLT, ↓reduceIte, Nat.reduceEqDiff, Nat.reduceAdd, Nat.reduceMul, Nat.reduceLeDiff, reduceCtorEq, D.cs, D.plain, fillD, chop, List.replicate, altB, altV, chos, tk_3, ze_3, sz_3, tk_9, ze_9, sz_9, tk_46, ze_46, sz_46, kn_46, tk_44, ze_44, sz_44, tk_52, ze_52, sz_52, kn_52]; repeat (with_reducible refine And.intro ?_ ?_; focus (first | decide | omega | (simp only [ln]; omega)))); try ((first | refine hK _ _ ?_ | refine hK _ ?_); clear hK K; simp only [lp])) | ((first | refine wi ?_ | refine wj ?_ | refine wk ?_ | refine wl ?_ | refine wm ?_ | refine wn ?_); simp only [lt, ↓reduceIte, Nat.reduceEqDiff]) | refine wo ?_)
      refine sat_cond rfl (fun hc => ?_) (fun hc => ?_)
      · simp at hc
        obtain ⟨s, hx⟩ : ∃ s, x.choices[i]? = some s := ⟨_, List.getElem?_eq_getElem hc⟩
        have hw := wrap_succ (i := i) (by omega)
        have gx : x.choices.getD i cho0 = s := by simp [List.getD_eq_getElem?_getD, hx]
        obtain ⟨hs1, hs2, hs3⟩ := m7 s (List.mem_of_getElem? hx)
        repeat (first | refine wa ?_ | refine wb rfl ?_ | refine wc rfl rfl hM ?_ | refine wd rfl hM ?_ | ((first | refine we rfl fun K hK => ?_ | refine wf rfl rfl fun K hK => ?_ | refine wg rfl rfl fun K hK => ?_ | refine wh rfl fun K hK => ?_); (simp only [lo, ld, ↓aop, ↓aCall, hP, hG, Nat.reduceLT, ↓reduceIte, Nat.reduceEqDiff, Nat.reduceAdd, Nat.reduceMul, Nat.reduceLeDiff, reduceCtorEq, D.cs, D.plain, fillD, chop, List.replicate, altB, altV, chos, tk_3, ze_3, sz_3, tk_9, ze_9, sz_9, tk_46, ze_46, sz_46, kn_46, tk_44, ze_44, sz_44, tk_52, ze_52, sz_52, kn_52, hc, hx]; repeat (with_reducible refine And.intro ?_ ?_; focus (first | decide | omega | (simp only [ln]; omega)))); try ((first | refine hK _ _ ?_ | refine hK _ ?_); clear hK K; simp only [lp])) | ((first | refine wi ?_ | refine wj ?_ | refine wk ?_ | refine wl ?_ | refine wm ?_ | refine wn ?_); simp only [lt, ↓reduceIte, Nat.reduceEqDiff]) | refine wo ?_)
        refine sat_thru (fr 176 [(136, .v (.bool (choBad x i s))), (7, .ptr (E.H0.length + 1) 0), (6, .v (.int .i64 i)), (2, .v (.bool false)), (1, .ptr E.H0.length 0)]) (E.H0 ++ [altB x, .box ((choR s).map .v)]) ?_ ?_
        · rcases i with _ | j
          · (first | refine wr ?_ | refine wp rfl hM ?_ | refine wq hM ?_); repeat' (first | ((first | refine wx ?_ | refine wy ?_ | refine wz ?_); (simp only [lo, ld, ↓aop, ↓aCall, hP, hG, Nat.reduceLT, ↓reduceIte, Nat.reduceEqDiff, Nat.reduceAdd, Nat.reduceMul, Nat.reduceLeDiff, reduceCtorEq, D.cs, D.plain, fillD, chop, List.replicate, altB, altV, slvs, chos, strs, tk_3, ze_3, sz_3, tk_4, ze_4, sz_4, tk_9, ze_9, sz_9, tk_46, ze_46, sz_46, kn_46, tk_43, ze_43, sz_43, tk_44, ze_44, sz_44, tk_50, ze_50, sz_50, tk_52, ze_52, sz_52, kn_52, gz]; repeat (with_reducible refine And.intro ?_ ?_; focus (first | decide | omega | (simp only [ln]; omega)))); try ((first | refine hK _ _ ?_ | refine hK _ ?_); clear hK K; simp only [lp])) | refine we rfl fun K hK => ?_ | refine wf rfl rfl fun K hK => ?_ | refine wg rfl rfl fun K hK => ?_ | refine wh rfl fun K hK => ?_ | ((first | refine Xg rfl rfl (by decide) ?_ fun K hK => ?_ | refine Yg rfl rfl (by decide) ?_ fun K hK => ?_ | refine Zg rfl rfl rfl (by decide) ?_ fun K hK => ?_); (focus (simp only [look_cons, ↓reduceIte, Nat.reduceEqDiff, Bool.not_true, Bool.not_false]; done))) | ((first | refine Xn rfl rfl (by decide) ?_ ?_ | refine Yn rfl rfl (by decide) ?_ ?_ | refine Zn rfl rfl rfl (by decide) ?_ ?_); (focus (simp only [look_cons, ↓reduceIte, Nat.reduceEqDiff, Bool.not_true, Bool.not_false]; done)); simp only [lp]) | ((first | refine Xo rfl rfl (by decide) ?_ ?_ | refine Yo rfl rfl (by decide) ?_ ?_ | refine Zo rfl rfl rfl (by decide) ?_ ?_); (focus (simp only [look_cons, ↓reduceIte, Nat.reduceEqDiff, Bool.not_true, Bool.not_false]; done)); simp only [lp]) | ((first | refine Xs rfl rfl (by decide) rfl (fun h K hK => ?_) fun h => ?_ | refine Ys rfl rfl (by decide) rfl (fun h K hK => ?_) fun h => ?_ | refine Zs rfl rfl rfl (by decide) rfl (fun h K hK => ?_) fun h => ?_); rotate_left; (focus (simp only [Bool.not_true, Bool.not_false, lp])); rotate_left) | ((first | refine wi ?_ | refine wj ?_ | refine wk ?_); simp only [lt, ↓reduceIte, Nat.reduceEqDiff]))
            refine ⟨_, spec_rplace _ (by omega) _ _ ⟨rfl, rfl⟩, hK _ ?_⟩
            clear hK K; simp only [lp]
            repeat' (first | ((first | refine wx ?_ | refine wy ?_ | refine wz ?_); (simp only [lo, ld, ↓aop, ↓aCall, hP, hG, Nat.reduceLT, ↓reduceIte, Nat.reduceEqDiff, Nat.reduceAdd, Nat.reduceMul, Nat.reduceLeDiff, reduceCtorEq, D.cs, D.plain, fillD, chop, List.replicate, altB, altV, slvs, chos, strs, tk_3, ze_3, sz_3, tk_4, ze_4, sz_4, tk_9, ze_9, sz_9, tk_46, ze_46, sz_46, kn_46, tk_43, ze_43, sz_43, tk_44, ze_44, sz_44, tk_50, ze_50, sz_50, tk_52, ze_52, sz_52, kn_52, gz]; repeat (with_reducible refine And.intro ?_ ?_; focus (first | decide | omega | (simp only [ln]; omega)))); try ((first | refine hK _ _ ?_ | refine hK _ ?_); clear hK K; simp only [lp])) | refine we rfl fun K hK => ?_ | refine wf rfl rfl fun K hK => ?_ | refine wg rfl rfl fun K hK => ?_ | refine wh rfl fun K hK => ?_ | ((first | refine Xg rfl rfl (by decide) ?_ fun K hK => ?_ | refine Yg rfl rfl (by decide) ?_ fun K hK => ?_ | refine Zg rfl rfl rfl (by decide) ?_ fun K hK => ?_); (focus (simp only [look_cons, ↓reduceIte, Nat.reduceEqDiff, Bool.not_true, Bool.not_false]; done))) | ((first | refine Xn rfl rfl (by decide) ?_ ?_ | refine Yn rfl rfl (by decide) ?_ ?_ | refine Zn rfl rfl rfl (by decide) ?_ ?_); (focus (simp only [look_cons, ↓reduceIte, Nat.reduceEqDiff, Bool.not_true, Bool.not_false]; done)); simp only [lp]) | ((first | refine Xo rfl rfl (by decide) ?_ ?_ | refine Yo rfl rfl (by decide) ?_ ?_ | refine Zo rfl rfl rfl (by decide) ?_ ?_); (focus (simp only [look_cons, ↓reduceIte, Nat.reduceEqDiff, Bool.not_true, Bool.not_false]; done)); simp only [lp]) | ((first | refine Xs rfl rfl (by decide) rfl (fun h K hK => ?_) fun h => ?_ | refine Ys rfl rfl (by decide) rfl (fun h K hK => ?_) fun h => ?_ | refine Zs rfl rfl rfl (by decide) rfl (fun h K hK => ?_) fun h => ?_); rotate_left; (focus (simp only [Bool.not_true, Bool.not_false, lp])); rotate_left) | ((first | refine wi ?_ | refine wj ?_ | refine wk ?_); simp only [lt, ↓reduceIte, Nat.reduceEqDiff]))
            all_goals refine .weakFr ?_
            all_goals simp only [le, ↓reduceIte, Nat.reduceEqDiff, and_true]; repeat' (first | exact trivial | exact D.le_refl _ | exact D.le_any _ | with_reducible refine And.intro ?_ ?_)
            all_goals clear hall
            all_goals refine D.le_eq (congrArg D.v (congrArg V.bool ?_)); (try simp only [Bool.not_eq_eq_eq_not, Bool.not_true, Bool.not_false] at *); simp only [*, List.getD_eq_getElem?_getD, Bool.and_true, Bool.true_and, Bool.and_false, Bool.false_and, Bool.or_true, Bool.true_or, Bool.or_false, Bool.false_or, Bool.not_true, Bool.not_false, Bool.not_not, choBad, gz]
          · obtain ⟨p, hp⟩ : ∃ p, x.choices[j]? = some p := ⟨_, List.getElem?_eq_getElem (by omega)⟩
            have hj : j < x.choices.length := by omega
            have gp : x.choices.getD j cho0 = p := by simp [List.getD_eq_getElem?_getD, hp]
            have hwj := wpred j (by omega)
            (first | refine wr ?_ | refine wp rfl hM ?_ | refine wq hM ?_); repeat' (first | ((first | refine wx ?_ | refine wy ?_ | refine wz ?_); (simp only [lo, ld, ↓aop, ↓aCall, hP, hG, Nat.reduceLT, ↓reduceIte, Nat.reduceEqDiff, Nat.reduceAdd, Nat.reduceMul, Nat.reduceLeDiff, reduceCtorEq, D.cs, D.plain, fillD, chop, List.replicate, altB, altV, slvs, chos, strs, tk_3, ze_3, sz_3, tk_4, ze_4, sz_4, tk_9, ze_9, sz_9, tk_46, ze_46, sz_46, kn_46, tk_43, ze_43, sz_43, tk_44, ze_44, sz_44, tk_50, ze_50, sz_50, tk_52, ze_52, sz_52, kn_52, gs, hwj, hp, hj]; repeat (with_reducible refine And.intro ?_ ?_; focus (first | decide | omega | (simp only [ln]; omega)))); try ((first | refine hK _ _ ?_ | refine hK _ ?_); clear hK K; simp only [lp])) | refine we rfl fun K hK => ?_ | refine wf rfl rfl fun K hK => ?_ | refine wg rfl rfl fun K hK => ?_ | refine wh rfl fun K hK => ?_ | ((first | refine Xg rfl rfl (by decide) ?_ fun K hK => ?_ | refine Yg rfl rfl (by decide) ?_ fun K hK => ?_ | refine Zg rfl rfl rfl (by decide) ?_ fun K hK => ?_); (focus (simp only [look_cons, ↓reduceIte, Nat.reduceEqDiff, Bool.not_true, Bool.not_false]; done))) | ((first | refine Xn rfl rfl (by decide) ?_ ?_ | refine Yn rfl rfl (by decide) ?_ ?_ | refine Zn rfl rfl rfl (by decide) ?_ ?_); (focus (simp only [look_cons, ↓reduceIte, Nat.reduceEqDiff, Bool.not_true, Bool.not_false]; done)); simp only [lp]) | ((first | refine Xo rfl rfl (by decide) ?_ ?_ | refine Yo rfl rfl (by decide) ?_ ?_ | refine Zo rfl rfl rfl (by decide) ?_ ?_); (focus (simp only [look_cons, ↓reduceIte, Nat.reduceEqDiff, Bool.not_true, Bool.not_false]; done)); simp only [lp]) | ((first | refine Xs rfl rfl (by decide) rfl (fun h K hK => ?_) fun h => ?_ | refine Ys rfl rfl (by decide) rfl (fun h K hK => ?_) fun h => ?_ | refine Zs rfl rfl rfl (by decide) rfl (fun h K hK => ?_) fun h => ?_); rotate_left; (focus (simp only [Bool.not_true, Bool.not_false, lp])); rotate_left) | ((first | refine wi ?_ | refine wj ?_ | refine wk ?_); simp only [lt, ↓reduceIte, Nat.reduceEqDiff]))
            refine ⟨_, spec_rplace _ (by omega) _ _ ⟨rfl, rfl⟩, hK _ ?_⟩
            clear hK K; simp only [lp]
            repeat' (first | ((first | refine wx ?_ | refine wy ?_ | refine wz ?_); (simp only [lo, ld, ↓aop, ↓aCall, hP, hG, Nat.reduceLT, ↓reduceIte, Nat.reduceEqDiff, Nat.reduceAdd, Nat.reduceMul, Nat.reduceLeDiff, reduceCtorEq, D.cs, D.plain, fillD, chop, List.replicate, altB, altV, slvs, chos, strs, tk_3, ze_3, sz_3, tk_4, ze_4, sz_4, tk_9, ze_9, sz_9, tk_46, ze_46, sz_46, kn_46, tk_43, ze_43, sz_43, tk_44, ze_44, sz_44, tk_50, ze_50, sz_50, tk_52, ze_52, sz_52, kn_52, gs, hwj, hp, hj]; repeat (with_reducible refine And.intro ?_ ?_; focus (first | decide | omega | (simp only [ln]; omega)))); try ((first | refine hK _ _ ?_ | refine hK _ ?_); clear hK K; simp only [lp])) | refine we rfl fun K hK => ?_ | refine wf rfl rfl fun K hK => ?_ | refine wg rfl rfl fun K hK => ?_ | refine wh rfl fun K hK => ?_ | ((first | refine Xg rfl rfl (by decide) ?_ fun K hK => ?_ | refine Yg rfl rfl (by decide) ?_ fun K hK => ?_ | refine Zg rfl rfl rfl (by decide) ?_ fun K hK => ?_); (focus (simp only [look_cons, ↓reduceIte, Nat.reduceEqDiff, Bool.not_true, Bool.not_false]; done))) | ((first | refine Xn rfl rfl (by decide) ?_ ?_ | refine Yn rfl rfl (by decide) ?_ ?_ | refine Zn rfl rfl rfl (by decide) ?_ ?_); (focus (simp only [look_cons, ↓reduceIte, Nat.reduceEqDiff, Bool.not_true, Bool.not_false]; done)); simp only [lp]) | ((first | refine Xo rfl rfl (by decide) ?_ ?_ | refine Yo rfl rfl (by decide) ?_ ?_ | refine Zo rfl rfl rfl (by decide) ?_ ?_); (focus (simp only [look_cons, ↓reduceIte, Nat.reduceEqDiff, Bool.not_true, Bool.not_false]; done)); simp only [lp]) | ((first | refine Xs rfl rfl (by decide) rfl (fun h K hK => ?_) fun h => ?_ | refine Ys rfl rfl (by decide) rfl (fun h K hK => ?_) fun h => ?_ | refine Zs rfl rfl rfl (by decide) rfl (fun h K hK => ?_) fun h => ?_); rotate_left; (focus (simp only [Bool.not_true, Bool.not_false, lp])); rotate_left) | ((first | refine wi ?_ | refine wj ?_ | refine wk ?_); simp only [lt, ↓reduceIte, Nat.reduceEqDiff]))
            all_goals refine .weakFr ?_
            all_goals simp only [le, ↓reduceIte, Nat.reduceEqDiff, and_true]; repeat' (first | exact trivial | exact D.le_refl _ | exact D.le_any _ | with_reducible refine And.intro ?_ ?_)
            all_goals clear hall
            all_goals refine D.le_eq (congrArg D.v (congrArg V.bool ?_)); (try simp only [Bool.not_eq_eq_eq_not, Bool.not_true, Bool.not_false] at *); simp only [*, List.getD_eq_getElem?_getD, Bool.and_true, Bool.true_and, Bool.and_false, Bool.false_and, Bool.or_true, Bool.true_or, Bool.or_false, Bool.false_or, Bool.not_true, Bool.not_false, Bool.not_not, choBad, gs, Nat.add_sub_cancel, gp, Option.getD_some]
        refine sat_cond rfl (fun hb => ?_) (fun hb => ?_)
        · repeat (first | refine wa ?_ | refine wb rfl ?_ | refine wc rfl rfl hM ?_ | refine wd rfl hM ?_ | ((first | refine we rfl fun K hK => ?_ | refine wf rfl rfl fun K hK => ?_ | refine wg rfl rfl fun K hK => ?_ | refine wh rfl fun K hK => ?_); (simp only [lo, ld, ↓aop, ↓aCall, hP, hG, Nat.reduceLT, ↓reduceIte, Nat.reduceEqDiff, Nat.reduceAdd, Nat.reduceMul, Nat.reduceLeDiff, reduceCtorEq, D.cs, D.plain, fillD, chop, List.replicate]; repeat (with_reducible refine And.intro ?_ ?_; focus (first | decide | omega | (simp only [ln]; omega)))); try ((first | refine hK _ _ ?_ | refine hK _ ?_); clear hK K; simp only [lp])) | ((first | refine wi ?_ | refine wj ?_ | refine wk ?_ | refine wl ?_ | refine wm ?_ | refine wn ?_); simp only [lt, ↓reduceIte, Nat.reduceEqDiff]) | refine wo ?_)
          refine Fin.gc (.v (.bool false)) hE (by decide) rfl (by simp only [D.lt]) ?_
          have : rightR x = false := by
            have : chInner x = false := by
              simp only [chInner]
              rw [List.all_eq_false]
              exact ⟨i, by simpa using hc, by rw [gx, hb]; simp⟩
            simp only [rightR, this, Bool.and_false, Bool.false_and]
          rwa [this] at hK
        · repeat (first | refine wa ?_ | refine wb rfl ?_ | refine wc rfl rfl hM ?_ | refine wd rfl hM ?_ | ((first | refine we rfl fun K hK => ?_ | refine wf rfl rfl fun K hK => ?_ | refine wg rfl rfl fun K hK => ?_ | refine wh rfl fun K hK => ?_); (simp only [lo, ld, ↓aop, ↓aCall, hP, hG, Nat.reduceLT, ↓reduceIte, Nat.reduceEqDiff, Nat.reduceAdd, Nat.reduceMul, Nat.reduceLeDiff, reduceCtorEq, D.cs, D.plain, fillD, chop, List.replicate]; repeat (with_reducible refine And.intro ?_ ?_; focus (first | decide | omega | (simp only [ln]; omega)))); try ((first | refine hK _ _ ?_ | refine hK _ ?_); clear hK K; simp only [lp])) | ((first | refine wi ?_ | refine wj ?_ | refine wk ?_ | refine wl ?_ | refine wm ?_ | refine wn ?_); simp only [lt, ↓reduceIte, Nat.reduceEqDiff]) | refine wo ?_)
          refine sat_loop_ent (fun n ts H => ∃ (k : Nat), n = s.slaves.length - k ∧ k ≤ s.slaves.length ∧ (s.slaves.take k).any subBad = false ∧
            ts = fr 176 [(8, .v (.int .i64 k)), (7, .ptr (E.H0.length + 1) 0), (6, .v (.int .i64 i)), (2, .v (.bool false)), (1, .ptr E.H0.length 0)] ∧ H = E.H0 ++ [altB x, .box ((choR s).map .v)]) (s.slaves.length) (.weakFr ?_) ⟨0, rfl, Nat.zero_le _, rfl, rfl, rfl⟩ ?_
          · simp only [le, ↓reduceIte, Nat.reduceEqDiff, and_true]; repeat' (first | exact trivial | exact D.le_refl _ | exact D.le_any _ | with_reducible refine And.intro ?_ ?_)
          rintro n ts H ⟨k, rfl, hk, hkall, rfl, rfl⟩
          repeat (first | refine wa ?_ | refine wb rfl ?_ | refine wc rfl rfl hM ?_ | refine wd rfl hM ?_ | ((first | refine we rfl fun K hK => ?_ | refine wf rfl rfl fun K hK => ?_ | refine wg rfl rfl fun K hK => ?_ | refine wh rfl fun K hK => ?_); (simp only [lo, ld, ↓aop, ↓aCall, hP, hG, Nat.reduceLT, ↓reduceIte, Nat.reduceEqDiff, Nat.reduceAdd, Nat.reduceMul, Nat.reduceLeDiff, reduceCtorEq, D.cs, D.plain, fillD, chop, List.replicate, altB, altV, choR, strs, tk_3, ze_3, sz_3, tk_9, ze_9, sz_9, tk_50, ze_50, sz_50, tk_52, ze_52, sz_52, kn_52]; repeat (with_reducible refine And.intro ?_ ?_; focus (first | decide | omega | (simp only [ln]; omega)))); try ((first | refine hK _ _ ?_ | refine hK _ ?_); clear hK K; simp only [lp])) | ((first | refine wi ?_ | refine wj ?_ | refine wk ?_ | refine wl ?_ | refine wm ?_ | refine wn ?_); simp only [lt, ↓reduceIte, Nat.reduceEqDiff]) | refine wo ?_)
          refine sat_cond rfl (fun hd => ?_) (fun hd => ?_)
          · simp at hd
            obtain ⟨t, ht⟩ : ∃ t, s.slaves[k]? = some t := ⟨_, List.getElem?_eq_getElem hd⟩
            have hwk := wrap_succ (i := k) (by omega)
            repeat (first | refine wa ?_ | refine wb rfl ?_ | refine wc rfl rfl hM ?_ | refine wd rfl hM ?_ | ((first | refine we rfl fun K hK => ?_ | refine wf rfl rfl fun K hK => ?_ | refine wg rfl rfl fun K hK => ?_ | refine wh rfl fun K hK => ?_); (simp only [lo, ld, ↓aop, ↓aCall, hP, hG, Nat.reduceLT, ↓reduceIte, Nat.reduceEqDiff, Nat.reduceAdd, Nat.reduceMul, Nat.reduceLeDiff, reduceCtorEq, D.cs, D.plain, fillD, chop, List.replicate]; repeat (with_reducible refine And.intro ?_ ?_; focus (first | decide | omega | (simp only [ln]; omega)))); try ((first | refine hK _ _ ?_ | refine hK _ ?_); clear hK K; simp only [lp])) | ((first | refine wi ?_ | refine wj ?_ | refine wk ?_ | refine wl ?_ | refine wm ?_ | refine wn ?_); simp only [lt, ↓reduceIte, Nat.reduceEqDiff]) | refine wo ?_)
            refine sat_thru (fr 176 [(158, .v (.bool (subBad t))), (8, .v (.int .i64 k)), (7, .ptr (E.H0.length + 1) 0), (6, .v (.int .i64 i)), (2, .v (.bool false)), (1, .ptr E.H0.length 0)]) (E.H0 ++ [altB x, .box ((choR s).map .v)]) ?_ ?_
            · (first | refine wr ?_ | refine wp rfl hM ?_ | refine wq hM ?_); repeat' (first | ((first | refine wx ?_ | refine wy ?_ | refine wz ?_); (simp only [lo, ld, ↓aop, ↓aCall, hP, hG, Nat.reduceLT, ↓reduceIte, Nat.reduceEqDiff, Nat.reduceAdd, Nat.reduceMul, Nat.reduceLeDiff, reduceCtorEq, D.cs, D.plain, fillD, chop, List.replicate, altB, altV, choR, strs, tk_3, ze_3, sz_3, tk_4, ze_4, sz_4, tk_9, ze_9, sz_9, tk_50, ze_50, sz_50, tk_52, ze_52, sz_52, kn_52, hd, ht]; repeat (with_reducible refine And.intro ?_ ?_; focus (first | decide | omega | (simp only [ln]; omega)))); try ((first | refine hK _ _ ?_ | refine hK _ ?_); clear hK K; simp only [lp])) | refine we rfl fun K hK => ?_ | refine wf rfl rfl fun K hK => ?_ | refine wg rfl rfl fun K hK => ?_ | refine wh rfl fun K hK => ?_ | ((first | refine Xg rfl rfl (by decide) ?_ fun K hK => ?_ | refine Yg rfl rfl (by decide) ?_ fun K hK => ?_ | refine Zg rfl rfl rfl (by decide) ?_ fun K hK => ?_); (focus (simp only [look_cons, ↓reduceIte, Nat.reduceEqDiff, Bool.not_true, Bool.not_false]; done))) | ((first | refine Xn rfl rfl (by decide) ?_ ?_ | refine Yn rfl rfl (by decide) ?_ ?_ | refine Zn rfl rfl rfl (by decide) ?_ ?_); (focus (simp only [look_cons, ↓reduceIte, Nat.reduceEqDiff, Bool.not_true, Bool.not_false]; done)); simp only [lp]) | ((first | refine Xo rfl rfl (by decide) ?_ ?_ | refine Yo rfl rfl (by decide) ?_ ?_ | refine Zo rfl rfl rfl (by decide) ?_ ?_); (focus (simp only [look_cons, ↓reduceIte, Nat.reduceEqDiff, Bool.not_true, Bool.not_false]; done)); simp only [lp]) | ((first | refine Xs rfl rfl (by decide) rfl (fun h K hK => ?_) fun h => ?_ | refine Ys rfl rfl (by decide) rfl (fun h K hK => ?_) fun h => ?_ | refine Zs rfl rfl rfl (by decide) rfl (fun h K hK => ?_) fun h => ?_); rotate_left; (focus (simp only [Bool.not_true, Bool.not_false, lp])); rotate_left) | ((first | refine wi ?_ | refine wj ?_ | refine wk ?_); simp only [lt, ↓reduceIte, Nat.reduceEqDiff]))
              · refine spec_rplace _ (by have := hs3 t (List.mem_of_getElem? ht); omega) _ _ (hK _ _ ?_)
                clear hK K; simp only [lp]
                repeat' (first | ((first | refine wx ?_ | refine wy ?_ | refine wz ?_); (simp only [lo, ld, ↓aop, ↓aCall, hP, hG, Nat.reduceLT, ↓reduceIte, Nat.reduceEqDiff, Nat.reduceAdd, Nat.reduceMul, Nat.reduceLeDiff, reduceCtorEq, D.cs, D.plain, fillD, chop, List.replicate, altB, altV, choR, strs, tk_3, ze_3, sz_3, tk_4, ze_4, sz_4, tk_9, ze_9, sz_9, tk_50, ze_50, sz_50, tk_52, ze_52, sz_52, kn_52, hd, ht]; repeat (with_reducible refine And.intro ?_ ?_; focus (first | decide | omega | (simp only [ln]; omega)))); try ((first | refine hK _ _ ?_ | refine hK _ ?_); clear hK K; simp only [lp])) | refine we rfl fun K hK => ?_ | refine wf rfl rfl fun K hK => ?_ | refine wg rfl rfl fun K hK => ?_ | refine wh rfl fun K hK => ?_ | ((first | refine Xg rfl rfl (by decide) ?_ fun K hK => ?_ | refine Yg rfl rfl (by decide) ?_ fun K hK => ?_ | refine Zg rfl rfl rfl (by decide) ?_ fun K hK => ?_); (focus (simp only [look_cons, ↓reduceIte, Nat.reduceEqDiff, Bool.not_true, Bool.not_false]; done))) | ((first | refine Xn rfl rfl (by decide) ?_ ?_ | refine Yn rfl rfl (by decide) ?_ ?_ | refine Zn rfl rfl rfl (by decide) ?_ ?_); (focus (simp only [look_cons, ↓reduceIte, Nat.reduceEqDiff, Bool.not_true, Bool.not_false]; done)); simp only [lp]) | ((first | refine Xo rfl rfl (by decide) ?_ ?_ | refine Yo rfl rfl (by decide) ?_ ?_ | refine Zo rfl rfl rfl (by decide) ?_ ?_); (focus (simp only [look_cons, ↓reduceIte, Nat.reduceEqDiff, Bool.not_true, Bool.not_false]; done)); simp only [lp]) | ((first | refine Xs rfl rfl (by decide) rfl (fun h K hK => ?_) fun h => ?_ | refine Ys rfl rfl (by decide) rfl (fun h K hK => ?_) fun h => ?_ | refine Zs rfl rfl rfl (by decide) rfl (fun h K hK => ?_) fun h => ?_); rotate_left; (focus (simp only [Bool.not_true, Bool.not_false, lp])); rotate_left) | ((first | refine wi ?_ | refine wj ?_ | refine wk ?_); simp only [lt, ↓reduceIte, Nat.reduceEqDiff]))
                refine .weakFr ?_
                simp only [le, ↓reduceIte, Nat.reduceEqDiff, and_true]; repeat' (first | exact trivial | exact D.le_refl _ | exact D.le_any _ | with_reducible refine And.intro ?_ ?_)
                all_goals clear hall
                all_goals refine D.le_eq (congrArg D.v (congrArg V.bool ?_)); (try simp only [Bool.not_eq_eq_eq_not, Bool.not_true, Bool.not_false] at *); simp only [*, List.getD_eq_getElem?_getD, Bool.and_true, Bool.true_and, Bool.and_false, Bool.false_and, Bool.or_true, Bool.true_or, Bool.or_false, Bool.false_or, Bool.not_true, Bool.not_false, Bool.not_not, subBad]
              · refine .weakFr ?_
                simp only [le, ↓reduceIte, Nat.reduceEqDiff, and_true]; repeat' (first | exact trivial | exact D.le_refl _ | exact D.le_any _ | with_reducible refine And.intro ?_ ?_)
                all_goals clear hall
                all_goals refine D.le_eq (congrArg D.v (congrArg V.bool ?_)); (try simp only [Bool.not_eq_eq_eq_not, Bool.not_true, Bool.not_false] at *); simp only [*, List.getD_eq_getElem?_getD, Bool.and_true, Bool.true_and, Bool.and_false, Bool.false_and, Bool.or_true, Bool.true_or, Bool.or_false, Bool.false_or, Bool.not_true, Bool.not_false, Bool.not_not, subBad]
            refine sat_cond rfl (fun he => ?_) (fun he => ?_)
            · repeat (first | refine wa ?_ | refine wb rfl ?_ | refine wc rfl rfl hM ?_ | refine wd rfl hM ?_ | ((first | refine we rfl fun K hK => ?_ | refine wf rfl rfl fun K hK => ?_ | refine wg rfl rfl fun K hK => ?_ | refine wh rfl fun K hK => ?_); (simp only [lo, ld, ↓aop, ↓aCall, hP, hG, Nat.reduceLT, ↓reduceIte, Nat.reduceEqDiff, Nat.reduceAdd, Nat.reduceMul, Nat.reduceLeDiff, reduceCtorEq, D.cs, D.plain, fillD, chop, List.replicate]; repeat (with_reducible refine And.intro ?_ ?_; focus (first | decide | omega | (simp only [ln]; omega)))); try ((first | refine hK _ _ ?_ | refine hK _ ?_); clear hK K; simp only [lp])) | ((first | refine wi ?_ | refine wj ?_ | refine wk ?_ | refine wl ?_ | refine wm ?_ | refine wn ?_); simp only [lt, ↓reduceIte, Nat.reduceEqDiff]) | refine wo ?_)
              refine Fin.gc (.v (.bool false)) hE (by decide) rfl (by simp only [D.lt]) ?_
              have : rightR x = false := by
                have : chInner x = false := by
                  simp only [chInner]
                  rw [List.all_eq_false]
                  have h2 : s.slaves.any subBad = true := List.any_eq_true.2 ⟨t, List.mem_of_getElem? ht, he⟩
                  exact ⟨i, by simpa using hc, by rw [gx, h2]; simp⟩
                simp only [rightR, this, Bool.and_false, Bool.false_and]
              rwa [this] at hK
            · repeat (first | refine wa ?_ | refine wb rfl ?_ | refine wc rfl rfl hM ?_ | refine wd rfl hM ?_ | ((first | refine we rfl fun K hK => ?_ | refine wf rfl rfl fun K hK => ?_ | refine wg rfl rfl fun K hK => ?_ | refine wh rfl fun K hK => ?_); (simp only [lo, ld, ↓aop, ↓aCall, hP, hG, Nat.reduceLT, ↓reduceIte, Nat.reduceEqDiff, Nat.reduceAdd, Nat.reduceMul, Nat.reduceLeDiff, reduceCtorEq, D.cs, D.plain, fillD, chop, List.replicate, hwk]; repeat (with_reducible refine And.intro ?_ ?_; focus (first | decide | omega | (simp only [ln]; omega)))); try ((first | refine hK _ _ ?_ | refine hK _ ?_); clear hK K; simp only [lp])) | ((first | refine wi ?_ | refine wj ?_ | refine wk ?_ | refine wl ?_ | refine wm ?_ | refine wn ?_); simp only [lt, ↓reduceIte, Nat.reduceEqDiff]) | refine wo ?_)
              refine ⟨s.slaves.length - (k + 1), _, _, by omega, .weakFr ?_, k + 1, rfl, by omega, ?_, rfl, rfl⟩
              · simp only [le, ↓reduceIte, Nat.reduceEqDiff, and_true]; repeat' (first | exact trivial | exact D.le_refl _ | exact D.le_any _ | with_reducible refine And.intro ?_ ?_)
              · rw [take_snoc ht, List.any_append, hkall]; simp [he]
          · simp at hd
            have e : s.slaves.take k = s.slaves := List.take_of_length_le (by omega)
            rw [e] at hkall
            repeat (first | refine wa ?_ | refine wb rfl ?_ | refine wc rfl rfl hM ?_ | refine wd rfl hM ?_ | ((first | refine we rfl fun K hK => ?_ | refine wf rfl rfl fun K hK => ?_ | refine wg rfl rfl fun K hK => ?_ | refine wh rfl fun K hK => ?_); (simp only [lo, ld, ↓aop, ↓aCall, hP, hG, Nat.reduceLT, ↓reduceIte, Nat.reduceEqDiff, Nat.reduceAdd, Nat.reduceMul, Nat.reduceLeDiff, reduceCtorEq, D.cs, D.plain, fillD, chop, List.replicate, hw, tk_3, ze_3, sz_3]; repeat (with_reducible refine And.intro ?_ ?_; focus (first | decide | omega | (simp only [ln]; omega)))); try ((first | refine hK _ _ ?_ | refine hK _ ?_); clear hK K; simp only [lp])) | ((first | refine wi ?_ | refine wj ?_ | refine wk ?_ | refine wl ?_ | refine wm ?_ | refine wn ?_); simp only [lt, ↓reduceIte, Nat.reduceEqDiff]) | refine wo ?_)
            refine ⟨x.choices.length - (i + 1), _, _, by omega, Ent.rnd hE ?_ rfl ?_ (altB_lt _ _), i + 1, rfl, by omega, fun j hj => ?_, rfl, rfl⟩
            · simp only [le, ↓reduceIte, Nat.reduceEqDiff, and_true]; repeat' (first | exact trivial | exact D.le_refl _ | exact D.le_any _ | with_reducible refine And.intro ?_ ?_)
            · simp [ltAll, ltObs, Ob.lt, D.lt, D.ltL, or_imp, forall_and]
            · rcases Nat.lt_succ_iff_lt_or_eq.1 hj with h | rfl
              · exact hall j h
              · rw [gx, hb, hkall]; rfl
      · simp at hc
        have e1 : chInner x = true := by
          simp only [chInner, List.all_eq_true, List.mem_range]
          exact fun j hj => by rw [hall j (by omega)]; rfl
        clear hall
        repeat (first | refine wa ?_ | refine wb rfl ?_ | refine wc rfl rfl hM ?_ | refine wd rfl hM ?_ | ((first | refine we rfl fun K hK => ?_ | refine wf rfl rfl fun K hK => ?_ | refine wg rfl rfl fun K hK => ?_ | refine wh rfl fun K hK => ?_); (simp only [lo, ld, ↓aop, ↓aCall, hP, hG, Nat.reduceLT, ↓reduceIte, Nat.reduceEqDiff, Nat.reduceAdd, Nat.reduceMul, Nat.reduceLeDiff, reduceCtorEq, D.cs, D.plain, fillD, chop, List.replicate, altB, altV, tk_3, ze_3, sz_3, tk_9, ze_9, sz_9, tk_46, ze_46, sz_46, kn_46]; repeat (with_reducible refine And.intro ?_ ?_; focus (first | decide | omega | (simp only [ln]; omega)))); try ((first | refine hK _ _ ?_ | refine hK _ ?_); clear hK K; simp only [lp])) | ((first | refine wi ?_ | refine wj ?_ | refine wk ?_ | refine wl ?_ | refine wm ?_ | refine wn ?_); simp only [lt, ↓reduceIte, Nat.reduceEqDiff]) | refine wo ?_)
        refine spec_rChoice x x.cur (by omega) _ _ (hK _ _ ?_)
        clear hK K; simp only [lp]
        repeat (first | refine wa ?_ | refine wb rfl ?_ | refine wc rfl rfl hM ?_ | refine wd rfl hM ?_ | ((first | refine we rfl fun K hK => ?_ | refine wf rfl rfl fun K hK => ?_ | refine wg rfl rfl fun K hK => ?_ | refine wh rfl fun K hK => ?_); (simp only [lo, ld, ↓aop, ↓aCall, hP, hG, Nat.reduceLT, ↓reduceIte, Nat.reduceEqDiff, Nat.reduceAdd, Nat.reduceMul, Nat.reduceLeDiff, reduceCtorEq, D.cs, D.plain, fillD, chop, List.replicate]; repeat (with_reducible refine And.intro ?_ ?_; focus (first | decide | omega | (simp only [ln]; omega)))); try ((first | refine hK _ _ ?_ | refine hK _ ?_); clear hK K; simp only [lp])) | ((first | refine wi ?_ | refine wj ?_ | refine wk ?_ | refine wl ?_ | refine wm ?_ | refine wn ?_); simp only [lt, ↓reduceIte, Nat.reduceEqDiff]) | refine wo ?_)
        have e2 : rightR x = finalB x := by simp only [rightR, hb, hlns, e1, Bool.not_false, Bool.true_and]
        rw [e2] at hK
        refine sat_thru (fr 176 [(2, .v (.bool (finalB x)))]) E.H0 ?_ ?_
        · (first | refine wr ?_ | refine wp rfl hM ?_ | refine wq hM ?_); repeat' (first | ((first | refine wx ?_ | refine wy ?_ | refine wz ?_); (simp only [lo, ld, ↓aop, ↓aCall, hP, hG, Nat.reduceLT, ↓reduceIte, Nat.reduceEqDiff, Nat.reduceAdd, Nat.reduceMul, Nat.reduceLeDiff, reduceCtorEq, D.cs, D.plain, fillD, chop, List.replicate, altB, altV, tk_3, ze_3, sz_3, tk_4, ze_4, sz_4, tk_9, ze_9, sz_9, tk_46, ze_46, sz_46, kn_46, tk_44, ze_44, sz_44]; repeat (with_reducible refine And.intro ?_ ?_; focus (first | decide | omega | (simp only [ln]; omega)))); try ((first | refine hK _ _ ?_ | refine hK _ ?_); clear hK K; simp only [lp])) | refine we rfl fun K hK => ?_ | refine wf rfl rfl fun K hK => ?_ | refine wg rfl rfl fun K hK => ?_ | refine wh rfl fun K hK => ?_ | ((first | refine Xg rfl rfl (by decide) ?_ fun K hK => ?_ | refine Yg rfl rfl (by decide) ?_ fun K hK => ?_ | refine Zg rfl rfl rfl (by decide) ?_ fun K hK => ?_); (focus (simp only [look_cons, ↓reduceIte, Nat.reduceEqDiff, Bool.not_true, Bool.not_false]; done))) | ((first | refine Xn rfl rfl (by decide) ?_ ?_ | refine Yn rfl rfl (by decide) ?_ ?_ | refine Zn rfl rfl rfl (by decide) ?_ ?_); (focus (simp only [look_cons, ↓reduceIte, Nat.reduceEqDiff, Bool.not_true, Bool.not_false]; done)); simp only [lp]) | ((first | refine Xo rfl rfl (by decide) ?_ ?_ | refine Yo rfl rfl (by decide) ?_ ?_ | refine Zo rfl rfl rfl (by decide) ?_ ?_); (focus (simp only [look_cons, ↓reduceIte, Nat.reduceEqDiff, Bool.not_true, Bool.not_false]; done)); simp only [lp]) | ((first | refine Xs rfl rfl (by decide) rfl (fun h K hK => ?_) fun h => ?_ | refine Ys rfl rfl (by decide) rfl (fun h K hK => ?_) fun h => ?_ | refine Zs rfl rfl rfl (by decide) rfl (fun h K hK => ?_) fun h => ?_); rotate_left; (focus (simp only [Bool.not_true, Bool.not_false, lp])); rotate_left) | ((first | refine wi ?_ | refine wj ?_ | refine wk ?_); simp only [lt, ↓reduceIte, Nat.reduceEqDiff]))
          · refine spec_rBest x.choices (by omega) _ _ (hK _ _ ?_)
            clear hK K; simp only [lp]
            repeat' (first | ((first | refine wx ?_ | refine wy ?_ | refine wz ?_); (simp only [lo, ld, ↓aop, ↓aCall, hP, hG, Nat.reduceLT, ↓reduceIte, Nat.reduceEqDiff, Nat.reduceAdd, Nat.reduceMul, Nat.reduceLeDiff, reduceCtorEq, D.cs, D.plain, fillD, chop, List.replicate, altB, altV, tk_3, ze_3, sz_3, tk_4, ze_4, sz_4, tk_9, ze_9, sz_9, tk_46, ze_46, sz_46, kn_46, tk_44, ze_44, sz_44]; repeat (with_reducible refine And.intro ?_ ?_; focus (first | decide | omega | (simp only [ln]; omega)))); try ((first | refine hK _ _ ?_ | refine hK _ ?_); clear hK K; simp only [lp])) | refine we rfl fun K hK => ?_ | refine wf rfl rfl fun K hK => ?_ | refine wg rfl rfl fun K hK => ?_ | refine wh rfl fun K hK => ?_ | ((first | refine Xg rfl rfl (by decide) ?_ fun K hK => ?_ | refine Yg rfl rfl (by decide) ?_ fun K hK => ?_ | refine Zg rfl rfl rfl (by decide) ?_ fun K hK => ?_); (focus (simp only [look_cons, ↓reduceIte, Nat.reduceEqDiff, Bool.not_true, Bool.not_false]; done))) | ((first | refine Xn rfl rfl (by decide) ?_ ?_ | refine Yn rfl rfl (by decide) ?_ ?_ | refine Zn rfl rfl rfl (by decide) ?_ ?_); (focus (simp only [look_cons, ↓reduceIte, Nat.reduceEqDiff, Bool.not_true, Bool.not_false]; done)); simp only [lp]) | ((first | refine Xo rfl rfl (by decide) ?_ ?_ | refine Yo rfl rfl (by decide) ?_ ?_ | refine Zo rfl rfl rfl (by decide) ?_ ?_); (focus (simp only [look_cons, ↓reduceIte, Nat.reduceEqDiff, Bool.not_true, Bool.not_false]; done)); simp only [lp]) | ((first | refine Xs rfl rfl (by decide) rfl (fun h K hK => ?_) fun h => ?_ | refine Ys rfl rfl (by decide) rfl (fun h K hK => ?_) fun h => ?_ | refine Zs rfl rfl rfl (by decide) rfl (fun h K hK => ?_) fun h => ?_); rotate_left; (focus (simp only [Bool.not_true, Bool.not_false, lp])); rotate_left) | ((first | refine wi ?_ | refine wj ?_ | refine wk ?_); simp only [lt, ↓reduceIte, Nat.reduceEqDiff]))
            refine Ent.round0 hE ?_ (by simp [ltAll, ltObs, Ob.lt, D.lt, D.ltL, or_imp, forall_and])
            simp only [le, ↓reduceIte, Nat.reduceEqDiff, and_true]; repeat' (first | exact trivial | exact D.le_refl _ | exact D.le_any _ | with_reducible refine And.intro ?_ ?_)
            all_goals refine D.le_eq (congrArg D.v (congrArg V.bool ?_)); (try simp only [Bool.not_eq_eq_eq_not, Bool.not_true, Bool.not_false] at *); simp only [*, List.getD_eq_getElem?_getD, Bool.and_true, Bool.true_and, Bool.and_false, Bool.false_and, Bool.or_true, Bool.true_or, Bool.or_false, Bool.false_or, Bool.not_true, Bool.not_false, Bool.not_not, finalB]
          · refine Ent.round0 hE ?_ (by simp [ltAll, ltObs, Ob.lt, D.lt, D.ltL, or_imp, forall_and])
            simp only [le, ↓reduceIte, Nat.reduceEqDiff, and_true]; repeat' (first | exact trivial | exact D.le_refl _ | exact D.le_any _ | with_reducible refine And.intro ?_ ?_)
            all_goals refine D.le_eq (congrArg D.v (congrArg V.bool ?_)); (try simp only [Bool.not_eq_eq_eq_not, Bool.not_true, Bool.not_false] at *); simp only [*, List.getD_eq_getElem?_getD, Bool.and_true, Bool.true_and, Bool.and_false, Bool.false_and, Bool.or_true, Bool.true_or, Bool.or_false, Bool.false_or, Bool.not_true, Bool.not_false, Bool.not_not, finalB]
          · refine Ent.round0 hE ?_ (by simp [ltAll, ltObs, Ob.lt, D.lt, D.ltL, or_imp, forall_and])
            simp only [le, ↓reduceIte, Nat.reduceEqDiff, and_true]; repeat' (first | exact trivial | exact D.le_refl _ | exact D.le_any _ | with_reducible refine And.intro ?_ ?_)
            all_goals refine D.le_eq (congrArg D.v (congrArg V.bool ?_)); (try simp only [Bool.not_eq_eq_eq_not, Bool.not_true, Bool.not_false] at *); simp only [*, List.getD_eq_getElem?_getD, Bool.and_true, Bool.true_and, Bool.and_false, Bool.false_and, Bool.or_true, Bool.true_or, Bool.or_false, Bool.false_or, Bool.not_true, Bool.not_false, Bool.not_not, finalB]
        repeat (first | refine wa ?_ | refine wb rfl ?_ | refine wc rfl rfl hM ?_ | refine wd rfl hM ?_ | ((first | refine we rfl fun K hK => ?_ | refine wf rfl rfl fun K hK => ?_ | refine wg rfl rfl fun K hK => ?_ | refine wh rfl fun K hK => ?_); (simp only [lo, ld, ↓aop, ↓aCall, hP, hG, Nat.reduceLT, ↓reduceIte, Nat.reduceEqDiff, Nat.reduceAdd, Nat.reduceMul, Nat.reduceLeDiff, reduceCtorEq, D.cs, D.plain, fillD, chop, List.replicate]; repeat (with_reducible refine And.intro ?_ ?_; focus (first | decide | omega | (simp only [ln]; omega)))); try ((first | refine hK _ _ ?_ | refine hK _ ?_); clear hK K; simp only [lp])) | ((first | refine wi ?_ | refine wj ?_ | refine wk ?_ | refine wl ?_ | refine wm ?_ | refine wn ?_); simp only [lt, ↓reduceIte, Nat.reduceEqDiff]) | refine wo ?_)
        exact Fin.is _ (by decide) rfl hK
end Go.Ag
/- AGo, part 26: the library's work on strings in arrays of one's own. -/
namespace Go.Ag
open Go Go.RowKit Go.Sort Go.Proofs

def rowsS (l : List Str) : List (List D) := l.map fun s => [.v (.str s)]
theorem rowsS_flat (l : List Str) : (rowsS l).flatten = l.map fun s => .v (.str s) := by
  induction l with
  | nil => rfl
  | cons s l ih => simp only [rowsS, List.map_cons, List.flatten_cons] at ih ⊢; rw [ih]; rfl
theorem relL_strs {M : Mem} {μ : Mu} : ∀ l : List Str, RelL M μ (l.map fun s => .v (.str s)) (l.map encStr)
  | [] => by simp [RelL]
  | s :: l => by
    rw [List.map_cons, List.map_cons, RelL.cons_iff]
    exact ⟨by simp only [Rel, RelV], relL_strs l⟩
theorem rowsS_rows {M : Mem} {μ : Mu} {l : List Str} {vs : List Value} (h : vs.take l.length = l.map encStr) : Rows M μ 1 (rowsS l) vs := by
  refine Rows.of_flat (fun x hx => ?_) ?_
  · obtain ⟨s, _, rfl⟩ := List.mem_map.1 hx; rfl
  · refine ⟨vs, rfl, ?_⟩
    rw [rowsS_flat, show (rowsS l).length * 1 = l.length by simp [rowsS], h]; exact relL_strs l

/-- What lies in a block that is new is one's own from here on. -/
theorem R.adopt {E : Env} {M : Mem} {μ : Mu} {H : List Ob} {w : World} (h : R E M μ H w) {o : Ob} {p : Pt} (hf : ∀ i o q, H[i]? = some o → o ≠ .dead → μ i = some q → q.blk ≠ p.blk)
    (ho : ObRel E.w0.heap.size M (upd μ H.length p) w o p) : R E M (upd μ H.length p) (H ++ [o]) w := by
  have hle : μ.le (upd μ H.length p) := Mu.le_upd_new h.mu_new
  refine ⟨h.below, h.imm, h.glob, fun i q hq => ?_, fun i o' q ho' hq => ?_, ?_, fun i hi => (by
    by_cases e : i = H.length
    · subst e; exact ⟨p, upd_self _ _ _⟩
    · rw [upd_ne _ _ e]; exact h.tot i (by simp at hi; omega))⟩
  · by_cases e : i = H.length
    · subst e; simp
    · rw [upd_ne _ _ e] at hq; have := h.dom i q hq; simp; omega
  · by_cases e : i = H.length
    · subst e
      rw [upd_self] at hq; cases hq
      simp at ho'; subst ho'
      exact ho
    · rw [upd_ne _ _ e] at hq
      have hlt := h.dom i q hq
      rw [List.getElem?_append_left hlt] at ho'
      have hob := h.obj i o' q ho' hq
      by_cases hd : o' = .dead
      · subst hd; trivial
      · exact hob.same hle rfl
  · intro i j oi oj pi pj hij hi hj di dj hpi hpj
    by_cases ei : i = H.length
    · subst ei
      rw [upd_self] at hpi; cases hpi
      have ej : j ≠ H.length := fun e => hij e.symm
      rw [upd_ne _ _ ej] at hpj
      have hlt := h.dom j pj hpj
      rw [List.getElem?_append_left hlt] at hj
      exact (hf j oj pj hj dj hpj).symm
    · rw [upd_ne _ _ ei] at hpi
      have hlt := h.dom i pi hpi
      rw [List.getElem?_append_left hlt] at hi
      by_cases ej : j = H.length
      · subst ej
        rw [upd_self] at hpj; cases hpj
        exact hf i oi pi hi di hpi
      · rw [upd_ne _ _ ej] at hpj
        have hlt := h.dom j pj hpj
        rw [List.getElem?_append_left hlt] at hj
        exact h.sep i j oi oj pi pj hij hi hj di dj hpi hpj

theorem lib_Clone {P : Program} {G : Nat → Option (List V)} {f : FuncId} {H : List Ob} {K : D → List Ob → Prop} {t : TypeId} (hc : callB P f = true) (l : List Str) (hne : l ≠ [])
    (h : ∀ (b off n c : Nat) (zs : List ByteArray) (w : World) (hz : n ≤ zs.length) (hbig : n * 16 ≤ 140737488355328) (hc : ∀ j, j < zs.length → w.cell? ⟨b, off + j, none⟩ = some (.string (zs.getD j ByteArray.empty))),
      Calls P f #[.slice (some ⟨b, off, none⟩) n c] w fun e w' => ∃ v', e = .returned v' ∧ w'.ownsRow w.heap.size t 1 v' n ((zs.take n).map (Value.string)) ∧ v' ≠ .slice none 0 0 ∧ Below w.heap.size w w')
    (hbig : l.length * 16 ≤ 140737488355328) (hK : K (.own H.length 1 l.length) (H ++ [.arr 1 1 (rowsS l) 0])) : ACalls P G f [.v (.list 1 (l.map fun s => [.str s]))] H K := by
  refine ⟨hc, fun E e1 e2 M μ w vs hr hv => ?_⟩
  obtain ⟨y1, vs2, rfl, g1, g2⟩ := (by simpa only [RelL] using hv : ∃ v vs', vs = v :: vs' ∧ Rel M μ (.v (.list 1 (l.map fun s => [.str s]))) v ∧ RelL M μ [] vs')
  simp only [RelL] at g2; subst g2
  obtain ⟨A, c, rfl, hcap, hh⟩ := hr.strs g1
  rcases hh with rfl | ⟨b, o, rfl, hb, _, hcell⟩
  · exact absurd rfl hne
  have := h b o l.length c (l.map fun s => ByteArray.mk s.toArray) w (by simp) hbig (fun j hj => by
    obtain ⟨s, hs⟩ : ∃ s, l[j]? = some s := ⟨_, List.getElem?_eq_getElem (by simpa using hj)⟩
    rw [hcell j s hs]; simp [List.getD_eq_getElem?_getD, hs])
  refine this.mono ?_
  rintro e w' ⟨v', rfl, ⟨hxl, hown⟩, hnn, hbel⟩
  rcases hown with ⟨rfl, _⟩ | ⟨g, cap, cur, rfl, hg, hheap, hncap, hcm, hcs, htk⟩
  · exact absurd rfl hnn
  have hr' := hr.more hbel
  have hfresh : ∀ i o q, H[i]? = some o → o ≠ .dead → μ i = some q → q.blk ≠ g := fun i o q hi hd hq e => by
    have := (hr.obj i o q hi hq).lt hd; omega
  have hMg : ∀ o, M g o = none := fun o => by
    cases hy : M g o with
    | none => rfl
    | some y => have := hr.imm_lt hy; omega
  have htk' : cur.toList.take l.length = l.map encStr := by
    have e := htk
    rw [Nat.mul_one] at e
    rw [e, List.take_of_length_le (by simp), List.map_map]
    rfl
  have hR := hr'.adopt (o := .arr 1 1 (rowsS l) 0) (p := ⟨g, cap, 1⟩) hfresh
    ⟨Nat.le_trans hr.below.size hg, rfl, Nat.le_refl _, fun o y hy => (by rw [hMg o] at hy; cases hy), by simpa [rowsS] using hncap, cur.toList, t, by simpa using hheap, by simpa using hcs, rowsS_rows htk'⟩
  refine ⟨_, _, M, upd μ H.length ⟨g, cap, 1⟩, _, rfl, .refl _, Mu.le_upd_new hr.mu_new, hR, ?_, hK⟩
  simp only [Rel]
  exact ⟨⟨_, _, _, rfl⟩, _, upd_self _ _ _, Nat.le_refl _, Nat.le_refl _, fun _ => ⟨hncap, rfl⟩⟩

theorem heap_putRow_other {w : World} {n blk off k : Nat} {d : Array (List UInt8)} (h : k ≠ blk) : (putRow encStr (Sort.ahead w n) blk off d).heap[k]? = w.heap[k]? := by
  simp only [putRow, mapBlock, Sort.ahead, Array.getElem?_modify]
  rw [if_neg (fun e => h e.symm)]
theorem heap_putRow_self {w : World} {n blk off : Nat} {d : Array (List UInt8)} {cur : Array Value} {t : TypeId} {fr : Nat × Nat} (h : w.heap[blk]? = some (.cells cur t fr)) :
    (putRow encStr (Sort.ahead w n) blk off d).heap[blk]? = some (.cells (putCells encStr off d cur) t fr) := by
  simp only [putRow, mapBlock, Sort.ahead, Array.getElem?_modify, if_true, h, Option.map_some, onCells]

/-- An array of one's own, as a whole: other strings, as many. -/
theorem own_put {E : Env} {M : Mem} {μ : Mu} {H : List Ob} {w : World} (hr : R E M μ H w) {b ver : Nat} {l l' : List Str} {p : Pt} (n : Nat) (hb : H[b]? = some (.arr ver 1 (rowsS l) 0)) (hp : μ b = some p) (hl : l'.length = l.length) :
    R E M μ (H.set b (.arr ver 1 (rowsS l') 0)) (putRow encStr (Sort.ahead w n) p.blk 0 l'.toArray) := by
  obtain ⟨h1, h2, h3, h4, h5, vs, t, h6, h7, h8⟩ := hr.obj b _ p hb hp
  refine hr.setOb hb (by simp) hp rfl rfl rfl (by simp [putRow, mapBlock, Sort.ahead]) (fun k hk => heap_putRow_other hk) (fun o y hy => by have := h4 o y hy; omega) ?_
  refine ⟨h1, h2, h3, h4, by simpa [rowsS, hl] using h5, (putCells encStr 0 l'.toArray vs.toArray).toList, t, by simpa using heap_putRow_self h6, by simp [putCells, h7], rowsS_rows ?_⟩
  refine take_putCells _ _ ?_
  have : (rowsS l).length ≤ p.cap := h5
  simp only [rowsS, List.length_map] at this
  simp; omega

theorem own_val {E : Env} {M : Mem} {μ : Mu} {H : List Ob} {w : World} (hr : R E M μ H w) {b ver n : Nat} {l : List Str} {y : Value} (hb : H[b]? = some (.arr ver 1 (rowsS l) 0)) (hy : Rel M μ (.own b ver n) y) :
    ∃ p, μ b = some p ∧ p.ver = ver ∧ 1 ≤ ver ∧ n ≤ p.cap ∧ l.length ≤ p.cap ∧ y = .slice (some ⟨p.blk, 0, none⟩) n p.cap ∧ p.blk < w.heap.size ∧ Holds encStr w p.blk 0 l.toArray := by
  simp only [Rel] at hy
  obtain ⟨_, p, hp, _, _, h⟩ := hy
  obtain ⟨h1, h2, h3, h4, h5, vs, t, h6, h7, h8⟩ := hr.obj b _ p hb hp
  obtain ⟨g1, g2⟩ := h h2
  refine ⟨p, hp, h2, h3, g1, by simpa [rowsS] using h5, g2, (hr.obj b _ p hb hp).lt (by simp), fun j hj => ?_⟩
  have hj' : j < l.length := by simpa using hj
  obtain ⟨s, hs⟩ : ∃ s, l[j]? = some s := ⟨_, List.getElem?_eq_getElem hj'⟩
  obtain ⟨_, k2⟩ := h8 j [.v (.str s)] (by simp [rowsS, hs])
  obtain ⟨y, k3, k4⟩ := k2.get 0 (.v (.str s)) rfl
  simp only [Rel, RelV] at k4
  rw [Nat.mul_one, List.getElem?_take_of_lt (by decide), List.getElem?_drop, Nat.add_zero] at k3
  refine ⟨?_, ?_⟩
  · rw [Nat.zero_add, cell?_block h6, k3, k4]
    have : l.toArray[j]! = s := by
      rw [getElem!_pos _ _ (by simpa using hj')]
      simpa using (List.getElem?_eq_some_iff.1 hs).2
    rw [this]
  · simp [World.frozen?, h6]

theorem lib_Sort {P : Program} {G : Nat → Option (List V)} {f : FuncId} {H : List Ob} {K : D → List Ob → Prop} (hc : callB P f = true) (b ver : Nat) (l : List Str) (hb : H[b]? = some (.arr ver 1 (rowsS l) 0))
    (h : ∀ (blk off cap : Nat) (ss : List (List UInt8)) (w : World) (hH : Holds encStr w blk off ss.toArray) (hblk : blk < w.heap.size) (hsz : ss.length < 4611686018427387904),
      Calls P f #[.slice (some ⟨blk, off, none⟩) ss.length cap] w fun e w' => e = .returned (.tuple #[]) ∧ ∃ n os, w' = grow (putRow encStr (Sort.ahead w n) blk off (ss.mergeSort fun x y => decide (x ≤ y)).toArray) os)
    (hl : l.length < 4611686018427387904) (hK : K (.tup []) (H.set b (.arr ver 1 (rowsS (l.mergeSort fun x y => decide (x ≤ y))) 0))) : ACalls P G f [.own b ver l.length] H K := by
  refine ⟨hc, fun E e1 e2 M μ w vs hr hv => ?_⟩
  obtain ⟨y1, vs2, rfl, g1, g2⟩ := (by simpa only [RelL] using hv : ∃ v vs', vs = v :: vs' ∧ Rel M μ (.own b ver l.length) v ∧ RelL M μ [] vs')
  simp only [RelL] at g2; subst g2
  obtain ⟨p, hp, hpv, hv1, hn, hlc, rfl, hblk, hH⟩ := own_val hr hb g1
  refine (h p.blk 0 p.cap l w hH hblk hl).mono ?_
  rintro e w' ⟨rfl, n, os, rfl⟩
  have h1 := own_put hr (l' := l.mergeSort fun x y => decide (x ≤ y)) n hb hp (List.length_mergeSort _)
  have h2 := h1.more (w' := grow (putRow encStr (Sort.ahead w n) p.blk 0 (l.mergeSort fun x y => decide (x ≤ y)).toArray) os) ⟨rfl, rfl, rfl, by simp [grow], fun k hk => by
    simp only [grow]
    rw [Array.getElem?_append_left hk]⟩
  exact ⟨_, _, M, μ, _, rfl, .refl _, .refl _, h2, by simp only [Rel]; exact ⟨[], rfl, by simp [RelL]⟩, hK⟩

theorem lib_Compact {P : Program} {G : Nat → Option (List V)} {f : FuncId} {H : List Ob} {K : D → List Ob → Prop} (hc : callB P f = true) (b ver : Nat) (l : List Str) (hb : H[b]? = some (.arr ver 1 (rowsS l) 0))
    (h : ∀ (blk off cap : Nat) (zs : List (List UInt8)) (w : World) (hH : Holds encStr w blk off zs.toArray) (hsz : zs.length ≤ 9223372036854775807) (hcap : zs.length ≤ cap),
      Calls P f #[.slice (some ⟨blk, off, none⟩) zs.length cap] w fun e w' => e = .returned (.slice (some ⟨blk, off, none⟩) (Lib.compact zs).length cap) ∧ ∃ q, w' = putRow encStr (Sort.ahead w q) blk off (Lib.compact zs ++ List.replicate (zs.length - (Lib.compact zs).length) []).toArray)
    (hl : l.length ≤ 9223372036854775807) (hcl : (Lib.compact l).length ≤ l.length) (hK : K (.own b ver (Lib.compact l).length) (H.set b (.arr ver 1 (rowsS (Lib.compact l ++ List.replicate (l.length - (Lib.compact l).length) [])) 0))) : ACalls P G f [.own b ver l.length] H K := by
  refine ⟨hc, fun E e1 e2 M μ w vs hr hv => ?_⟩
  obtain ⟨y1, vs2, rfl, g1, g2⟩ := (by simpa only [RelL] using hv : ∃ v vs', vs = v :: vs' ∧ Rel M μ (.own b ver l.length) v ∧ RelL M μ [] vs')
  simp only [RelL] at g2; subst g2
  obtain ⟨p, hp, hpv, hv1, hn, hlc, rfl, hblk, hH⟩ := own_val hr hb g1
  refine (h p.blk 0 p.cap l w hH hl hlc).mono ?_
  rintro e w' ⟨rfl, q, rfl⟩
  have h1 := own_put hr (l' := Lib.compact l ++ List.replicate (l.length - (Lib.compact l).length) []) q hb hp (by simp; omega)
  refine ⟨_, _, M, μ, _, rfl, .refl _, .refl _, h1, ?_, hK⟩
  simp only [Rel]
  exact ⟨⟨_, _, _, rfl⟩, p, hp, by omega, hv1, fun _ => ⟨by omega, rfl⟩⟩
end Go.Ag
namespace Go.Ag
open Go Go.Proofs
variable {G : Nat → Option (List V)}
attribute [local irreducible] aops qops Sat aop

theorem compact_le (l : List Str) : (Lib.compact l).length ≤ l.length := by
  unfold Lib.compact Lib.compactUpTo
  simp only [List.length_map]
  exact Nat.le_trans (List.length_filter_le _ _) (by simp)
def sortS (l : List Str) : List Str := l.mergeSort fun x y => decide (x ≤ y)
def sortedS (l : List Str) : List Str := Lib.compact (sortS l)
theorem sortS_len (l : List Str) : (sortS l).length = l.length := List.length_mergeSort _

set_option maxHeartbeats 4000000 in
theorem spec_Sorted (l : List Str) (hne : l ≠ []) (hl : l.length ≤ 2000000) (H : List Ob) (K : D → List Ob → Prop) (hK : K (.v (strs (sortedS l))) H) : ACalls Tryd.prog G 67 [.v (strs l)] H K := by
  refine ACalls.go Tryd.f67 _ 10 [2] Tryd.func67 rfl Tryd.ntmps67 (by kernel_rfl) rfl (by simp) (fun E hE hP hG hH => ?_)
  have hM : E.P.follows .mixedOrders = true := hP ▸ mixed
  subst hH
  simp only [args0]
  repeat (first | refine wa ?_ | refine wb rfl ?_ | refine wc rfl rfl hM ?_ | refine wd rfl hM ?_ | ((first | refine we rfl fun K hK => ?_ | refine wf rfl rfl fun K hK => ?_ | refine wg rfl rfl fun K hK => ?_ | refine wh rfl fun K hK => ?_); (simp only [lo, ld, ↓aop, ↓aCall, hP, hG, Nat.reduceLT, ↓reduceIte, Nat.reduceEqDiff, Nat.reduceAdd, Nat.reduceMul, Nat.reduceLeDiff, reduceCtorEq, D.cs, D.plain, fillD, chop, List.replicate]; repeat (with_reducible refine And.intro ?_ ?_; focus (first | decide | omega | (simp only [ln]; omega)))); try ((first | refine hK _ _ ?_ | refine hK _ ?_); clear hK K; simp only [lp])) | ((first | refine wi ?_ | refine wj ?_ | refine wk ?_ | refine wl ?_ | refine wm ?_ | refine wn ?_); simp only [lt, ↓reduceIte, Nat.reduceEqDiff]) | refine wo ?_)
  refine lib_Clone (by kernel_rfl) l hne (fun b off n c zs w h1 h2 h3 => Tryd.slices_Clone_string b off n c zs w h1 h2 h3) (by omega) (hK _ _ ?_)
  clear hK K; simp only [lp]
  repeat (first | refine wa ?_ | refine wb rfl ?_ | refine wc rfl rfl hM ?_ | refine wd rfl hM ?_ | ((first | refine we rfl fun K hK => ?_ | refine wf rfl rfl fun K hK => ?_ | refine wg rfl rfl fun K hK => ?_ | refine wh rfl fun K hK => ?_); (simp only [lo, ld, ↓aop, ↓aCall, hP, hG, Nat.reduceLT, ↓reduceIte, Nat.reduceEqDiff, Nat.reduceAdd, Nat.reduceMul, Nat.reduceLeDiff, reduceCtorEq, D.cs, D.plain, fillD, chop, List.replicate]; repeat (with_reducible refine And.intro ?_ ?_; focus (first | decide | omega | (simp only [ln]; omega)))); try ((first | refine hK _ _ ?_ | refine hK _ ?_); clear hK K; simp only [lp])) | ((first | refine wi ?_ | refine wj ?_ | refine wk ?_ | refine wl ?_ | refine wm ?_ | refine wn ?_); simp only [lt, ↓reduceIte, Nat.reduceEqDiff]) | refine wo ?_)
  refine lib_Sort (by kernel_rfl) _ 1 l (by rw [hp_get0]; rfl) (fun blk off cap ss w h1 h2 h3 => Tryd.slices_Sort_string blk off cap ss w h1 h2 h3) (by omega) (hK _ _ ?_)
  clear hK K; simp only [lp]
  rw [hp_set0]
  change aops _ _ _ _ (E.H0 ++ [.arr 1 1 (rowsS (sortS l)) 0]) _
  repeat (first | refine wa ?_ | refine wb rfl ?_ | refine wc rfl rfl hM ?_ | refine wd rfl hM ?_ | ((first | refine we rfl fun K hK => ?_ | refine wf rfl rfl fun K hK => ?_ | refine wg rfl rfl fun K hK => ?_ | refine wh rfl fun K hK => ?_); (simp only [lo, ld, ↓aop, ↓aCall, hP, hG, Nat.reduceLT, ↓reduceIte, Nat.reduceEqDiff, Nat.reduceAdd, Nat.reduceMul, Nat.reduceLeDiff, reduceCtorEq, D.cs, D.plain, fillD, chop, List.replicate]; repeat (with_reducible refine And.intro ?_ ?_; focus (first | decide | omega | (simp only [ln]; omega)))); try ((first | refine hK _ _ ?_ | refine hK _ ?_); clear hK K; simp only [lp])) | ((first | refine wi ?_ | refine wj ?_ | refine wk ?_ | refine wl ?_ | refine wm ?_ | refine wn ?_); simp only [lt, ↓reduceIte, Nat.reduceEqDiff]) | refine wo ?_)
  have hs := sortS_len l
  rw [← hs]
  refine lib_Compact (by kernel_rfl) _ 1 (sortS l) (by rw [hp_get0]; rfl) (fun blk off cap zs w h1 h2 h3 => Tryd.slices_Compact_string blk off cap zs w h1 h2 h3) (by omega) (compact_le _) (hK _ _ ?_)
  clear hK K; simp only [lp]
  rw [hp_set0]
  change aops _ _ _ _ (E.H0 ++ [.arr 1 1 (rowsS (Lib.compact (sortS l) ++ List.replicate ((sortS l).length - (Lib.compact (sortS l)).length) [])) 0]) _
  repeat (first | refine wa ?_ | refine wb rfl ?_ | refine wc rfl rfl hM ?_ | refine wd rfl hM ?_ | ((first | refine we rfl fun K hK => ?_ | refine wf rfl rfl fun K hK => ?_ | refine wg rfl rfl fun K hK => ?_ | refine wh rfl fun K hK => ?_); (simp only [lo, ld, ↓aop, ↓aCall, hP, hG, Nat.reduceLT, ↓reduceIte, Nat.reduceEqDiff, Nat.reduceAdd, Nat.reduceMul, Nat.reduceLeDiff, reduceCtorEq, D.cs, D.plain, fillD, chop, List.replicate]; repeat (with_reducible refine And.intro ?_ ?_; focus (first | decide | omega | (simp only [ln]; omega)))); try ((first | refine hK _ _ ?_ | refine hK _ ?_); clear hK K; simp only [lp])) | ((first | refine wi ?_ | refine wj ?_ | refine wk ?_ | refine wl ?_ | refine wm ?_ | refine wn ?_); simp only [lt, ↓reduceIte, Nat.reduceEqDiff]) | refine wo ?_)
  refine Fin.acs (m := 0) (d := .own (E.H0.length + 0) 1 (sortedS l).length) (ys := (sortedS l).map fun s => [.str s]) hE (.inr ⟨1, (Lib.compact (sortS l) ++ List.replicate ((sortS l).length - (Lib.compact (sortS l)).length) []).map fun s => [.str s], Nat.le_refl _, ?_, ?_, ?_, ?_⟩) (by decide) rfl hK
  · simp [sortedS]
  · rw [List.length_map, ← List.map_take]
    unfold sortedS
    rw [List.take_append_of_le_length (Nat.le_refl _), take_len]
  · simp
  · simp [rowsS]

def rightP (x : Alt) : Bool := nameOk x.name && placeB x.link && slavesOk x && choicesOk x && ((sortedS (links x)).length == (links x).length) && finalB x
set_option maxHeartbeats 16000000 in
theorem spec_AltRight (x : Alt) (m : Int) (hm : altMid x) (hG0 : G 0 = some [.int .i64 m]) (H : List Ob) (K : D → List Ob → Prop) (hK : K (.v (.bool (rightP x))) H) : ACalls Tryd.prog G 43 [altd x] H K := by
  refine ACalls.go Tryd.f43 _ 50 [2] Tryd.func43 rfl Tryd.ntmps43 (by kernel_rfl) rfl (by simp) (fun E hE hP hG hH => ?_)
  have hM : E.P.follows .mixedOrders = true := hP ▸ mixed
  have hll := links_len x
  have hcl := compact_le (sortS (links x))
  have hsl := sortS_len (links x)
  obtain ⟨m1, m2, m3, m4, m5, m6, m7⟩ := hm
  have k1 : ∀ s ∈ x.slaves, s.name.length < 4294967281 ∧ s.link.length < 4294967281 := fun s hs => by have := m6 s hs; omega
  have k2 : ∀ c ∈ x.choices, c.path.length < 4294967281 ∧ c.slaves.length ≤ 1099511627 ∧ ∀ t ∈ c.slaves, t.length < 4294967281 := fun c hc => by
    obtain ⟨a1, a2, a3⟩ := m7 c hc
    exact ⟨by omega, by omega, fun t ht => by have := a3 t ht; omega⟩
  subst hH
  simp only [args0, altd]
  repeat (first | refine wa ?_ | refine wb rfl ?_ | refine wc rfl rfl hM ?_ | refine wd rfl hM ?_ | ((first | refine we rfl fun K hK => ?_ | refine wf rfl rfl fun K hK => ?_ | refine wg rfl rfl fun K hK => ?_ | refine wh rfl fun K hK => ?_); (simp only [lo, ld, ↓aop, ↓aCall, hP, hG, Nat.reduceLT, ↓reduceIte, Nat.reduceEqDiff, Nat.reduceAdd, Nat.reduceMul, Nat.reduceLeDiff, reduceCtorEq, D.cs, D.plain, fillD, chop, List.replicate, tk_3, ze_3, sz_3, tk_9, ze_9, sz_9, tk_46, ze_46, sz_46, kn_46]; repeat (with_reducible refine And.intro ?_ ?_; focus (first | decide | omega | (simp only [ln]; omega)))); try ((first | refine hK _ _ ?_ | refine hK _ ?_); clear hK K; simp only [lp])) | ((first | refine wi ?_ | refine wj ?_ | refine wk ?_ | refine wl ?_ | refine wm ?_ | refine wn ?_); simp only [lt, ↓reduceIte, Nat.reduceEqDiff]) | refine wo ?_)
  refine sat_thru (fr 50 [(24, .v (.bool (!(nameOk x.name && placeB x.link && slavesOk x && choicesOk x)))), (2, .v (.bool false)), (1, .ptr E.H0.length 0)]) (E.H0 ++ [altB x]) ?_ ?_
  · (first | refine wr ?_ | refine wp rfl hM ?_ | refine wq hM ?_); repeat' (first | ((first | refine wx ?_ | refine wy ?_ | refine wz ?_); (simp only [lo, ld, ↓aop, ↓aCall, hP, hG, Nat.reduceLT, ↓reduceIte, Nat.reduceEqDiff, Nat.reduceAdd, Nat.reduceMul, Nat.reduceLeDiff, reduceCtorEq, D.cs, D.plain, fillD, chop, List.replicate, tk_3, ze_3, sz_3, tk_4, ze_4, sz_4, tk_9, ze_9, sz_9, tk_46, ze_46, sz_46, kn_46]; repeat (with_reducible refine And.intro ?_ ?_; focus (first | decide | omega | (simp only [ln]; omega)))); try ((first | refine hK _ _ ?_ | refine hK _ ?_); clear hK K; simp only [lp])) | refine we rfl fun K hK => ?_ | refine wf rfl rfl fun K hK => ?_ | refine wg rfl rfl fun K hK => ?_ | refine wh rfl fun K hK => ?_ | ((first | refine Xg rfl rfl (by decide) ?_ fun K hK => ?_ | refine Yg rfl rfl (by decide) ?_ fun K hK => ?_ | refine Zg rfl rfl rfl (by decide) ?_ fun K hK => ?_); (focus (simp only [look_cons, ↓reduceIte, Nat.reduceEqDiff, Bool.not_true, Bool.not_false]; done))) | ((first | refine Xn rfl rfl (by decide) ?_ ?_ | refine Yn rfl rfl (by decide) ?_ ?_ | refine Zn rfl rfl rfl (by decide) ?_ ?_); (focus (simp only [look_cons, ↓reduceIte, Nat.reduceEqDiff, Bool.not_true, Bool.not_false]; done)); simp only [lp]) | ((first | refine Xo rfl rfl (by decide) ?_ ?_ | refine Yo rfl rfl (by decide) ?_ ?_ | refine Zo rfl rfl rfl (by decide) ?_ ?_); (focus (simp only [look_cons, ↓reduceIte, Nat.reduceEqDiff, Bool.not_true, Bool.not_false]; done)); simp only [lp]) | ((first | refine Xs rfl rfl (by decide) rfl (fun h K hK => ?_) fun h => ?_ | refine Ys rfl rfl (by decide) rfl (fun h K hK => ?_) fun h => ?_ | refine Zs rfl rfl rfl (by decide) rfl (fun h K hK => ?_) fun h => ?_); rotate_left; (focus (simp only [Bool.not_true, Bool.not_false, lp])); rotate_left) | ((first | refine wi ?_ | refine wj ?_ | refine wk ?_); simp only [lt, ↓reduceIte, Nat.reduceEqDiff]))
    refine spec_Name _ (by omega) _ _ (hK _ _ ?_)
    clear hK K; simp only [lp]
    repeat' (first | ((first | refine wx ?_ | refine wy ?_ | refine wz ?_); (simp only [lo, ld, ↓aop, ↓aCall, hP, hG, Nat.reduceLT, ↓reduceIte, Nat.reduceEqDiff, Nat.reduceAdd, Nat.reduceMul, Nat.reduceLeDiff, reduceCtorEq, D.cs, D.plain, fillD, chop, List.replicate, tk_3, ze_3, sz_3, tk_4, ze_4, sz_4, tk_9, ze_9, sz_9, tk_46, ze_46, sz_46, kn_46]; repeat (with_reducible refine And.intro ?_ ?_; focus (first | decide | omega | (simp only [ln]; omega)))); try ((first | refine hK _ _ ?_ | refine hK _ ?_); clear hK K; simp only [lp])) | refine we rfl fun K hK => ?_ | refine wf rfl rfl fun K hK => ?_ | refine wg rfl rfl fun K hK => ?_ | refine wh rfl fun K hK => ?_ | ((first | refine Xg rfl rfl (by decide) ?_ fun K hK => ?_ | refine Yg rfl rfl (by decide) ?_ fun K hK => ?_ | refine Zg rfl rfl rfl (by decide) ?_ fun K hK => ?_); (focus (simp only [look_cons, ↓reduceIte, Nat.reduceEqDiff, Bool.not_true, Bool.not_false]; done))) | ((first | refine Xn rfl rfl (by decide) ?_ ?_ | refine Yn rfl rfl (by decide) ?_ ?_ | refine Zn rfl rfl rfl (by decide) ?_ ?_); (focus (simp only [look_cons, ↓reduceIte, Nat.reduceEqDiff, Bool.not_true, Bool.not_false]; done)); simp only [lp]) | ((first | refine Xo rfl rfl (by decide) ?_ ?_ | refine Yo rfl rfl (by decide) ?_ ?_ | refine Zo rfl rfl rfl (by decide) ?_ ?_); (focus (simp only [look_cons, ↓reduceIte, Nat.reduceEqDiff, Bool.not_true, Bool.not_false]; done)); simp only [lp]) | ((first | refine Xs rfl rfl (by decide) rfl (fun h K hK => ?_) fun h => ?_ | refine Ys rfl rfl (by decide) rfl (fun h K hK => ?_) fun h => ?_ | refine Zs rfl rfl rfl (by decide) rfl (fun h K hK => ?_) fun h => ?_); rotate_left; (focus (simp only [Bool.not_true, Bool.not_false, lp])); rotate_left) | ((first | refine wi ?_ | refine wj ?_ | refine wk ?_); simp only [lt, ↓reduceIte, Nat.reduceEqDiff]))
    · refine spec_place _ m (by omega) hG0 _ _ (hK _ _ ?_)
      clear hK K; simp only [lp]
      repeat' (first | ((first | refine wx ?_ | refine wy ?_ | refine wz ?_); (simp only [lo, ld, ↓aop, ↓aCall, hP, hG, Nat.reduceLT, ↓reduceIte, Nat.reduceEqDiff, Nat.reduceAdd, Nat.reduceMul, Nat.reduceLeDiff, reduceCtorEq, D.cs, D.plain, fillD, chop, List.replicate, tk_3, ze_3, sz_3, tk_4, ze_4, sz_4, tk_9, ze_9, sz_9, tk_46, ze_46, sz_46, kn_46]; repeat (with_reducible refine And.intro ?_ ?_; focus (first | decide | omega | (simp only [ln]; omega)))); try ((first | refine hK _ _ ?_ | refine hK _ ?_); clear hK K; simp only [lp])) | refine we rfl fun K hK => ?_ | refine wf rfl rfl fun K hK => ?_ | refine wg rfl rfl fun K hK => ?_ | refine wh rfl fun K hK => ?_ | ((first | refine Xg rfl rfl (by decide) ?_ fun K hK => ?_ | refine Yg rfl rfl (by decide) ?_ fun K hK => ?_ | refine Zg rfl rfl rfl (by decide) ?_ fun K hK => ?_); (focus (simp only [look_cons, ↓reduceIte, Nat.reduceEqDiff, Bool.not_true, Bool.not_false]; done))) | ((first | refine Xn rfl rfl (by decide) ?_ ?_ | refine Yn rfl rfl (by decide) ?_ ?_ | refine Zn rfl rfl rfl (by decide) ?_ ?_); (focus (simp only [look_cons, ↓reduceIte, Nat.reduceEqDiff, Bool.not_true, Bool.not_false]; done)); simp only [lp]) | ((first | refine Xo rfl rfl (by decide) ?_ ?_ | refine Yo rfl rfl (by decide) ?_ ?_ | refine Zo rfl rfl rfl (by decide) ?_ ?_); (focus (simp only [look_cons, ↓reduceIte, Nat.reduceEqDiff, Bool.not_true, Bool.not_false]; done)); simp only [lp]) | ((first | refine Xs rfl rfl (by decide) rfl (fun h K hK => ?_) fun h => ?_ | refine Ys rfl rfl (by decide) rfl (fun h K hK => ?_) fun h => ?_ | refine Zs rfl rfl rfl (by decide) rfl (fun h K hK => ?_) fun h => ?_); rotate_left; (focus (simp only [Bool.not_true, Bool.not_false, lp])); rotate_left) | ((first | refine wi ?_ | refine wj ?_ | refine wk ?_); simp only [lt, ↓reduceIte, Nat.reduceEqDiff]))
      · refine spec_slaves x m (by omega) k1 hG0 _ _ (hK _ _ ?_)
        clear hK K; simp only [lp]
        repeat' (first | ((first | refine wx ?_ | refine wy ?_ | refine wz ?_); (simp only [lo, ld, ↓aop, ↓aCall, hP, hG, Nat.reduceLT, ↓reduceIte, Nat.reduceEqDiff, Nat.reduceAdd, Nat.reduceMul, Nat.reduceLeDiff, reduceCtorEq, D.cs, D.plain, fillD, chop, List.replicate, tk_3, ze_3, sz_3, tk_4, ze_4, sz_4, tk_9, ze_9, sz_9, tk_46, ze_46, sz_46, kn_46]; repeat (with_reducible refine And.intro ?_ ?_; focus (first | decide | omega | (simp only [ln]; omega)))); try ((first | refine hK _ _ ?_ | refine hK _ ?_); clear hK K; simp only [lp])) | refine we rfl fun K hK => ?_ | refine wf rfl rfl fun K hK => ?_ | refine wg rfl rfl fun K hK => ?_ | refine wh rfl fun K hK => ?_ | ((first | refine Xg rfl rfl (by decide) ?_ fun K hK => ?_ | refine Yg rfl rfl (by decide) ?_ fun K hK => ?_ | refine Zg rfl rfl rfl (by decide) ?_ fun K hK => ?_); (focus (simp only [look_cons, ↓reduceIte, Nat.reduceEqDiff, Bool.not_true, Bool.not_false]; done))) | ((first | refine Xn rfl rfl (by decide) ?_ ?_ | refine Yn rfl rfl (by decide) ?_ ?_ | refine Zn rfl rfl rfl (by decide) ?_ ?_); (focus (simp only [look_cons, ↓reduceIte, Nat.reduceEqDiff, Bool.not_true, Bool.not_false]; done)); simp only [lp]) | ((first | refine Xo rfl rfl (by decide) ?_ ?_ | refine Yo rfl rfl (by decide) ?_ ?_ | refine Zo rfl rfl rfl (by decide) ?_ ?_); (focus (simp only [look_cons, ↓reduceIte, Nat.reduceEqDiff, Bool.not_true, Bool.not_false]; done)); simp only [lp]) | ((first | refine Xs rfl rfl (by decide) rfl (fun h K hK => ?_) fun h => ?_ | refine Ys rfl rfl (by decide) rfl (fun h K hK => ?_) fun h => ?_ | refine Zs rfl rfl rfl (by decide) rfl (fun h K hK => ?_) fun h => ?_); rotate_left; (focus (simp only [Bool.not_true, Bool.not_false, lp])); rotate_left) | ((first | refine wi ?_ | refine wj ?_ | refine wk ?_); simp only [lt, ↓reduceIte, Nat.reduceEqDiff]))
        · refine spec_choices x m (by omega) k2 hG0 _ _ (hK _ _ ?_)
          clear hK K; simp only [lp]
          repeat' (first | ((first | refine wx ?_ | refine wy ?_ | refine wz ?_); (simp only [lo, ld, ↓aop, ↓aCall, hP, hG, Nat.reduceLT, ↓reduceIte, Nat.reduceEqDiff, Nat.reduceAdd, Nat.reduceMul, Nat.reduceLeDiff, reduceCtorEq, D.cs, D.plain, fillD, chop, List.replicate, tk_3, ze_3, sz_3, tk_4, ze_4, sz_4, tk_9, ze_9, sz_9, tk_46, ze_46, sz_46, kn_46]; repeat (with_reducible refine And.intro ?_ ?_; focus (first | decide | omega | (simp only [ln]; omega)))); try ((first | refine hK _ _ ?_ | refine hK _ ?_); clear hK K; simp only [lp])) | refine we rfl fun K hK => ?_ | refine wf rfl rfl fun K hK => ?_ | refine wg rfl rfl fun K hK => ?_ | refine wh rfl fun K hK => ?_ | ((first | refine Xg rfl rfl (by decide) ?_ fun K hK => ?_ | refine Yg rfl rfl (by decide) ?_ fun K hK => ?_ | refine Zg rfl rfl rfl (by decide) ?_ fun K hK => ?_); (focus (simp only [look_cons, ↓reduceIte, Nat.reduceEqDiff, Bool.not_true, Bool.not_false]; done))) | ((first | refine Xn rfl rfl (by decide) ?_ ?_ | refine Yn rfl rfl (by decide) ?_ ?_ | refine Zn rfl rfl rfl (by decide) ?_ ?_); (focus (simp only [look_cons, ↓reduceIte, Nat.reduceEqDiff, Bool.not_true, Bool.not_false]; done)); simp only [lp]) | ((first | refine Xo rfl rfl (by decide) ?_ ?_ | refine Yo rfl rfl (by decide) ?_ ?_ | refine Zo rfl rfl rfl (by decide) ?_ ?_); (focus (simp only [look_cons, ↓reduceIte, Nat.reduceEqDiff, Bool.not_true, Bool.not_false]; done)); simp only [lp]) | ((first | refine Xs rfl rfl (by decide) rfl (fun h K hK => ?_) fun h => ?_ | refine Ys rfl rfl (by decide) rfl (fun h K hK => ?_) fun h => ?_ | refine Zs rfl rfl rfl (by decide) rfl (fun h K hK => ?_) fun h => ?_); rotate_left; (focus (simp only [Bool.not_true, Bool.not_false, lp])); rotate_left) | ((first | refine wi ?_ | refine wj ?_ | refine wk ?_); simp only [lt, ↓reduceIte, Nat.reduceEqDiff]))
          refine .weakFr ?_
          simp only [le, ↓reduceIte, Nat.reduceEqDiff, and_true]; repeat' (first | exact trivial | exact D.le_refl _ | exact D.le_any _ | with_reducible refine And.intro ?_ ?_)
          all_goals refine D.le_eq (congrArg D.v (congrArg V.bool ?_)); (try simp only [Bool.not_eq_eq_eq_not, Bool.not_true, Bool.not_false] at *); simp only [*, List.getD_eq_getElem?_getD, Bool.and_true, Bool.true_and, Bool.and_false, Bool.false_and, Bool.or_true, Bool.true_or, Bool.or_false, Bool.false_or, Bool.not_true, Bool.not_false, Bool.not_not]
        · refine .weakFr ?_
          simp only [le, ↓reduceIte, Nat.reduceEqDiff, and_true]; repeat' (first | exact trivial | exact D.le_refl _ | exact D.le_any _ | with_reducible refine And.intro ?_ ?_)
          all_goals refine D.le_eq (congrArg D.v (congrArg V.bool ?_)); (try simp only [Bool.not_eq_eq_eq_not, Bool.not_true, Bool.not_false] at *); simp only [*, List.getD_eq_getElem?_getD, Bool.and_true, Bool.true_and, Bool.and_false, Bool.false_and, Bool.or_true, Bool.true_or, Bool.or_false, Bool.false_or, Bool.not_true, Bool.not_false, Bool.not_not]
      · refine .weakFr ?_
        simp only [le, ↓reduceIte, Nat.reduceEqDiff, and_true]; repeat' (first | exact trivial | exact D.le_refl _ | exact D.le_any _ | with_reducible refine And.intro ?_ ?_)
        all_goals refine D.le_eq (congrArg D.v (congrArg V.bool ?_)); (try simp only [Bool.not_eq_eq_eq_not, Bool.not_true, Bool.not_false] at *); simp only [*, List.getD_eq_getElem?_getD, Bool.and_true, Bool.true_and, Bool.and_false, Bool.false_and, Bool.or_true, Bool.true_or, Bool.or_false, Bool.false_or, Bool.not_true, Bool.not_false, Bool.not_not]
    · refine .weakFr ?_
      simp only [le, ↓reduceIte, Nat.reduceEqDiff, and_true]; repeat' (first | exact trivial | exact D.le_refl _ | exact D.le_any _ | with_reducible refine And.intro ?_ ?_)
      all_goals refine D.le_eq (congrArg D.v (congrArg V.bool ?_)); (try simp only [Bool.not_eq_eq_eq_not, Bool.not_true, Bool.not_false] at *); simp only [*, List.getD_eq_getElem?_getD, Bool.and_true, Bool.true_and, Bool.and_false, Bool.false_and, Bool.or_true, Bool.true_or, Bool.or_false, Bool.false_or, Bool.not_true, Bool.not_false, Bool.not_not]
  refine sat_cond rfl (fun hb => ?_) (fun hb => ?_)
  · repeat (first | refine wa ?_ | refine wb rfl ?_ | refine wc rfl rfl hM ?_ | refine wd rfl hM ?_ | ((first | refine we rfl fun K hK => ?_ | refine wf rfl rfl fun K hK => ?_ | refine wg rfl rfl fun K hK => ?_ | refine wh rfl fun K hK => ?_); (simp only [lo, ld, ↓aop, ↓aCall, hP, hG, Nat.reduceLT, ↓reduceIte, Nat.reduceEqDiff, Nat.reduceAdd, Nat.reduceMul, Nat.reduceLeDiff, reduceCtorEq, D.cs, D.plain, fillD, chop, List.replicate]; repeat (with_reducible refine And.intro ?_ ?_; focus (first | decide | omega | (simp only [ln]; omega)))); try ((first | refine hK _ _ ?_ | refine hK _ ?_); clear hK K; simp only [lp])) | ((first | refine wi ?_ | refine wj ?_ | refine wk ?_ | refine wl ?_ | refine wm ?_ | refine wn ?_); simp only [lt, ↓reduceIte, Nat.reduceEqDiff]) | refine wo ?_)
    refine Fin.gc (.v (.bool false)) hE (by decide) rfl (by simp only [D.lt]) ?_
    have : rightP x = false := by simp only [rightP]; rw [show (nameOk x.name && placeB x.link && slavesOk x && choicesOk x) = false by rw [Bool.not_eq_true'] at hb; exact hb]; rfl
    rwa [this] at hK
  have hb' : (nameOk x.name && placeB x.link && slavesOk x && choicesOk x) = true := by rw [Bool.not_eq_false'] at hb; exact hb
  repeat (first | refine wa ?_ | refine wb rfl ?_ | refine wc rfl rfl hM ?_ | refine wd rfl hM ?_ | ((first | refine we rfl fun K hK => ?_ | refine wf rfl rfl fun K hK => ?_ | refine wg rfl rfl fun K hK => ?_ | refine wh rfl fun K hK => ?_); (simp only [lo, ld, ↓aop, ↓aCall, hP, hG, Nat.reduceLT, ↓reduceIte, Nat.reduceEqDiff, Nat.reduceAdd, Nat.reduceMul, Nat.reduceLeDiff, reduceCtorEq, D.cs, D.plain, fillD, chop, List.replicate, altB, altV, tk_3, ze_3, sz_3, tk_9, ze_9, sz_9, tk_46, ze_46, sz_46, kn_46]; repeat (with_reducible refine And.intro ?_ ?_; focus (first | decide | omega | (simp only [ln]; omega)))); try ((first | refine hK _ _ ?_ | refine hK _ ?_); clear hK K; simp only [lp])) | ((first | refine wi ?_ | refine wj ?_ | refine wk ?_ | refine wl ?_ | refine wm ?_ | refine wn ?_); simp only [lt, ↓reduceIte, Nat.reduceEqDiff]) | refine wo ?_)
  refine spec_Links x (by omega) _ _ (hK _ _ ?_)
  clear hK K; simp only [lp]
  repeat (first | refine wa ?_ | refine wb rfl ?_ | refine wc rfl rfl hM ?_ | refine wd rfl hM ?_ | ((first | refine we rfl fun K hK => ?_ | refine wf rfl rfl fun K hK => ?_ | refine wg rfl rfl fun K hK => ?_ | refine wh rfl fun K hK => ?_); (simp only [lo, ld, ↓aop, ↓aCall, hP, hG, Nat.reduceLT, ↓reduceIte, Nat.reduceEqDiff, Nat.reduceAdd, Nat.reduceMul, Nat.reduceLeDiff, reduceCtorEq, D.cs, D.plain, fillD, chop, List.replicate, altB, altV, tk_3, ze_3, sz_3, tk_9, ze_9, sz_9, tk_46, ze_46, sz_46, kn_46]; repeat (with_reducible refine And.intro ?_ ?_; focus (first | decide | omega | (simp only [ln]; omega)))); try ((first | refine hK _ _ ?_ | refine hK _ ?_); clear hK K; simp only [lp])) | ((first | refine wi ?_ | refine wj ?_ | refine wk ?_ | refine wl ?_ | refine wm ?_ | refine wn ?_); simp only [lt, ↓reduceIte, Nat.reduceEqDiff]) | refine wo ?_)
  refine spec_Sorted (links x) (by simp [links]) (by omega) _ _ (hK _ _ ?_)
  clear hK K; simp only [lp]
  repeat (first | refine wa ?_ | refine wb rfl ?_ | refine wc rfl rfl hM ?_ | refine wd rfl hM ?_ | ((first | refine we rfl fun K hK => ?_ | refine wf rfl rfl fun K hK => ?_ | refine wg rfl rfl fun K hK => ?_ | refine wh rfl fun K hK => ?_); (simp only [lo, ld, ↓aop, ↓aCall, hP, hG, Nat.reduceLT, ↓reduceIte, Nat.reduceEqDiff, Nat.reduceAdd, Nat.reduceMul, Nat.reduceLeDiff, reduceCtorEq, D.cs, D.plain, fillD, chop, List.replicate, strs, tk_3, ze_3, sz_3, tk_9, ze_9, sz_9, tk_46, ze_46, sz_46, kn_46, tk_50, ze_50, sz_50]; repeat (with_reducible refine And.intro ?_ ?_; focus (first | decide | omega | (simp only [ln]; omega)))); try ((first | refine hK _ _ ?_ | refine hK _ ?_); clear hK K; simp only [lp])) | ((first | refine wi ?_ | refine wj ?_ | refine wk ?_ | refine wl ?_ | refine wm ?_ | refine wn ?_); simp only [lt, ↓reduceIte, Nat.reduceEqDiff]) | refine wo ?_)
  refine sat_cond rfl (fun hc => ?_) (fun hc => ?_)
  · repeat (first | refine wa ?_ | refine wb rfl ?_ | refine wc rfl rfl hM ?_ | refine wd rfl hM ?_ | ((first | refine we rfl fun K hK => ?_ | refine wf rfl rfl fun K hK => ?_ | refine wg rfl rfl fun K hK => ?_ | refine wh rfl fun K hK => ?_); (simp only [lo, ld, ↓aop, ↓aCall, hP, hG, Nat.reduceLT, ↓reduceIte, Nat.reduceEqDiff, Nat.reduceAdd, Nat.reduceMul, Nat.reduceLeDiff, reduceCtorEq, D.cs, D.plain, fillD, chop, List.replicate]; repeat (with_reducible refine And.intro ?_ ?_; focus (first | decide | omega | (simp only [ln]; omega)))); try ((first | refine hK _ _ ?_ | refine hK _ ?_); clear hK K; simp only [lp])) | ((first | refine wi ?_ | refine wj ?_ | refine wk ?_ | refine wl ?_ | refine wm ?_ | refine wn ?_); simp only [lt, ↓reduceIte, Nat.reduceEqDiff]) | refine wo ?_)
    refine Fin.gc (.v (.bool false)) hE (by decide) rfl (by simp only [D.lt]) ?_
    have : rightP x = false := by
      rw [Bool.not_eq_true'] at hc
      simp only [rightP, hb', hc]; rfl
    rwa [this] at hK
  have e2 : rightP x = finalB x := by
    rw [Bool.not_eq_false'] at hc
    simp only [rightP, hb', hc, Bool.true_and]
  rw [e2] at hK
  repeat (first | refine wa ?_ | refine wb rfl ?_ | refine wc rfl rfl hM ?_ | refine wd rfl hM ?_ | ((first | refine we rfl fun K hK => ?_ | refine wf rfl rfl fun K hK => ?_ | refine wg rfl rfl fun K hK => ?_ | refine wh rfl fun K hK => ?_); (simp only [lo, ld, ↓aop, ↓aCall, hP, hG, Nat.reduceLT, ↓reduceIte, Nat.reduceEqDiff, Nat.reduceAdd, Nat.reduceMul, Nat.reduceLeDiff, reduceCtorEq, D.cs, D.plain, fillD, chop, List.replicate, altB, altV, tk_3, ze_3, sz_3, tk_9, ze_9, sz_9, tk_46, ze_46, sz_46, kn_46]; repeat (with_reducible refine And.intro ?_ ?_; focus (first | decide | omega | (simp only [ln]; omega)))); try ((first | refine hK _ _ ?_ | refine hK _ ?_); clear hK K; simp only [lp])) | ((first | refine wi ?_ | refine wj ?_ | refine wk ?_ | refine wl ?_ | refine wm ?_ | refine wn ?_); simp only [lt, ↓reduceIte, Nat.reduceEqDiff]) | refine wo ?_)
  refine spec_Choice x x.cur (by omega) _ _ (hK _ _ ?_)
  clear hK K; simp only [lp]
  repeat (first | refine wa ?_ | refine wb rfl ?_ | refine wc rfl rfl hM ?_ | refine wd rfl hM ?_ | ((first | refine we rfl fun K hK => ?_ | refine wf rfl rfl fun K hK => ?_ | refine wg rfl rfl fun K hK => ?_ | refine wh rfl fun K hK => ?_); (simp only [lo, ld, ↓aop, ↓aCall, hP, hG, Nat.reduceLT, ↓reduceIte, Nat.reduceEqDiff, Nat.reduceAdd, Nat.reduceMul, Nat.reduceLeDiff, reduceCtorEq, D.cs, D.plain, fillD, chop, List.replicate]; repeat (with_reducible refine And.intro ?_ ?_; focus (first | decide | omega | (simp only [ln]; omega)))); try ((first | refine hK _ _ ?_ | refine hK _ ?_); clear hK K; simp only [lp])) | ((first | refine wi ?_ | refine wj ?_ | refine wk ?_ | refine wl ?_ | refine wm ?_ | refine wn ?_); simp only [lt, ↓reduceIte, Nat.reduceEqDiff]) | refine wo ?_)
  refine sat_thru (fr 50 [(2, .v (.bool (finalB x)))]) E.H0 ?_ ?_
  · (first | refine wr ?_ | refine wp rfl hM ?_ | refine wq hM ?_); repeat' (first | ((first | refine wx ?_ | refine wy ?_ | refine wz ?_); (simp only [lo, ld, ↓aop, ↓aCall, hP, hG, Nat.reduceLT, ↓reduceIte, Nat.reduceEqDiff, Nat.reduceAdd, Nat.reduceMul, Nat.reduceLeDiff, reduceCtorEq, D.cs, D.plain, fillD, chop, List.replicate, altB, altV, tk_3, ze_3, sz_3, tk_4, ze_4, sz_4, tk_9, ze_9, sz_9, tk_46, ze_46, sz_46, kn_46, tk_44, ze_44, sz_44]; repeat (with_reducible refine And.intro ?_ ?_; focus (first | decide | omega | (simp only [ln]; omega)))); try ((first | refine hK _ _ ?_ | refine hK _ ?_); clear hK K; simp only [lp])) | refine we rfl fun K hK => ?_ | refine wf rfl rfl fun K hK => ?_ | refine wg rfl rfl fun K hK => ?_ | refine wh rfl fun K hK => ?_ | ((first | refine Xg rfl rfl (by decide) ?_ fun K hK => ?_ | refine Yg rfl rfl (by decide) ?_ fun K hK => ?_ | refine Zg rfl rfl rfl (by decide) ?_ fun K hK => ?_); (focus (simp only [look_cons, ↓reduceIte, Nat.reduceEqDiff, Bool.not_true, Bool.not_false]; done))) | ((first | refine Xn rfl rfl (by decide) ?_ ?_ | refine Yn rfl rfl (by decide) ?_ ?_ | refine Zn rfl rfl rfl (by decide) ?_ ?_); (focus (simp only [look_cons, ↓reduceIte, Nat.reduceEqDiff, Bool.not_true, Bool.not_false]; done)); simp only [lp]) | ((first | refine Xo rfl rfl (by decide) ?_ ?_ | refine Yo rfl rfl (by decide) ?_ ?_ | refine Zo rfl rfl rfl (by decide) ?_ ?_); (focus (simp only [look_cons, ↓reduceIte, Nat.reduceEqDiff, Bool.not_true, Bool.not_false]; done)); simp only [lp]) | ((first | refine Xs rfl rfl (by decide) rfl (fun h K hK => ?_) fun h => ?_ | refine Ys rfl rfl (by decide) rfl (fun h K hK => ?_) fun h => ?_ | refine Zs rfl rfl rfl (by decide) rfl (fun h K hK => ?_) fun h => ?_); rotate_left; (focus (simp only [Bool.not_true, Bool.not_false, lp])); rotate_left) | ((first | refine wi ?_ | refine wj ?_ | refine wk ?_); simp only [lt, ↓reduceIte, Nat.reduceEqDiff]))
    · refine spec_Best x.choices (by omega) _ _ (hK _ _ ?_)
      clear hK K; simp only [lp]
      repeat' (first | ((first | refine wx ?_ | refine wy ?_ | refine wz ?_); (simp only [lo, ld, ↓aop, ↓aCall, hP, hG, Nat.reduceLT, ↓reduceIte, Nat.reduceEqDiff, Nat.reduceAdd, Nat.reduceMul, Nat.reduceLeDiff, reduceCtorEq, D.cs, D.plain, fillD, chop, List.replicate, altB, altV, tk_3, ze_3, sz_3, tk_4, ze_4, sz_4, tk_9, ze_9, sz_9, tk_46, ze_46, sz_46, kn_46, tk_44, ze_44, sz_44]; repeat (with_reducible refine And.intro ?_ ?_; focus (first | decide | omega | (simp only [ln]; omega)))); try ((first | refine hK _ _ ?_ | refine hK _ ?_); clear hK K; simp only [lp])) | refine we rfl fun K hK => ?_ | refine wf rfl rfl fun K hK => ?_ | refine wg rfl rfl fun K hK => ?_ | refine wh rfl fun K hK => ?_ | ((first | refine Xg rfl rfl (by decide) ?_ fun K hK => ?_ | refine Yg rfl rfl (by decide) ?_ fun K hK => ?_ | refine Zg rfl rfl rfl (by decide) ?_ fun K hK => ?_); (focus (simp only [look_cons, ↓reduceIte, Nat.reduceEqDiff, Bool.not_true, Bool.not_false]; done))) | ((first | refine Xn rfl rfl (by decide) ?_ ?_ | refine Yn rfl rfl (by decide) ?_ ?_ | refine Zn rfl rfl rfl (by decide) ?_ ?_); (focus (simp only [look_cons, ↓reduceIte, Nat.reduceEqDiff, Bool.not_true, Bool.not_false]; done)); simp only [lp]) | ((first | refine Xo rfl rfl (by decide) ?_ ?_ | refine Yo rfl rfl (by decide) ?_ ?_ | refine Zo rfl rfl rfl (by decide) ?_ ?_); (focus (simp only [look_cons, ↓reduceIte, Nat.reduceEqDiff, Bool.not_true, Bool.not_false]; done)); simp only [lp]) | ((first | refine Xs rfl rfl (by decide) rfl (fun h K hK => ?_) fun h => ?_ | refine Ys rfl rfl (by decide) rfl (fun h K hK => ?_) fun h => ?_ | refine Zs rfl rfl rfl (by decide) rfl (fun h K hK => ?_) fun h => ?_); rotate_left; (focus (simp only [Bool.not_true, Bool.not_false, lp])); rotate_left) | ((first | refine wi ?_ | refine wj ?_ | refine wk ?_); simp only [lt, ↓reduceIte, Nat.reduceEqDiff]))
      refine Ent.round0 hE ?_ (by simp [ltAll, ltObs, Ob.lt, D.lt, D.ltL, or_imp, forall_and])
      simp only [le, ↓reduceIte, Nat.reduceEqDiff, and_true]; repeat' (first | exact trivial | exact D.le_refl _ | exact D.le_any _ | with_reducible refine And.intro ?_ ?_)
      all_goals refine D.le_eq (congrArg D.v (congrArg V.bool ?_)); (try simp only [Bool.not_eq_eq_eq_not, Bool.not_true, Bool.not_false] at *); simp only [*, List.getD_eq_getElem?_getD, Bool.and_true, Bool.true_and, Bool.and_false, Bool.false_and, Bool.or_true, Bool.true_or, Bool.or_false, Bool.false_or, Bool.not_true, Bool.not_false, Bool.not_not, finalB]
    · refine Ent.round0 hE ?_ (by simp [ltAll, ltObs, Ob.lt, D.lt, D.ltL, or_imp, forall_and])
      simp only [le, ↓reduceIte, Nat.reduceEqDiff, and_true]; repeat' (first | exact trivial | exact D.le_refl _ | exact D.le_any _ | with_reducible refine And.intro ?_ ?_)
      all_goals refine D.le_eq (congrArg D.v (congrArg V.bool ?_)); (try simp only [Bool.not_eq_eq_eq_not, Bool.not_true, Bool.not_false] at *); simp only [*, List.getD_eq_getElem?_getD, Bool.and_true, Bool.true_and, Bool.and_false, Bool.false_and, Bool.or_true, Bool.true_or, Bool.or_false, Bool.false_or, Bool.not_true, Bool.not_false, Bool.not_not, finalB]
    · refine Ent.round0 hE ?_ (by simp [ltAll, ltObs, Ob.lt, D.lt, D.ltL, or_imp, forall_and])
      simp only [le, ↓reduceIte, Nat.reduceEqDiff, and_true]; repeat' (first | exact trivial | exact D.le_refl _ | exact D.le_any _ | with_reducible refine And.intro ?_ ?_)
      all_goals refine D.le_eq (congrArg D.v (congrArg V.bool ?_)); (try simp only [Bool.not_eq_eq_eq_not, Bool.not_true, Bool.not_false] at *); simp only [*, List.getD_eq_getElem?_getD, Bool.and_true, Bool.true_and, Bool.and_false, Bool.false_and, Bool.or_true, Bool.true_or, Bool.or_false, Bool.false_or, Bool.not_true, Bool.not_false, Bool.not_not, finalB]
  repeat (first | refine wa ?_ | refine wb rfl ?_ | refine wc rfl rfl hM ?_ | refine wd rfl hM ?_ | ((first | refine we rfl fun K hK => ?_ | refine wf rfl rfl fun K hK => ?_ | refine wg rfl rfl fun K hK => ?_ | refine wh rfl fun K hK => ?_); (simp only [lo, ld, ↓aop, ↓aCall, hP, hG, Nat.reduceLT, ↓reduceIte, Nat.reduceEqDiff, Nat.reduceAdd, Nat.reduceMul, Nat.reduceLeDiff, reduceCtorEq, D.cs, D.plain, fillD, chop, List.replicate]; repeat (with_reducible refine And.intro ?_ ?_; focus (first | decide | omega | (simp only [ln]; omega)))); try ((first | refine hK _ _ ?_ | refine hK _ ?_); clear hK K; simp only [lp])) | ((first | refine wi ?_ | refine wj ?_ | refine wk ?_ | refine wl ?_ | refine wm ?_ | refine wn ?_); simp only [lt, ↓reduceIte, Nat.reduceEqDiff]) | refine wo ?_)
  exact Fin.is _ (by decide) rfl hK
end Go.Ag
/- AGo, part 27: a box that stays as it is; an array that is told by value to a call. -/
namespace Go.Ag
open Go Go.RowKit

theorem relL_imp {M M' : Mem} {μ μ' : Mu} {f g : Nat → D} (h : ∀ i y, Rel M μ (f i) y → Rel M' μ' (g i) y) : ∀ (l : List Nat) (vs : List Value), RelL M μ (l.map f) vs → RelL M' μ' (l.map g) vs
  | [], vs, hv => by simpa only [List.map_nil, RelL] using hv
  | i :: l, vs, hv => by
    rw [List.map_cons, RelL.cons] at hv ⊢
    obtain ⟨v, vs', rfl, h1, h2⟩ := hv
    exact ⟨v, vs', rfl, h i v h1, relL_imp h l vs' h2⟩
theorem relRow_of_relL {M : Mem} {μ : Mu} {b : Nat} {cs : List V} {vs : List Value} (hr : RelL M μ (cs.map .v) vs) {M' : Mem} (hle : M.le M') (hm : ∀ o, M' b o = vs[o]?) : RelRow M' b 0 cs :=
  RelRow.of_get fun j x hx => by
    obtain ⟨y, h1, h2⟩ := hr.get j (.v x) (by rw [List.getElem?_map, hx]; rfl)
    simp only [Rel] at h2
    have h3 : Rel M' μ (.v x) y := Rel.mono hle (.refl _) (by simp only [Rel]; exact h2)
    simp only [Rel] at h3
    exact ⟨y, by rw [Nat.zero_add, hm, h1], h3⟩

theorem R.freeze {E : Env} {M : Mem} {μ : Mu} {H : List Ob} {w : World} (h : R E M μ H w) {b : Nat} {cs : List V} {p : Pt} (hb : H[b]? = some (.box (cs.map .v))) (hp : μ b = some p) :
    ∃ M', M.le M' ∧ R E M' μ (H.set b .dead) w ∧ RelRow M' p.blk 0 cs := by
  obtain ⟨h1, h2, h3, vs, t, h4, h5⟩ := h.obj b _ p hb hp
  have hle : M.le (memWith M p.blk vs) := memWith_le h3
  have hlt : b < H.length := h.dom b p hp
  refine ⟨memWith M p.blk vs, hle, ?_, relRow_of_relL h5 hle (memWith_self M p.blk vs)⟩
  have back : ∀ (j : Nat) (oj : Ob), (H.set b .dead)[j]? = some oj → oj ≠ .dead → H[j]? = some oj ∧ j ≠ b := fun j oj hj dj => by
    by_cases e : j = b
    · subst e
      rw [List.getElem?_set_self hlt] at hj; cases hj; exact absurd rfl dj
    · rw [List.getElem?_set_ne (fun x => e x.symm)] at hj; exact ⟨hj, e⟩
  refine ⟨h.below, fun b' o y hy => ?_, fun g cs hg => (h.glob g cs hg).mono hle, fun j q hq => by simpa using h.dom j q hq, fun j oj q hj hq => ?_, fun i j oi oj pi pj hij hi hj di dj hpi hpj => h.sep i j oi oj pi pj hij (back i oi hi di).1 (back j oj hj dj).1 di dj hpi hpj, fun j hj => h.tot j (by simpa using hj)⟩
  · by_cases e : b' = p.blk
    · subst e
      rw [memWith_self] at hy
      rw [cell?_block h4]; exact hy
    · simp only [memWith, e, if_false] at hy; exact h.imm b' o y hy
  · by_cases hd : oj = .dead
    · subst hd; trivial
    obtain ⟨hj', hjb⟩ := back j oj hj hd
    have hob := h.obj j oj q hj' hq
    have hne : q.blk ≠ p.blk := h.sep j b oj _ q p hjb hj' hb hd (by simp) hq hp
    cases oj with
    | dead => trivial
    | box ds =>
      obtain ⟨a1, a2, a3, ws, t, a4, a5⟩ := hob
      exact ⟨a1, a2, fun o => by simp only [memWith, hne, if_false]; exact a3 o, ws, t, a4, a5.mono hle (.refl _)⟩
    | arr ver sz xs esc =>
      obtain ⟨a1, a2, a3, a4, a5, ws, t, a6, a7, a8⟩ := hob
      exact ⟨a1, a2, a3, fun o y hy => by simp only [memWith, hne, if_false] at hy; exact a4 o y hy, a5, ws, t, a6, a7, a8.mono hle (.refl _)⟩
    | mp es =>
      obtain ⟨a1, a2, a3, ents, c, a4, a5, a6, a7⟩ := hob
      exact ⟨a1, a2, fun o => by simp only [memWith, hne, if_false]; exact a3 o, ents, c, a4, a5.mono hle (.refl _), a6, a7⟩

/-- A box is told to stay as it is. -/
theorem Ent.freeze {E : Env} {n : Nat} {l : List (Nat × D)} {H : List Ob} (s b : Nat) (cs : List V) (l' : List (Nat × D)) (hb : H[b]? = some (.box (cs.map .v))) (hd : look l s = .ptr b 0) (h1 : leAll l l') :
    Ent E (fr n l) H (fr n ((s, .rptr cs) :: l')) (H.set b .dead) := by
  refine (Ent.weakFr (l' := (s, .ptr b 0) :: l') ⟨hd ▸ D.le_refl _, h1⟩).trans ?_
  intro M μ w vs g1 g2 hr ht
  obtain ⟨p, hp⟩ := hr.tot b (List.getElem?_eq_some_iff.1 hb).1
  obtain ⟨M', k1, k2, k3⟩ := hr.freeze hb hp
  refine ⟨M', μ, g1.trans k1, g2, k2, relL_imp (fun i y hy => ?_) _ _ ht⟩
  simp only [look_cons] at hy ⊢
  split
  · rename_i e
    rw [if_pos e] at hy
    simp only [Rel] at hy ⊢
    obtain ⟨q, hq, _, rfl⟩ := hy
    rw [hp] at hq; cases hq
    exact ⟨p.blk, 0, rfl, k3⟩
  · rename_i e
    rw [if_neg e] at hy
    exact Rel.mono k1 (.refl _) hy

/-- An array of one's own is told to a call by value. -/
theorem ACalls.pub {P : Program} {G : Nat → Option (List V)} {f : FuncId} {H : List Ob} {K : D → List Ob → Prop} (b : Nat) {ver sz len esc : Nat} (ys : List (List V)) (hb : H[b]? = some (.arr ver sz (ys.map (·.map .v)) esc)) (he : esc ≤ ys.length) (hl : len ≤ ys.length)
    (h : ACalls P G f [.v (.list sz (ys.take len))] (H.set b (.arr ver sz (ys.map (·.map .v)) ys.length)) K) : ACalls P G f [.own b ver len] H K := by
  refine ⟨h.1, ?_⟩
  rintro ⟨P', G', w0, M0, μ0, H0⟩ e1 e2 M μ w vs hr hv
  have hR : R ⟨P', G', w0, M, μ, H⟩ M μ H w := ⟨hr.below, hr.imm, hr.glob, hr.dom, hr.obj, hr.sep, hr.tot⟩
  obtain ⟨M', μ', g1, g2, g3, g4⟩ := Ent.pub (E := ⟨P', G', w0, M, μ, H⟩) (ts := [.own b ver len]) b ys hb (by simpa using he) rfl M μ w vs (.refl _) (.refl _) hR hv
  have e : D.convL b ver sz ys [.own b ver len] = [.v (.list sz (ys.take len))] := by
    simp only [D.convL, D.conv, true_and, hl, if_true]
  rw [e] at g4
  have hR2 : R ⟨P', G', w0, M0, μ0, H0⟩ M' μ' (H.set b (.arr ver sz (ys.map (·.map .v)) ys.length)) w := ⟨g3.below, g3.imm, g3.glob, g3.dom, g3.obj, g3.sep, g3.tot⟩
  refine (h.2 ⟨P', G', w0, M0, μ0, H0⟩ e1 e2 M' μ' w vs hR2 g4).mono ?_
  rintro e w' ⟨v, d, M'', μ'', H'', a1, a2, a3, a4, a5, a6⟩
  exact ⟨v, d, M'', μ'', H'', a1, g1.trans a2, g2.trans a3, a4, a5, a6⟩
end Go.Ag
namespace Go.Ag
open Go Go.Proofs
variable {G : Nat → Option (List V)}
attribute [local irreducible] aops qops Sat aop

def dig (n : Nat) : UInt8 := UInt8.ofNat (48 + n % 10)
/-- The digits of a number; none of nothing. -/
def dz (n : Nat) : Str := if h : n = 0 then [] else dz (n / 10) ++ [dig n]
termination_by n
decreasing_by omega
theorem dz0 : dz 0 = [] := by unfold dz; rfl
theorem dzS {n : Nat} (h : 0 < n) : dz n = dz (n / 10) ++ [dig n] := by rw [dz]; simp [Nat.pos_iff_ne_zero.1 h]
def natT (n : Nat) : Str := dz (n / 10) ++ [dig n]
def intT (n : Int) : Str := if n < 0 then 45 :: natT n.natAbs else natT n.natAbs
theorem wrap_u64 (n : Int) (h0 : 0 ≤ n) (h : n < 18446744073709551616) : IntKind.u64.wrap n = n := by
  simp only [IntKind.wrap, IntKind.signed, IntKind.bits, Bool.false_and, Bool.false_eq_true, if_false]; omega
theorem wrap_neg (n : Int) (h0 : n < 0) (h : -9223372036854775808 ≤ n) : IntKind.u64.wrap (0 - IntKind.u64.wrap n) = n.natAbs := by
  simp only [IntKind.wrap, IntKind.signed, IntKind.bits, Bool.false_and, Bool.false_eq_true, if_false]; omega
theorem wf64 {n : Int} (h : (Lit.int .i64 n).wf = true) : -9223372036854775808 ≤ n ∧ n < 9223372036854775808 := by
  simp [Lit.wf, IntKind.min, IntKind.max, IntKind.signed, IntKind.bits] at h
  omega
theorem dig_int (n : Nat) : ((dig n).toNat : Int) = 48 + n % 10 := by
  have h : 48 + n % 10 < 256 := by omega
  simp only [dig, UInt8.toNat_ofNat']
  rw [Nat.mod_eq_of_lt (by omega)]; omega
theorem enc_dig (n : Nat) : (Utf8.encode (48 + (n : Int) % 10)).data.toList = [dig n] := by
  have e : (48 + (n : Int) % 10) = ((48 + n % 10 : Nat) : Int) := by omega
  have h : n % 10 < 10 := by omega
  rw [e, dig]
  generalize n % 10 = k at h
  rcases k with _|_|_|_|_|_|_|_|_|_|k <;> first | (decide +kernel) | omega
theorem tm (n : Nat) : Int.tmod (n : Int) 10 = ((n % 10 : Nat) : Int) := by rw [Int.tmod_eq_emod_of_nonneg (by omega)]; omega
theorem td (n : Nat) : Int.tdiv (n : Int) 10 = ((n / 10 : Nat) : Int) := by rw [Int.tdiv_eq_ediv_of_nonneg (by omega)]; omega
/-- The digits so far. -/
def dInv (u0 u : Nat) (s : Str) : Prop := u * 10 ^ s.length ≤ u0 ∧ ((s = [] ∧ u = u0) ∨ (s ≠ [] ∧ dz u ++ s = natT u0))
theorem dInv.step {u0 u : Nat} {s : Str} (h : dInv u0 u s) (h0 : s = [] ∨ 0 < u) : dInv u0 (u / 10) (dig u :: s) := by
  obtain ⟨h1, h2⟩ := h
  refine ⟨?_, .inr ⟨by simp, ?_⟩⟩
  · rw [List.length_cons, Nat.pow_succ, Nat.mul_comm (10 ^ s.length), ← Nat.mul_assoc]
    exact Nat.le_trans (Nat.mul_le_mul_right _ (Nat.div_mul_le_self u 10)) h1
  · rcases h2 with ⟨rfl, rfl⟩ | ⟨h3, h4⟩
    · rfl
    · have hp : 0 < u := h0.resolve_left h3
      rw [dzS hp, List.append_assoc] at h4
      exact h4
theorem dInv.len {u0 u : Nat} {s : Str} (h : dInv u0 u s) (hb : u0 < 18446744073709551616) (h0 : s = [] ∨ 0 < u) : s.length < 20 := by
  rcases h0 with rfl | h0
  · simp
  obtain ⟨h1, _⟩ := h
  apply Nat.lt_of_not_le
  intro hc
  have h2 : 10 ^ 20 ≤ 10 ^ s.length := Nat.pow_le_pow_right (by omega) hc
  have h3 : 10 ^ s.length ≤ u * 10 ^ s.length := Nat.le_mul_of_pos_left _ h0
  omega
theorem dInv.done {u0 : Nat} {s : Str} (h : dInv u0 0 s) (h0 : s ≠ []) : s = natT u0 := by
  rcases h.2 with ⟨h1, _⟩ | ⟨_, h1⟩
  · exact absurd h1 h0
  · rwa [dz0, List.nil_append] at h1
theorem dz_len : ∀ (k n : Nat), n < 10 ^ k → (dz n).length ≤ k
  | 0, n, h => by have : n = 0 := by simpa using h
                  subst this; rw [dz0]; simp
  | k + 1, n, h => by
    by_cases h0 : n = 0
    · subst h0; rw [dz0]; simp
    · rw [dzS (by omega), List.length_append, List.length_singleton]
      have := dz_len k (n / 10) (by rw [Nat.pow_succ] at h; omega)
      omega
theorem natT_len {n : Nat} (h : n < 18446744073709551616) : (natT n).length ≤ 20 := by
  have := dz_len 19 (n / 10) (by omega)
  simp only [natT, List.length_append, List.length_singleton]; omega
theorem dInv.start (u0 : Nat) : dInv u0 u0 [] := ⟨by simp, .inl ⟨rfl, rfl⟩⟩

set_option maxHeartbeats 4000000 in
theorem spec_rText (n : Int) (hn : (Lit.int .i64 n).wf = true) (H : List Ob) (K : D → List Ob → Prop) (hK : K (.v (.str (intT n))) H) : ACalls Tryd.prog G 47 [.v (.int .i64 n)] H K := by
  refine ACalls.go Tryd.f47 _ 34 [2] Tryd.func47 rfl Tryd.ntmps47 (by kernel_rfl) rfl (by simp) (fun E hE hP hG hH => ?_)
  have hM : E.P.follows .mixedOrders = true := hP ▸ mixed
  obtain ⟨n1, n2⟩ := wf64 hn
  have hb : n.natAbs < 18446744073709551616 := by omega
  subst hH
  simp only [args0]
  repeat (first | refine wa ?_ | refine wb rfl ?_ | refine wc rfl rfl hM ?_ | refine wd rfl hM ?_ | ((first | refine we rfl fun K hK => ?_ | refine wf rfl rfl fun K hK => ?_ | refine wg rfl rfl fun K hK => ?_ | refine wh rfl fun K hK => ?_); (simp only [lo, ld, ↓aop, ↓aCall, hP, hG, Nat.reduceLT, ↓reduceIte, Nat.reduceEqDiff, Nat.reduceAdd, Nat.reduceMul, Nat.reduceLeDiff, reduceCtorEq, D.cs, D.plain, fillD, chop, List.replicate, tk_3, ze_3, sz_3, tk_9, ze_9, sz_9, tk_104, ze_104, sz_104, tk_21, ze_21, sz_21]; repeat (with_reducible refine And.intro ?_ ?_; focus (first | decide | omega | (simp only [ln]; omega)))); try ((first | refine hK _ _ ?_ | refine hK _ ?_); clear hK K; simp only [lp])) | ((first | refine wi ?_ | refine wj ?_ | refine wk ?_ | refine wl ?_ | refine wm ?_ | refine wn ?_); simp only [lt, ↓reduceIte, Nat.reduceEqDiff]) | refine wo ?_)
  refine sat_thru (fr 34 [(3, .v (.int .u64 n.natAbs)), (2, .v (.str [])), (0, .v (.int .i64 n))]) E.H0 ?_ ?_
  · refine sat_cond rfl (fun hb => ?_) (fun hb => ?_)
    · simp at hb
      have hw := wrap_neg n hb n1
      repeat (first | refine wa ?_ | refine wb rfl ?_ | refine wc rfl rfl hM ?_ | refine wd rfl hM ?_ | ((first | refine we rfl fun K hK => ?_ | refine wf rfl rfl fun K hK => ?_ | refine wg rfl rfl fun K hK => ?_ | refine wh rfl fun K hK => ?_); (simp only [lo, ld, ↓aop, ↓aCall, hP, hG, Nat.reduceLT, ↓reduceIte, Nat.reduceEqDiff, Nat.reduceAdd, Nat.reduceMul, Nat.reduceLeDiff, reduceCtorEq, D.cs, D.plain, fillD, chop, List.replicate, tk_3, ze_3, sz_3, tk_9, ze_9, sz_9, tk_104, ze_104, sz_104, tk_21, ze_21, sz_21, hw]; repeat (with_reducible refine And.intro ?_ ?_; focus (first | decide | omega | (simp only [ln]; omega)))); try ((first | refine hK _ _ ?_ | refine hK _ ?_); clear hK K; simp only [lp])) | ((first | refine wi ?_ | refine wj ?_ | refine wk ?_ | refine wl ?_ | refine wm ?_ | refine wn ?_); simp only [lt, ↓reduceIte, Nat.reduceEqDiff]) | refine wo ?_)
      refine .weakFr ?_
      simp only [le, ↓reduceIte, Nat.reduceEqDiff, and_true]; repeat' (first | exact trivial | exact D.le_refl _ | exact D.le_any _ | with_reducible refine And.intro ?_ ?_)
    · simp at hb
      have hw := wrap_u64 n hb (by omega)
      have hw2 : (n.natAbs : Int) = n := by omega
      repeat (first | refine wa ?_ | refine wb rfl ?_ | refine wc rfl rfl hM ?_ | refine wd rfl hM ?_ | ((first | refine we rfl fun K hK => ?_ | refine wf rfl rfl fun K hK => ?_ | refine wg rfl rfl fun K hK => ?_ | refine wh rfl fun K hK => ?_); (simp only [lo, ld, ↓aop, ↓aCall, hP, hG, Nat.reduceLT, ↓reduceIte, Nat.reduceEqDiff, Nat.reduceAdd, Nat.reduceMul, Nat.reduceLeDiff, reduceCtorEq, D.cs, D.plain, fillD, chop, List.replicate, tk_3, ze_3, sz_3, tk_9, ze_9, sz_9, tk_104, ze_104, sz_104, tk_21, ze_21, sz_21, hw]; repeat (with_reducible refine And.intro ?_ ?_; focus (first | decide | omega | (simp only [ln]; omega)))); try ((first | refine hK _ _ ?_ | refine hK _ ?_); clear hK K; simp only [lp])) | ((first | refine wi ?_ | refine wj ?_ | refine wk ?_ | refine wl ?_ | refine wm ?_ | refine wn ?_); simp only [lt, ↓reduceIte, Nat.reduceEqDiff]) | refine wo ?_)
      refine .weakFr ?_
      rw [hw, hw2]
      simp only [le, ↓reduceIte, Nat.reduceEqDiff, and_true]; repeat' (first | exact trivial | exact D.le_refl _ | exact D.le_any _ | with_reducible refine And.intro ?_ ?_)
  generalize hu : n.natAbs = u0 at hb
  have e0 : IntKind.u64.wrap (48 + ((u0 % 10 : Nat) : Int)) = 48 + (u0 : Int) % 10 := by rw [wrap_u64] <;> omega
  have e1 : IntKind.i32.wrap (48 + (u0 : Int) % 10) = 48 + (u0 : Int) % 10 := by
    simp only [IntKind.wrap, IntKind.signed, IntKind.bits, Bool.true_and]
    rw [if_neg] <;> simp <;> omega
  have e2 := wrap_u64 ((u0 / 10 : Nat) : Int) (by omega) (by omega)
  repeat (first | refine wa ?_ | refine wb rfl ?_ | refine wc rfl rfl hM ?_ | refine wd rfl hM ?_ | ((first | refine we rfl fun K hK => ?_ | refine wf rfl rfl fun K hK => ?_ | refine wg rfl rfl fun K hK => ?_ | refine wh rfl fun K hK => ?_); (simp only [lo, ld, ↓aop, ↓aCall, hP, hG, Nat.reduceLT, ↓reduceIte, Nat.reduceEqDiff, Nat.reduceAdd, Nat.reduceMul, Nat.reduceLeDiff, reduceCtorEq, D.cs, D.plain, fillD, chop, List.replicate, tk_3, ze_3, sz_3, tk_9, ze_9, sz_9, tk_104, ze_104, sz_104, tk_21, ze_21, sz_21, tm, td, e0, e1, e2, enc_dig]; repeat (with_reducible refine And.intro ?_ ?_; focus (first | decide | omega | (simp only [ln]; omega)))); try ((first | refine hK _ _ ?_ | refine hK _ ?_); clear hK K; simp only [lp])) | ((first | refine wi ?_ | refine wj ?_ | refine wk ?_ | refine wl ?_ | refine wm ?_ | refine wn ?_); simp only [lt, ↓reduceIte, Nat.reduceEqDiff]) | refine wo ?_)
  refine sat_loop_ent (fun m ts H => ∃ (u : Nat) (s : Str), m = u ∧ s ≠ [] ∧ dInv u0 u s ∧
    ts = fr 34 [(4, .v (.str s)), (3, .v (.int .u64 u)), (2, .v (.str [])), (0, .v (.int .i64 n))] ∧ H = E.H0) (u0 / 10) (.weakFr ?_) ⟨u0 / 10, [dig u0], rfl, by simp, (dInv.start u0).step (.inl rfl), rfl, rfl⟩ ?_
  · simp only [le, ↓reduceIte, Nat.reduceEqDiff, and_true]; repeat' (first | exact trivial | exact D.le_refl _ | exact D.le_any _ | with_reducible refine And.intro ?_ ?_)
  rintro u ts H ⟨_, s, rfl, hs, hI, rfl, rfl⟩
  have hub : u < 18446744073709551616 := Nat.lt_of_le_of_lt (Nat.le_trans (Nat.le_mul_of_pos_right u (Nat.pow_pos (by omega))) hI.1) hb
  repeat (first | refine wa ?_ | refine wb rfl ?_ | refine wc rfl rfl hM ?_ | refine wd rfl hM ?_ | ((first | refine we rfl fun K hK => ?_ | refine wf rfl rfl fun K hK => ?_ | refine wg rfl rfl fun K hK => ?_ | refine wh rfl fun K hK => ?_); (simp only [lo, ld, ↓aop, ↓aCall, hP, hG, Nat.reduceLT, ↓reduceIte, Nat.reduceEqDiff, Nat.reduceAdd, Nat.reduceMul, Nat.reduceLeDiff, reduceCtorEq, D.cs, D.plain, fillD, chop, List.replicate, tk_3, ze_3, sz_3, tk_9, ze_9, sz_9, tk_104, ze_104, sz_104, tk_21, ze_21, sz_21]; repeat (with_reducible refine And.intro ?_ ?_; focus (first | decide | omega | (simp only [ln]; omega)))); try ((first | refine hK _ _ ?_ | refine hK _ ?_); clear hK K; simp only [lp])) | ((first | refine wi ?_ | refine wj ?_ | refine wk ?_ | refine wl ?_ | refine wm ?_ | refine wn ?_); simp only [lt, ↓reduceIte, Nat.reduceEqDiff]) | refine wo ?_)
  refine sat_cond rfl (fun hc => ?_) (fun hc => ?_)
  · simp at hc
    have hlen := hI.len hb (.inr hc)
    have e0 : IntKind.u64.wrap (48 + ((u % 10 : Nat) : Int)) = 48 + (u : Int) % 10 := by rw [wrap_u64] <;> omega
    have e1 : IntKind.i32.wrap (48 + (u : Int) % 10) = 48 + (u : Int) % 10 := by
      simp only [IntKind.wrap, IntKind.signed, IntKind.bits, Bool.true_and]
      rw [if_neg] <;> simp <;> omega
    have e2 := wrap_u64 ((u / 10 : Nat) : Int) (by omega) (by omega)
    repeat (first | refine wa ?_ | refine wb rfl ?_ | refine wc rfl rfl hM ?_ | refine wd rfl hM ?_ | ((first | refine we rfl fun K hK => ?_ | refine wf rfl rfl fun K hK => ?_ | refine wg rfl rfl fun K hK => ?_ | refine wh rfl fun K hK => ?_); (simp only [lo, ld, ↓aop, ↓aCall, hP, hG, Nat.reduceLT, ↓reduceIte, Nat.reduceEqDiff, Nat.reduceAdd, Nat.reduceMul, Nat.reduceLeDiff, reduceCtorEq, D.cs, D.plain, fillD, chop, List.replicate, tk_3, ze_3, sz_3, tk_9, ze_9, sz_9, tk_104, ze_104, sz_104, tk_21, ze_21, sz_21, tm, td, e0, e1, e2, enc_dig]; repeat (with_reducible refine And.intro ?_ ?_; focus (first | decide | omega | (simp only [ln]; omega)))); try ((first | refine hK _ _ ?_ | refine hK _ ?_); clear hK K; simp only [lp])) | ((first | refine wi ?_ | refine wj ?_ | refine wk ?_ | refine wl ?_ | refine wm ?_ | refine wn ?_); simp only [lt, ↓reduceIte, Nat.reduceEqDiff]) | refine wo ?_)
    refine ⟨u / 10, _, _, by omega, .weakFr ?_, u / 10, dig u :: s, rfl, by simp, hI.step (.inr hc), rfl, rfl⟩
    simp only [le, ↓reduceIte, Nat.reduceEqDiff, and_true]; repeat' (first | exact trivial | exact D.le_refl _ | exact D.le_any _ | with_reducible refine And.intro ?_ ?_)
  · simp at hc
    subst hc
    have hd := hI.done hs
    have hl := natT_len hb
    rw [← hd] at hl
    repeat (first | refine wa ?_ | refine wb rfl ?_ | refine wc rfl rfl hM ?_ | refine wd rfl hM ?_ | ((first | refine we rfl fun K hK => ?_ | refine wf rfl rfl fun K hK => ?_ | refine wg rfl rfl fun K hK => ?_ | refine wh rfl fun K hK => ?_); (simp only [lo, ld, ↓aop, ↓aCall, hP, hG, Nat.reduceLT, ↓reduceIte, Nat.reduceEqDiff, Nat.reduceAdd, Nat.reduceMul, Nat.reduceLeDiff, reduceCtorEq, D.cs, D.plain, fillD, chop, List.replicate, tk_3, ze_3, sz_3, tk_9, ze_9, sz_9, tk_104, ze_104, sz_104, tk_21, ze_21, sz_21]; repeat (with_reducible refine And.intro ?_ ?_; focus (first | decide | omega | (simp only [ln]; omega)))); try ((first | refine hK _ _ ?_ | refine hK _ ?_); clear hK K; simp only [lp])) | ((first | refine wi ?_ | refine wj ?_ | refine wk ?_ | refine wl ?_ | refine wm ?_ | refine wn ?_); simp only [lt, ↓reduceIte, Nat.reduceEqDiff]) | refine wo ?_)
    refine sat_cond rfl (fun hb => ?_) (fun hb => ?_)
    · repeat (first | refine wa ?_ | refine wb rfl ?_ | refine wc rfl rfl hM ?_ | refine wd rfl hM ?_ | ((first | refine we rfl fun K hK => ?_ | refine wf rfl rfl fun K hK => ?_ | refine wg rfl rfl fun K hK => ?_ | refine wh rfl fun K hK => ?_); (simp only [lo, ld, ↓aop, ↓aCall, hP, hG, Nat.reduceLT, ↓reduceIte, Nat.reduceEqDiff, Nat.reduceAdd, Nat.reduceMul, Nat.reduceLeDiff, reduceCtorEq, D.cs, D.plain, fillD, chop, List.replicate, tk_3, ze_3, sz_3, tk_9, ze_9, sz_9, tk_104, ze_104, sz_104, tk_21, ze_21, sz_21]; repeat (with_reducible refine And.intro ?_ ?_; focus (first | decide | omega | (simp only [ln]; omega)))); try ((first | refine hK _ _ ?_ | refine hK _ ?_); clear hK K; simp only [lp])) | ((first | refine wi ?_ | refine wj ?_ | refine wk ?_ | refine wl ?_ | refine wm ?_ | refine wn ?_); simp only [lt, ↓reduceIte, Nat.reduceEqDiff]) | refine wo ?_)
      refine Fin.is _ (by decide) rfl ?_
      have : intT n = [45] ++ s := by simp at hb; simp only [intT, hb, if_true, hu, hd]; rfl
      rwa [this] at hK
    · repeat (first | refine wa ?_ | refine wb rfl ?_ | refine wc rfl rfl hM ?_ | refine wd rfl hM ?_ | ((first | refine we rfl fun K hK => ?_ | refine wf rfl rfl fun K hK => ?_ | refine wg rfl rfl fun K hK => ?_ | refine wh rfl fun K hK => ?_); (simp only [lo, ld, ↓aop, ↓aCall, hP, hG, Nat.reduceLT, ↓reduceIte, Nat.reduceEqDiff, Nat.reduceAdd, Nat.reduceMul, Nat.reduceLeDiff, reduceCtorEq, D.cs, D.plain, fillD, chop, List.replicate, tk_3, ze_3, sz_3, tk_9, ze_9, sz_9, tk_104, ze_104, sz_104, tk_21, ze_21, sz_21]; repeat (with_reducible refine And.intro ?_ ?_; focus (first | decide | omega | (simp only [ln]; omega)))); try ((first | refine hK _ _ ?_ | refine hK _ ?_); clear hK K; simp only [lp])) | ((first | refine wi ?_ | refine wj ?_ | refine wk ?_ | refine wl ?_ | refine wm ?_ | refine wn ?_); simp only [lt, ↓reduceIte, Nat.reduceEqDiff]) | refine wo ?_)
      refine Fin.is _ (by decide) rfl ?_
      have : intT n = s := by simp at hb; simp only [intT, Int.not_lt.2 hb, if_false, hu, hd]
      rwa [this] at hK

def u8V (c : UInt8) : V := .int .u8 c.toNat
theorem bytesOfV_u8 : ∀ s : Str, bytesOfV (s.map fun c => [u8V c]) = some s
  | [] => rfl
  | c :: s => by
    have h := bytesOfV_u8 s
    simp only [u8V] at h
    simp [bytesOfV, u8V, h]
def buf (a : Nat) (s : Str) : List V := List.replicate a (.int .u8 0) ++ s.map u8V
theorem buf_len (a : Nat) (s : Str) : (buf a s).length = a + s.length := by simp [buf]
theorem buf_put (b : Nat) (s : Str) (c : UInt8) : ((buf (b + 1) s).map D.v).take b ++ [.v (u8V c)] ++ ((buf (b + 1) s).map D.v).drop (b + 1) = (buf b (c :: s)).map D.v := by
  simp [buf, List.take_append, List.drop_append, List.take_replicate, List.drop_replicate]
theorem buf_drop (a : Nat) (s : Str) : (buf a s).drop a = s.map u8V := by simp [buf]

set_option maxHeartbeats 4000000 in
theorem spec_Text (n : Int) (hn : (Lit.int .i64 n).wf = true) (H : List Ob) (K : D → List Ob → Prop) (hK : K (.v (.str (intT n))) H) : ACalls Tryd.prog G 44 [.v (.int .i64 n)] H K := by
  refine ACalls.go Tryd.f44 _ 37 [2] Tryd.func44 rfl Tryd.ntmps44 (by kernel_rfl) rfl (by simp) (fun E hE hP hG hH => ?_)
  have hM : E.P.follows .mixedOrders = true := hP ▸ mixed
  obtain ⟨n1, n2⟩ := wf64 hn
  have hb : n.natAbs < 18446744073709551616 := by omega
  subst hH
  simp only [args0]
  repeat (first | refine wa ?_ | refine wb rfl ?_ | refine wc rfl rfl hM ?_ | refine wd rfl hM ?_ | ((first | refine we rfl fun K hK => ?_ | refine wf rfl rfl fun K hK => ?_ | refine wg rfl rfl fun K hK => ?_ | refine wh rfl fun K hK => ?_); (simp only [lo, ld, ↓aop, ↓aCall, hP, hG, Nat.reduceLT, ↓reduceIte, Nat.reduceEqDiff, Nat.reduceAdd, Nat.reduceMul, Nat.reduceLeDiff, reduceCtorEq, D.cs, D.plain, fillD, chop, List.replicate, tk_3, ze_3, sz_3, tk_9, ze_9, sz_9, tk_104, ze_104, sz_104, tk_21, ze_21, sz_21]; repeat (with_reducible refine And.intro ?_ ?_; focus (first | decide | omega | (simp only [ln]; omega)))); try ((first | refine hK _ _ ?_ | refine hK _ ?_); clear hK K; simp only [lp])) | ((first | refine wi ?_ | refine wj ?_ | refine wk ?_ | refine wl ?_ | refine wm ?_ | refine wn ?_); simp only [lt, ↓reduceIte, Nat.reduceEqDiff]) | refine wo ?_)
  refine sat_thru (fr 37 [(3, .v (.int .u64 n.natAbs)), (2, .v (.str [])), (0, .v (.int .i64 n))]) E.H0 ?_ ?_
  · refine sat_cond rfl (fun hb => ?_) (fun hb => ?_)
    · simp at hb
      have hw := wrap_neg n hb n1
      repeat (first | refine wa ?_ | refine wb rfl ?_ | refine wc rfl rfl hM ?_ | refine wd rfl hM ?_ | ((first | refine we rfl fun K hK => ?_ | refine wf rfl rfl fun K hK => ?_ | refine wg rfl rfl fun K hK => ?_ | refine wh rfl fun K hK => ?_); (simp only [lo, ld, ↓aop, ↓aCall, hP, hG, Nat.reduceLT, ↓reduceIte, Nat.reduceEqDiff, Nat.reduceAdd, Nat.reduceMul, Nat.reduceLeDiff, reduceCtorEq, D.cs, D.plain, fillD, chop, List.replicate, tk_3, ze_3, sz_3, tk_9, ze_9, sz_9, tk_104, ze_104, sz_104, tk_21, ze_21, sz_21, hw]; repeat (with_reducible refine And.intro ?_ ?_; focus (first | decide | omega | (simp only [ln]; omega)))); try ((first | refine hK _ _ ?_ | refine hK _ ?_); clear hK K; simp only [lp])) | ((first | refine wi ?_ | refine wj ?_ | refine wk ?_ | refine wl ?_ | refine wm ?_ | refine wn ?_); simp only [lt, ↓reduceIte, Nat.reduceEqDiff]) | refine wo ?_)
      refine .weakFr ?_
      simp only [le, ↓reduceIte, Nat.reduceEqDiff, and_true]; repeat' (first | exact trivial | exact D.le_refl _ | exact D.le_any _ | with_reducible refine And.intro ?_ ?_)
    · simp at hb
      have hw := wrap_u64 n hb (by omega)
      have hw2 : (n.natAbs : Int) = n := by omega
      repeat (first | refine wa ?_ | refine wb rfl ?_ | refine wc rfl rfl hM ?_ | refine wd rfl hM ?_ | ((first | refine we rfl fun K hK => ?_ | refine wf rfl rfl fun K hK => ?_ | refine wg rfl rfl fun K hK => ?_ | refine wh rfl fun K hK => ?_); (simp only [lo, ld, ↓aop, ↓aCall, hP, hG, Nat.reduceLT, ↓reduceIte, Nat.reduceEqDiff, Nat.reduceAdd, Nat.reduceMul, Nat.reduceLeDiff, reduceCtorEq, D.cs, D.plain, fillD, chop, List.replicate, tk_3, ze_3, sz_3, tk_9, ze_9, sz_9, tk_104, ze_104, sz_104, tk_21, ze_21, sz_21, hw]; repeat (with_reducible refine And.intro ?_ ?_; focus (first | decide | omega | (simp only [ln]; omega)))); try ((first | refine hK _ _ ?_ | refine hK _ ?_); clear hK K; simp only [lp])) | ((first | refine wi ?_ | refine wj ?_ | refine wk ?_ | refine wl ?_ | refine wm ?_ | refine wn ?_); simp only [lt, ↓reduceIte, Nat.reduceEqDiff]) | refine wo ?_)
      refine .weakFr ?_
      rw [hw, hw2]
      simp only [le, ↓reduceIte, Nat.reduceEqDiff, and_true]; repeat' (first | exact trivial | exact D.le_refl _ | exact D.le_any _ | with_reducible refine And.intro ?_ ?_)
  generalize hu : n.natAbs = u0 at hb
  repeat (first | refine wa ?_ | refine wb rfl ?_ | refine wc rfl rfl hM ?_ | refine wd rfl hM ?_ | ((first | refine we rfl fun K hK => ?_ | refine wf rfl rfl fun K hK => ?_ | refine wg rfl rfl fun K hK => ?_ | refine wh rfl fun K hK => ?_); (simp only [lo, ld, ↓aop, ↓aCall, hP, hG, Nat.reduceLT, ↓reduceIte, Nat.reduceEqDiff, Nat.reduceAdd, Nat.reduceMul, Nat.reduceLeDiff, reduceCtorEq, D.cs, D.plain, fillD, chop, List.replicate, tk_3, ze_3, sz_3, tk_9, ze_9, sz_9, tk_104, ze_104, sz_104, tk_21, ze_21, sz_21, tk_105, ze_105, sz_105, kn_105]; repeat (with_reducible refine And.intro ?_ ?_; focus (first | decide | omega | (simp only [ln]; omega)))); try ((first | refine hK _ _ ?_ | refine hK _ ?_); clear hK K; simp only [lp])) | ((first | refine wi ?_ | refine wj ?_ | refine wk ?_ | refine wl ?_ | refine wm ?_ | refine wn ?_); simp only [lt, ↓reduceIte, Nat.reduceEqDiff]) | refine wo ?_)
  refine sat_loop_ent (fun m ts H => ∃ (a u : Nat) (s : Str), m = u + (if s = [] then 1 else 0) ∧ a + s.length = 20 ∧ dInv u0 u s ∧
    ts = fr 37 [(5, .v (.int .i64 a)), (4, .ptr E.H0.length 0), (3, .v (.int .u64 u)), (2, .v (.str [])), (0, .v (.int .i64 n))] ∧ H = E.H0 ++ [.box ((buf a s).map .v)]) (u0 + 1) (.weakFr ?_) ⟨20, u0, [], rfl, rfl, dInv.start u0, rfl, rfl⟩ ?_
  · simp only [le, ↓reduceIte, Nat.reduceEqDiff, and_true]; repeat' (first | exact trivial | exact D.le_refl _ | exact D.le_any _ | with_reducible refine And.intro ?_ ?_)
  rintro m ts H ⟨a, u, s, rfl, ha, hI, rfl, rfl⟩
  have hub : u < 18446744073709551616 := Nat.lt_of_le_of_lt (Nat.le_trans (Nat.le_mul_of_pos_right u (Nat.pow_pos (by omega))) hI.1) hb
  repeat (first | refine wa ?_ | refine wb rfl ?_ | refine wc rfl rfl hM ?_ | refine wd rfl hM ?_ | ((first | refine we rfl fun K hK => ?_ | refine wf rfl rfl fun K hK => ?_ | refine wg rfl rfl fun K hK => ?_ | refine wh rfl fun K hK => ?_); (simp only [lo, ld, ↓aop, ↓aCall, hP, hG, Nat.reduceLT, ↓reduceIte, Nat.reduceEqDiff, Nat.reduceAdd, Nat.reduceMul, Nat.reduceLeDiff, reduceCtorEq, D.cs, D.plain, fillD, chop, List.replicate]; repeat (with_reducible refine And.intro ?_ ?_; focus (first | decide | omega | (simp only [ln]; omega)))); try ((first | refine hK _ _ ?_ | refine hK _ ?_); clear hK K; simp only [lp])) | ((first | refine wi ?_ | refine wj ?_ | refine wk ?_ | refine wl ?_ | refine wm ?_ | refine wn ?_); simp only [lt, ↓reduceIte, Nat.reduceEqDiff]) | refine wo ?_)
  refine sat_thru (fr 37 [(17, .v (.bool (decide (a = 20) || decide (0 < u)))), (5, .v (.int .i64 a)), (4, .ptr E.H0.length 0), (3, .v (.int .u64 u)), (2, .v (.str [])), (0, .v (.int .i64 n))]) (E.H0 ++ [.box ((buf a s).map .v)]) ?_ ?_
  · (first | refine wr ?_ | refine wp rfl hM ?_ | refine wq hM ?_); repeat' (first | ((first | refine wx ?_ | refine wy ?_ | refine wz ?_); (simp only [lo, ld, ↓aop, ↓aCall, hP, hG, Nat.reduceLT, ↓reduceIte, Nat.reduceEqDiff, Nat.reduceAdd, Nat.reduceMul, Nat.reduceLeDiff, reduceCtorEq, D.cs, D.plain, fillD, chop, List.replicate, tk_3, ze_3, sz_3, tk_9, ze_9, sz_9, tk_104, ze_104, sz_104]; repeat (with_reducible refine And.intro ?_ ?_; focus (first | decide | omega | (simp only [ln]; omega)))); try ((first | refine hK _ _ ?_ | refine hK _ ?_); clear hK K; simp only [lp])) | refine we rfl fun K hK => ?_ | refine wf rfl rfl fun K hK => ?_ | refine wg rfl rfl fun K hK => ?_ | refine wh rfl fun K hK => ?_ | ((first | refine Xg rfl rfl (by decide) ?_ fun K hK => ?_ | refine Yg rfl rfl (by decide) ?_ fun K hK => ?_ | refine Zg rfl rfl rfl (by decide) ?_ fun K hK => ?_); (focus (simp only [look_cons, ↓reduceIte, Nat.reduceEqDiff, Bool.not_true, Bool.not_false]; done))) | ((first | refine Xn rfl rfl (by decide) ?_ ?_ | refine Yn rfl rfl (by decide) ?_ ?_ | refine Zn rfl rfl rfl (by decide) ?_ ?_); (focus (simp only [look_cons, ↓reduceIte, Nat.reduceEqDiff, Bool.not_true, Bool.not_false]; done)); simp only [lp]) | ((first | refine Xo rfl rfl (by decide) ?_ ?_ | refine Yo rfl rfl (by decide) ?_ ?_ | refine Zo rfl rfl rfl (by decide) ?_ ?_); (focus (simp only [look_cons, ↓reduceIte, Nat.reduceEqDiff, Bool.not_true, Bool.not_false]; done)); simp only [lp]) | ((first | refine Xs rfl rfl (by decide) rfl (fun h K hK => ?_) fun h => ?_ | refine Ys rfl rfl (by decide) rfl (fun h K hK => ?_) fun h => ?_ | refine Zs rfl rfl rfl (by decide) rfl (fun h K hK => ?_) fun h => ?_); rotate_left; (focus (simp only [Bool.not_true, Bool.not_false, lp])); rotate_left) | ((first | refine wi ?_ | refine wj ?_ | refine wk ?_); simp only [lt, ↓reduceIte, Nat.reduceEqDiff]))
    all_goals refine .weakFr ?_
    all_goals simp only [le, ↓reduceIte, Nat.reduceEqDiff, and_true]; repeat' (first | exact trivial | exact D.le_refl _ | exact D.le_any _ | with_reducible refine And.intro ?_ ?_)
    all_goals refine D.le_eq (congrArg D.v (congrArg V.bool (Bool.eq_iff_iff.2 ?_))); simp only [decide_eq_true_eq, decide_eq_false_iff_not, Bool.or_eq_true, Bool.and_eq_true, Bool.or_eq_false_iff, Bool.and_eq_false_iff, Bool.not_eq_true', Bool.not_eq_false', Bool.not_eq_eq_eq_not, Bool.not_true, Bool.not_false, beq_iff_eq, beq_eq_false_iff_ne, bne_iff_ne, ne_eq, Bool.false_eq_true, Bool.true_eq_false, true_iff, false_iff, iff_true, iff_false, not_true_eq_false, not_false_eq_true] at *; omega
  refine sat_cond rfl (fun hc => ?_) (fun hc => ?_)
  · have hs : s = [] ∨ 0 < u := by
      simp at hc
      rcases hc with hc | hc
      · left; exact List.length_eq_zero_iff.1 (by omega)
      · exact .inr hc
    have hlen := hI.len hb hs
    obtain ⟨b, rfl⟩ : ∃ b, a = b + 1 := ⟨a - 1, by omega⟩
    have hw := wpred b (by omega)
    have hbl := buf_len (b + 1) s
    have e0 : IntKind.u8.wrap ((u % 10 : Nat) : Int) = ((u % 10 : Nat) : Int) := by
      simp only [IntKind.wrap, IntKind.signed, IntKind.bits, Bool.false_and, Bool.false_eq_true, if_false]; omega
    have e2 := wrap_u64 ((u / 10 : Nat) : Int) (by omega) (by omega)
    repeat (first | refine wa ?_ | refine wb rfl ?_ | refine wc rfl rfl hM ?_ | refine wd rfl hM ?_ | ((first | refine we rfl fun K hK => ?_ | refine wf rfl rfl fun K hK => ?_ | refine wg rfl rfl fun K hK => ?_ | refine wh rfl fun K hK => ?_); (simp only [lo, ld, ↓aop, ↓aCall, hP, hG, Nat.reduceLT, ↓reduceIte, Nat.reduceEqDiff, Nat.reduceAdd, Nat.reduceMul, Nat.reduceLeDiff, reduceCtorEq, D.cs, D.plain, fillD, chop, List.replicate, tk_3, ze_3, sz_3, tk_9, ze_9, sz_9, tk_104, ze_104, sz_104, tk_21, ze_21, sz_21, tk_105, ze_105, sz_105, kn_105, tk_5, ze_5, sz_5, tm, td, e0, e2, hw, hbl]; repeat (with_reducible refine And.intro ?_ ?_; focus (first | decide | omega | (simp only [ln]; omega)))); try ((first | refine hK _ _ ?_ | refine hK _ ?_); clear hK K; simp only [lp])) | ((first | refine wi ?_ | refine wj ?_ | refine wk ?_ | refine wl ?_ | refine wm ?_ | refine wn ?_); simp only [lt, ↓reduceIte, Nat.reduceEqDiff]) | refine wo ?_)
    have e3 : IntKind.u8.wrap (48 + ((u % 10 : Nat) : Int)) = (dig u).toNat := by
      rw [dig_int]
      simp only [IntKind.wrap, IntKind.signed, IntKind.bits, Bool.false_and, Bool.false_eq_true, if_false]; omega
    rw [Nat.mul_one, e3]
    refine ⟨u / 10 + 0, _, _, ?_, ?_, b, u / 10, dig u :: s, by simp, by simp only [List.length_cons]; omega, hI.step hs, rfl, rfl⟩
    · rcases hs with rfl | hs
      · simp; omega
      · split <;> omega
    · rw [show D.v (V.int IntKind.u8 (dig u).toNat) = D.v (u8V (dig u)) from rfl, buf_put]
      refine .weakFr ?_
      simp only [le, ↓reduceIte, Nat.reduceEqDiff, and_true]; repeat' (first | exact trivial | exact D.le_refl _ | exact D.le_any _ | with_reducible refine And.intro ?_ ?_)
  · have hu0 : u = 0 := by simp at hc; omega
    subst hu0
    have hne : s ≠ [] := by rintro rfl; simp at hc ha; omega
    have hd := hI.done hne
    have hl := natT_len hb
    have hbl := buf_len a s
    have hal : a ≤ 20 := by omega
    have hcut : bytesOfV (List.map (fun c => [c]) (List.drop a (List.take 20 (buf a s)))) = some s := by
      rw [List.take_of_length_le (by omega), buf_drop, List.map_map]; exact bytesOfV_u8 s
    rw [← hd] at hl
    repeat (first | refine wa ?_ | refine wb rfl ?_ | refine wc rfl rfl hM ?_ | refine wd rfl hM ?_ | ((first | refine we rfl fun K hK => ?_ | refine wf rfl rfl fun K hK => ?_ | refine wg rfl rfl fun K hK => ?_ | refine wh rfl fun K hK => ?_); (simp only [lo, ld, ↓aop, ↓aCall, hP, hG, Nat.reduceLT, ↓reduceIte, Nat.reduceEqDiff, Nat.reduceAdd, Nat.reduceMul, Nat.reduceLeDiff, reduceCtorEq, D.cs, D.plain, fillD, chop, List.replicate, tk_3, ze_3, sz_3, tk_9, ze_9, sz_9, tk_104, ze_104, sz_104]; repeat (with_reducible refine And.intro ?_ ?_; focus (first | decide | omega | (simp only [ln]; omega)))); try ((first | refine hK _ _ ?_ | refine hK _ ?_); clear hK K; simp only [lp])) | ((first | refine wi ?_ | refine wj ?_ | refine wk ?_ | refine wl ?_ | refine wm ?_ | refine wn ?_); simp only [lt, ↓reduceIte, Nat.reduceEqDiff]) | refine wo ?_)
    refine sat_ent (Ent.freeze 4 E.H0.length (buf a s) [(29, .v (.bool (decide (n < 0)))), (5, .v (.int .i64 a)), (4, .ptr E.H0.length 0), (2, .v (.str [])), (0, .v (.int .i64 n))] (by rw [hp_get0]; rfl) rfl ?_) ?_
    · simp only [le, ↓reduceIte, Nat.reduceEqDiff, and_true]; repeat' (first | exact trivial | exact D.le_refl _ | exact D.le_any _ | with_reducible refine And.intro ?_ ?_)
    rw [hp_set0]
    change Sat _ _ _ (E.H0 ++ [.dead]) _
    refine sat_cond rfl (fun hb => ?_) (fun hb => ?_)
    · repeat (first | refine wa ?_ | refine wb rfl ?_ | refine wc rfl rfl hM ?_ | refine wd rfl hM ?_ | ((first | refine we rfl fun K hK => ?_ | refine wf rfl rfl fun K hK => ?_ | refine wg rfl rfl fun K hK => ?_ | refine wh rfl fun K hK => ?_); (simp only [lo, ld, ↓aop, ↓aCall, hP, hG, Nat.reduceLT, ↓reduceIte, Nat.reduceEqDiff, Nat.reduceAdd, Nat.reduceMul, Nat.reduceLeDiff, reduceCtorEq, D.cs, D.plain, fillD, chop, List.replicate, tk_3, ze_3, sz_3, tk_9, ze_9, sz_9, tk_104, ze_104, sz_104, tk_105, ze_105, sz_105, kn_105, tk_93, ze_93, sz_93, tk_5, ze_5, sz_5, hbl, ha, hal, hcut]; repeat (with_reducible refine And.intro ?_ ?_; focus (first | decide | omega | (simp only [ln]; omega)))); try ((first | refine hK _ _ ?_ | refine hK _ ?_); clear hK K; simp only [lp])) | ((first | refine wi ?_ | refine wj ?_ | refine wk ?_ | refine wl ?_ | refine wm ?_ | refine wn ?_); simp only [lt, ↓reduceIte, Nat.reduceEqDiff]) | refine wo ?_)
      refine Fin.gc _ hE (by decide) rfl trivial ?_
      have : intT n = [45] ++ s := by simp at hb; simp only [intT, hb, if_true, hu, hd]; rfl
      rwa [this] at hK
    · repeat (first | refine wa ?_ | refine wb rfl ?_ | refine wc rfl rfl hM ?_ | refine wd rfl hM ?_ | ((first | refine we rfl fun K hK => ?_ | refine wf rfl rfl fun K hK => ?_ | refine wg rfl rfl fun K hK => ?_ | refine wh rfl fun K hK => ?_); (simp only [lo, ld, ↓aop, ↓aCall, hP, hG, Nat.reduceLT, ↓reduceIte, Nat.reduceEqDiff, Nat.reduceAdd, Nat.reduceMul, Nat.reduceLeDiff, reduceCtorEq, D.cs, D.plain, fillD, chop, List.replicate, tk_3, ze_3, sz_3, tk_9, ze_9, sz_9, tk_104, ze_104, sz_104, tk_105, ze_105, sz_105, kn_105, tk_93, ze_93, sz_93, tk_5, ze_5, sz_5, hbl, ha, hal, hcut]; repeat (with_reducible refine And.intro ?_ ?_; focus (first | decide | omega | (simp only [ln]; omega)))); try ((first | refine hK _ _ ?_ | refine hK _ ?_); clear hK K; simp only [lp])) | ((first | refine wi ?_ | refine wj ?_ | refine wk ?_ | refine wl ?_ | refine wm ?_ | refine wn ?_); simp only [lt, ↓reduceIte, Nat.reduceEqDiff]) | refine wo ?_)
      refine Fin.gc _ hE (by decide) rfl trivial ?_
      have : intT n = s := by simp at hb; simp only [intT, Int.not_lt.2 hb, if_false, hu, hd]
      rwa [this] at hK
end Go.Ag
namespace Go.Ag
open Go Go.Proofs
variable {G : Nat → Option (List V)}
attribute [local irreducible] aops qops Sat aop

def slvLine (c : Cho) (i : Nat) (s : Slv) : Str := if c.slaves.getD i [] == [] then [] else [115, 108, 97, 118, 101, 32] ++ (s.name ++ ([58, 32] ++ (c.slaves.getD i [] ++ [10])))
def slvLines (x : Alt) (c : Cho) : Nat → Str
  | 0 => []
  | n + 1 => slvLines x c n ++ slvLine c n (x.slaves.getD n slv0)
def choMid (c : Cho) : Prop := c.path.length ≤ 1000000 ∧ c.slaves.length ≤ 1000000 ∧ ∀ t ∈ c.slaves, t.length ≤ 1000000
theorem getD_len {l : List Str} {m : Nat} (h : ∀ t ∈ l, t.length ≤ m) (i : Nat) : (l.getD i []).length ≤ m := by
  rw [List.getD_eq_getElem?_getD]
  cases hi : l[i]? with
  | none => simp
  | some t => exact h t (List.mem_of_getElem? hi)
theorem slvLine_len {c : Cho} {s : Slv} (hc : choMid c) (hs : s.name.length ≤ 1000000) (i : Nat) : (slvLine c i s).length ≤ 2000020 := by
  have := getD_len hc.2.2 i
  unfold slvLine
  split
  · simp
  · simp only [List.length_append, List.length_cons, List.length_nil]; omega
theorem slv_mid {x : Alt} (h : altMid x) (i : Nat) : (x.slaves.getD i slv0).name.length ≤ 1000000 ∧ (x.slaves.getD i slv0).link.length ≤ 1000000 := by
  rw [List.getD_eq_getElem?_getD]
  cases hi : x.slaves[i]? with
  | none => simp [slv0]
  | some t => exact h.2.2.2.2.2.1 t (List.mem_of_getElem? hi)
theorem slvLines_len {x : Alt} {c : Cho} (hx : altMid x) (hc : choMid c) : ∀ n, (slvLines x c n).length ≤ n * 2000020
  | 0 => by simp [slvLines]
  | n + 1 => by
    have h1 := slvLines_len hx hc n
    have h2 := slvLine_len hc (slv_mid hx n).1 n
    simp only [slvLines, List.length_append]; omega
theorem choR_lt (n : Nat) (c : Cho) : ltObs n [.box ((choR c).map .v)] := ⟨by simp only [Ob.lt]; exact ltL_v _ _, trivial⟩
theorem ltObs_two {n : Nat} {a b : Ob} (h1 : ltObs n [a]) (h2 : ltObs n [b]) : ltObs n [a, b] := ⟨h1.1, h2.1, trivial⟩

set_option maxHeartbeats 4000000 in
theorem spec_slaveLines (x : Alt) (c : Cho) (hm : altMid x) (hc : choMid c) (hl : c.slaves.length = x.slaves.length) (H : List Ob) (K : D → List Ob → Prop) (hK : K (.v (.str (slvLines x c x.slaves.length))) H) : ACalls Tryd.prog G 45 [altd x, choD c] H K := by
  refine ACalls.go Tryd.f45 _ 37 [4] Tryd.func45 rfl Tryd.ntmps45 (by kernel_rfl) rfl (by simp) (fun E hE hP hG hH => ?_)
  have hM : E.P.follows .mixedOrders = true := hP ▸ mixed
  have hsl := fun i => slvLines_len hm hc i
  have hx5 := hm.2.2.2.1
  subst hH
  simp only [args0, altd, choD]
  repeat (first | refine wa ?_ | refine wb rfl ?_ | refine wc rfl rfl hM ?_ | refine wd rfl hM ?_ | ((first | refine we rfl fun K hK => ?_ | refine wf rfl rfl fun K hK => ?_ | refine wg rfl rfl fun K hK => ?_ | refine wh rfl fun K hK => ?_); (simp only [lo, ld, ↓aop, ↓aCall, hP, hG, Nat.reduceLT, ↓reduceIte, Nat.reduceEqDiff, Nat.reduceAdd, Nat.reduceMul, Nat.reduceLeDiff, reduceCtorEq, D.cs, D.plain, fillD, chop, List.replicate, slvs, tk_3, ze_3, sz_3, tk_9, ze_9, sz_9, tk_46, ze_46, sz_46, kn_46, tk_43, ze_43, sz_43, tk_52, ze_52, sz_52, kn_52, tk_50, ze_50, sz_50, tk_73, ze_73, sz_73, kn_73]; repeat (with_reducible refine And.intro ?_ ?_; focus (first | decide | omega | (simp only [ln]; omega)))); try ((first | refine hK _ _ ?_ | refine hK _ ?_); clear hK K; simp only [lp])) | ((first | refine wi ?_ | refine wj ?_ | refine wk ?_ | refine wl ?_ | refine wm ?_ | refine wn ?_); simp only [lt, ↓reduceIte, Nat.reduceEqDiff]) | refine wo ?_)
  refine sat_loop_ent (fun n ts H => ∃ (i : Nat), n = x.slaves.length - i ∧ i ≤ x.slaves.length ∧
    ts = fr 37 [(11, .v (.int .i64 i)), (10, .v (.int .i64 x.slaves.length)), (9, .v (slvs x.slaves)), (5, .v (.str (slvLines x c i))), (4, .v (.str [])), (3, .ptr (E.H0.length + 1) 0), (2, .ptr E.H0.length 0)] ∧ H = E.H0 ++ [altB x, .box ((choR c).map .v)]) (x.slaves.length) (.weakFr ?_) ⟨0, rfl, Nat.zero_le _, rfl, rfl⟩ ?_
  · simp only [le, ↓reduceIte, Nat.reduceEqDiff, and_true]; repeat' (first | exact trivial | exact D.le_refl _ | exact D.le_any _ | with_reducible refine And.intro ?_ ?_)
  rintro n ts H ⟨i, rfl, hi, rfl, rfl⟩
  repeat (first | refine wa ?_ | refine wb rfl ?_ | refine wc rfl rfl hM ?_ | refine wd rfl hM ?_ | ((first | refine we rfl fun K hK => ?_ | refine wf rfl rfl fun K hK => ?_ | refine wg rfl rfl fun K hK => ?_ | refine wh rfl fun K hK => ?_); (simp only [lo, ld, ↓aop, ↓aCall, hP, hG, Nat.reduceLT, ↓reduceIte, Nat.reduceEqDiff, Nat.reduceAdd, Nat.reduceMul, Nat.reduceLeDiff, reduceCtorEq, D.cs, D.plain, fillD, chop, List.replicate, slvs, tk_3, ze_3, sz_3, tk_9, ze_9, sz_9, tk_46, ze_46, sz_46, kn_46, tk_43, ze_43, sz_43, tk_52, ze_52, sz_52, kn_52, tk_50, ze_50, sz_50, tk_73, ze_73, sz_73, kn_73]; repeat (with_reducible refine And.intro ?_ ?_; focus (first | decide | omega | (simp only [ln]; omega)))); try ((first | refine hK _ _ ?_ | refine hK _ ?_); clear hK K; simp only [lp])) | ((first | refine wi ?_ | refine wj ?_ | refine wk ?_ | refine wl ?_ | refine wm ?_ | refine wn ?_); simp only [lt, ↓reduceIte, Nat.reduceEqDiff]) | refine wo ?_)
  refine sat_cond rfl (fun hb => ?_) (fun hb => ?_)
  · simp at hb
    obtain ⟨s, hx⟩ : ∃ s, x.slaves[i]? = some s := ⟨_, List.getElem?_eq_getElem hb⟩
    have hci : i < c.slaves.length := by omega
    obtain ⟨t, ht⟩ : ∃ t, c.slaves[i]? = some t := ⟨_, List.getElem?_eq_getElem hci⟩
    have hw := wrap_succ (i := i) (by omega)
    have gx : x.slaves.getD i slv0 = s := by simp [List.getD_eq_getElem?_getD, hx]
    have gt : c.slaves.getD i [] = t := by simp [List.getD_eq_getElem?_getD, ht]
    have l1 := (slv_mid hm i).1
    have l2 := getD_len hc.2.2 i
    rw [gx] at l1
    rw [gt] at l2
    have l3 := hsl i
    have es : slvLines x c (i + 1) = slvLines x c i ++ slvLine c i s := by rw [slvLines, gx]
    repeat (first | refine wa ?_ | refine wb rfl ?_ | refine wc rfl rfl hM ?_ | refine wd rfl hM ?_ | ((first | refine we rfl fun K hK => ?_ | refine wf rfl rfl fun K hK => ?_ | refine wg rfl rfl fun K hK => ?_ | refine wh rfl fun K hK => ?_); (simp only [lo, ld, ↓aop, ↓aCall, hP, hG, Nat.reduceLT, ↓reduceIte, Nat.reduceEqDiff, Nat.reduceAdd, Nat.reduceMul, Nat.reduceLeDiff, reduceCtorEq, D.cs, D.plain, fillD, chop, List.replicate, slvs, strs, choR, tk_3, ze_3, sz_3, tk_9, ze_9, sz_9, tk_46, ze_46, sz_46, kn_46, tk_43, ze_43, sz_43, tk_52, ze_52, sz_52, kn_52, tk_50, ze_50, sz_50, tk_73, ze_73, sz_73, kn_73, hb, hx, ht, hci]; repeat (with_reducible refine And.intro ?_ ?_; focus (first | decide | omega | (simp only [ln]; omega)))); try ((first | refine hK _ _ ?_ | refine hK _ ?_); clear hK K; simp only [lp])) | ((first | refine wi ?_ | refine wj ?_ | refine wk ?_ | refine wl ?_ | refine wm ?_ | refine wn ?_); simp only [lt, ↓reduceIte, Nat.reduceEqDiff]) | refine wo ?_)
    refine sat_cond rfl (fun hd => ?_) (fun hd => ?_)
    · have e2 : slvLine c i s = [115, 108, 97, 118, 101, 32] ++ (s.name ++ ([58, 32] ++ (t ++ [10]))) := by
        simp at hd
        simp only [slvLine, gt]; rw [if_neg (by simpa using hd)]
      repeat (first | refine wa ?_ | refine wb rfl ?_ | refine wc rfl rfl hM ?_ | refine wd rfl hM ?_ | ((first | refine we rfl fun K hK => ?_ | refine wf rfl rfl fun K hK => ?_ | refine wg rfl rfl fun K hK => ?_ | refine wh rfl fun K hK => ?_); (simp only [lo, ld, ↓aop, ↓aCall, hP, hG, Nat.reduceLT, ↓reduceIte, Nat.reduceEqDiff, Nat.reduceAdd, Nat.reduceMul, Nat.reduceLeDiff, reduceCtorEq, D.cs, D.plain, fillD, chop, List.replicate, slvs, strs, choR, tk_3, ze_3, sz_3, tk_9, ze_9, sz_9, tk_46, ze_46, sz_46, kn_46, tk_43, ze_43, sz_43, tk_52, ze_52, sz_52, kn_52, tk_50, ze_50, sz_50, tk_73, ze_73, sz_73, kn_73, hb, hx, ht, hci, hw]; repeat (with_reducible refine And.intro ?_ ?_; focus (first | decide | omega | (simp only [ln]; omega)))); try ((first | refine hK _ _ ?_ | refine hK _ ?_); clear hK K; simp only [lp])) | ((first | refine wi ?_ | refine wj ?_ | refine wk ?_ | refine wl ?_ | refine wm ?_ | refine wn ?_); simp only [lt, ↓reduceIte, Nat.reduceEqDiff]) | refine wo ?_)
      refine ⟨x.slaves.length - (i + 1), _, _, by omega, Ent.rnd hE ?_ rfl ?_ (ltObs_two (altB_lt _ _) (choR_lt _ _)), i + 1, rfl, by omega, rfl, rfl⟩
      · rw [es, e2]
        simp only [List.append_assoc, List.cons_append, List.nil_append]
        simp only [le, ↓reduceIte, Nat.reduceEqDiff, and_true]; repeat' (first | exact trivial | exact D.le_refl _ | exact D.le_any _ | with_reducible refine And.intro ?_ ?_)
      · simp [ltAll, ltObs, Ob.lt, D.lt, D.ltL, or_imp, forall_and]
    · have e2 : slvLine c i s = [] := by
        simp at hd
        simp only [slvLine, gt]; rw [if_pos (by simpa using hd)]
      repeat (first | refine wa ?_ | refine wb rfl ?_ | refine wc rfl rfl hM ?_ | refine wd rfl hM ?_ | ((first | refine we rfl fun K hK => ?_ | refine wf rfl rfl fun K hK => ?_ | refine wg rfl rfl fun K hK => ?_ | refine wh rfl fun K hK => ?_); (simp only [lo, ld, ↓aop, ↓aCall, hP, hG, Nat.reduceLT, ↓reduceIte, Nat.reduceEqDiff, Nat.reduceAdd, Nat.reduceMul, Nat.reduceLeDiff, reduceCtorEq, D.cs, D.plain, fillD, chop, List.replicate, slvs, strs, choR, tk_3, ze_3, sz_3, tk_9, ze_9, sz_9, tk_46, ze_46, sz_46, kn_46, tk_43, ze_43, sz_43, tk_52, ze_52, sz_52, kn_52, tk_50, ze_50, sz_50, tk_73, ze_73, sz_73, kn_73, hb, hx, ht, hci, hw]; repeat (with_reducible refine And.intro ?_ ?_; focus (first | decide | omega | (simp only [ln]; omega)))); try ((first | refine hK _ _ ?_ | refine hK _ ?_); clear hK K; simp only [lp])) | ((first | refine wi ?_ | refine wj ?_ | refine wk ?_ | refine wl ?_ | refine wm ?_ | refine wn ?_); simp only [lt, ↓reduceIte, Nat.reduceEqDiff]) | refine wo ?_)
      refine ⟨x.slaves.length - (i + 1), _, _, by omega, Ent.rnd hE ?_ rfl ?_ (ltObs_two (altB_lt _ _) (choR_lt _ _)), i + 1, rfl, by omega, rfl, rfl⟩
      · rw [es, e2, List.append_nil]
        simp only [le, ↓reduceIte, Nat.reduceEqDiff, and_true]; repeat' (first | exact trivial | exact D.le_refl _ | exact D.le_any _ | with_reducible refine And.intro ?_ ?_)
      · simp [ltAll, ltObs, Ob.lt, D.lt, D.ltL, or_imp, forall_and]
  · simp at hb
    obtain rfl : i = x.slaves.length := by omega
    repeat (first | refine wa ?_ | refine wb rfl ?_ | refine wc rfl rfl hM ?_ | refine wd rfl hM ?_ | ((first | refine we rfl fun K hK => ?_ | refine wf rfl rfl fun K hK => ?_ | refine wg rfl rfl fun K hK => ?_ | refine wh rfl fun K hK => ?_); (simp only [lo, ld, ↓aop, ↓aCall, hP, hG, Nat.reduceLT, ↓reduceIte, Nat.reduceEqDiff, Nat.reduceAdd, Nat.reduceMul, Nat.reduceLeDiff, reduceCtorEq, D.cs, D.plain, fillD, chop, List.replicate]; repeat (with_reducible refine And.intro ?_ ?_; focus (first | decide | omega | (simp only [ln]; omega)))); try ((first | refine hK _ _ ?_ | refine hK _ ?_); clear hK K; simp only [lp])) | ((first | refine wi ?_ | refine wj ?_ | refine wk ?_ | refine wl ?_ | refine wm ?_ | refine wn ?_); simp only [lt, ↓reduceIte, Nat.reduceEqDiff]) | refine wo ?_)
    exact Fin.gc _ hE (by decide) rfl trivial hK
end Go.Ag
/- AGo, plain laws: alternatives that may be. -/
namespace Go.Ag
open Go

theorem le_trans_s (a b c : Str) : a ≤ b → b ≤ c → a ≤ c := fun h1 h2 => List.le_trans h1 h2
theorem le_antisymm_s {a b : Str} (h1 : a ≤ b) (h2 : b ≤ a) : a = b := List.le_antisymm h1 h2
theorem sortS_sorted (l : List Str) : (sortS l).Pairwise (· ≤ ·) := by
  have := List.pairwise_mergeSort (le := fun x y : Str => decide (x ≤ y)) (fun a b c h1 h2 => by simp at *; exact le_trans_s a b c h1 h2) (fun a b => by simp; exact List.le_total a b) l
  exact this.imp (by simp)
theorem sortS_perm (l : List Str) : (sortS l).Perm l := List.mergeSort_perm _ _
theorem keeps_iff (zs : List Str) (j : Nat) : Lib.keeps zs.toArray j = true ↔ (j = 0 ∨ zs[j]! ≠ zs[j - 1]!) := by
  simp [Lib.keeps]
theorem compact_len_iff (zs : List Str) : (Lib.compact zs).length = zs.length ↔ ∀ j, j < zs.length → Lib.keeps zs.toArray j = true := by
  unfold Lib.compact Lib.compactUpTo
  rw [List.length_map]
  constructor
  · intro h j hj
    have h2 : ((List.range zs.length).filter (Lib.keeps zs.toArray)).length = (List.range zs.length).length := by rw [h]; simp
    rw [List.length_filter_eq_length_iff] at h2
    exact h2 j (List.mem_range.2 hj)
  · intro h
    rw [List.filter_eq_self.2 (fun j hj => h j (List.mem_range.1 hj))]; simp
theorem sortedS_nodup (l : List Str) : (sortedS l).length = l.length ↔ l.Nodup := by
  have hp := sortS_perm l
  have hs := sortS_sorted l
  rw [← hp.nodup_iff, ← sortS_len l, sortedS, compact_len_iff]
  generalize sortS l = zs at hs
  rw [List.pairwise_iff_getElem] at hs
  constructor
  · intro h
    rw [List.nodup_iff_pairwise_ne, List.pairwise_iff_getElem]
    intro i j hi hj hij e
    have h1 := (keeps_iff zs j).1 (h j hj)
    rcases h1 with h1 | h1
    · omega
    · apply h1
      rw [getElem!_pos zs j hj, getElem!_pos zs (j - 1) (by omega)]
      by_cases hij2 : i = j - 1
      · subst hij2; exact e.symm
      · have a1 : zs[i] ≤ zs[j - 1] := hs i (j - 1) hi (by omega) (by omega)
        have a2 : zs[j - 1] ≤ zs[j] := hs (j - 1) j (by omega) hj (by omega)
        rw [e] at a1
        exact le_antisymm_s a1 a2
  · intro h j hj
    rw [keeps_iff]
    by_cases h0 : j = 0
    · exact .inl h0
    · right
      rw [getElem!_pos zs j hj, getElem!_pos zs (j - 1) (by omega)]
      rw [List.nodup_iff_pairwise_ne, List.pairwise_iff_getElem] at h
      exact (h (j - 1) j (by omega) hj (by omega)).symm

/-! ### names that rise -/
theorem less_irrefl (a : Str) : Op.bytesLess a a = false := by
  rw [Go.Proofs.bytesLess_eq]; simp [List.lt_irrefl]
theorem less_trans {a b c : Str} (h1 : Op.bytesLess a b = true) (h2 : Op.bytesLess b c = true) : Op.bytesLess a c = true := by
  rw [Go.Proofs.bytesLess_eq] at *
  simp only [decide_eq_true_eq] at *
  exact List.lt_trans h1 h2
theorem rise_all {f : Nat → Str} {n : Nat} (h : ∀ i, i + 1 < n → Op.bytesLess (f i) (f (i + 1)) = true) : ∀ j i, i < j → j < n → Op.bytesLess (f i) (f j) = true := by
  intro j
  induction j with
  | zero => intro i hi; omega
  | succ j ih =>
    intro i hi hj
    by_cases e : i = j
    · subst e; exact h i hj
    · exact less_trans (ih i (by omega) (by omega)) (h j hj)
theorem any_take {l : List Str} {i : Nat} {a : Str} : (l.take i).any (· == a) = true ↔ ∃ j, j < i ∧ l[j]? = some a := by
  rw [List.any_eq_true]
  constructor
  · rintro ⟨x, hx, hxa⟩
    obtain ⟨j, hj⟩ := List.mem_iff_getElem?.1 hx
    have e : x = a := by simpa using hxa
    subst e
    rw [List.getElem?_take] at hj
    split at hj
    · exact ⟨j, by assumption, hj⟩
    · cases hj
  · rintro ⟨j, h1, h2⟩
    exact ⟨a, List.mem_of_getElem? (i := j) (by rw [List.getElem?_take_of_lt h1]; exact h2), by simp⟩
theorem nodup_iff_any {l : List Str} : l.Nodup ↔ ∀ i a, l[i]? = some a → (l.take i).any (· == a) = false := by
  rw [List.nodup_iff_pairwise_ne, List.pairwise_iff_getElem]
  constructor
  · intro h i a ha
    rw [Bool.eq_false_iff, ne_eq, any_take]
    rintro ⟨j, h1, h2⟩
    obtain ⟨hi, e1⟩ := List.getElem?_eq_some_iff.1 ha
    obtain ⟨hj, e2⟩ := List.getElem?_eq_some_iff.1 h2
    exact h j i hj hi h1 (e2.trans e1.symm)
  · intro h i j hi hj hij e
    have := h j l[j] (List.getElem?_eq_getElem hj)
    rw [Bool.eq_false_iff, ne_eq, any_take] at this
    exact this ⟨i, hij, by rw [← e]; exact List.getElem?_eq_getElem hi⟩

theorem lns_zero (x : Alt) : lnBad x 0 x.link x.name = (!placeB x.link || !nameOk x.name) := by
  have h : decide (((0 : Nat) : Int) > 1) = false := rfl
  simp only [lnBad, List.take_zero, List.any_nil, Bool.or_false, h, Bool.false_and]
theorem lns_succ {x : Alt} {i : Nat} {s : Slv} (hs : x.slaves[i]? = some s) :
    lnBad x (i + 1) s.link s.name = false ↔ (slvBad x i s = false ∧ ((links x).take (i + 1)).any (· == s.link) = false ∧ ((names x).take (i + 1)).any (· == s.name) = false) := by
  have hn : (names x).getD (i + 1 - 1) [] = if i = 0 then x.name else (x.slaves.getD (i - 1) slv0).name := by
    rw [Nat.add_sub_cancel]
    cases i with
    | zero => rfl
    | succ j =>
      have hj : j < x.slaves.length := by have := (List.getElem?_eq_some_iff.1 hs).1; omega
      simp [names, List.getD_eq_getElem?_getD, hj]
  have h0 : ((names x).take (i + 1)).any (· == s.name) = false → s.name ≠ x.name := by
    intro h e
    rw [Bool.eq_false_iff, ne_eq, any_take] at h
    exact h ⟨0, by omega, by rw [e]; rfl⟩
  unfold lnBad slvBad
  rw [hn]
  cases i with
  | zero =>
    have h1 : decide (((0 + 1 : Nat) : Int) > 1) = false := rfl
    have h2 : decide (((0 : Nat) : Int) > 0) = false := rfl
    rw [h1, h2]
    simp only [Bool.false_and, Bool.or_false, Bool.or_eq_false_iff, beq_eq_false_iff_ne, ne_eq]
    constructor
    · rintro ⟨⟨⟨a, b⟩, c⟩, d⟩
      exact ⟨⟨⟨c, a⟩, h0 d⟩, b, d⟩
    · rintro ⟨⟨⟨c, a⟩, e⟩, b, d⟩
      exact ⟨⟨⟨a, b⟩, c⟩, d⟩
  | succ j =>
    have h1 : decide (((j + 1 + 1 : Nat) : Int) > 1) = true := by simp; omega
    have h2 : decide (((j + 1 : Nat) : Int) > 0) = true := by simp
    rw [h1, h2]
    simp only [Bool.true_and, Bool.or_eq_false_iff, beq_eq_false_iff_ne, ne_eq, Nat.add_eq_zero_iff, Nat.succ_ne_self, and_false, if_false, Nat.succ_ne_zero]
    constructor
    · rintro ⟨⟨⟨⟨a, b⟩, c⟩, d⟩, f⟩
      exact ⟨⟨⟨⟨c, a⟩, h0 d⟩, f⟩, b, d⟩
    · rintro ⟨⟨⟨⟨c, a⟩, e⟩, f⟩, b, d⟩
      exact ⟨⟨⟨⟨a, b⟩, c⟩, d⟩, f⟩

theorem slvAll (x : Alt) : (List.range x.slaves.length).all (fun i => !slvBad x i (x.slaves.getD i slv0)) = true ↔ ∀ i s, x.slaves[i]? = some s → slvBad x i s = false := by
  simp only [List.all_eq_true, List.mem_range, Bool.not_eq_true']
  constructor
  · intro h i s hs
    have := h i (List.getElem?_eq_some_iff.1 hs).1
    rwa [List.getD_eq_getElem?_getD, hs] at this
  · intro h i hi
    rw [List.getD_eq_getElem?_getD, List.getElem?_eq_getElem hi]
    exact h i _ (List.getElem?_eq_getElem hi)
theorem lnsAll (x : Alt) : lnsOk x = true ↔ (placeB x.link = true ∧ nameOk x.name = true) ∧ ∀ i s, x.slaves[i]? = some s → lnBad x (i + 1) s.link s.name = false := by
  simp only [lnsOk, List.all_eq_true, List.mem_range, Bool.not_eq_true', links_len]
  constructor
  · intro h
    refine ⟨?_, fun i s hs => ?_⟩
    · have := h 0 (by omega)
      rw [show (links x).getD 0 [] = x.link from rfl, show (names x).getD 0 [] = x.name from rfl, lns_zero] at this
      simpa using this
    · have hi := (List.getElem?_eq_some_iff.1 hs).1
      have := h (i + 1) (by omega)
      rwa [show (links x).getD (i + 1) [] = s.link by simp [links, List.getD_eq_getElem?_getD, hs], show (names x).getD (i + 1) [] = s.name by simp [names, List.getD_eq_getElem?_getD, hs]] at this
  · rintro ⟨h1, h2⟩ i hi
    cases i with
    | zero =>
      rw [show (links x).getD 0 [] = x.link from rfl, show (names x).getD 0 [] = x.name from rfl, lns_zero]
      simp [h1.1, h1.2]
    | succ i =>
      have hs : x.slaves[i]? = some x.slaves[i] := List.getElem?_eq_getElem (by omega)
      rw [show (links x).getD (i + 1) [] = x.slaves[i].link by simp [links, List.getD_eq_getElem?_getD, hs], show (names x).getD (i + 1) [] = x.slaves[i].name by simp [names, List.getD_eq_getElem?_getD, hs]]
      exact h2 i _ hs
theorem lns_core (x : Alt) : lnsOk x = true ↔ nameOk x.name = true ∧ placeB x.link = true ∧ (∀ i s, x.slaves[i]? = some s → slvBad x i s = false) ∧ (links x).Nodup := by
  rw [lnsAll]
  constructor
  · rintro ⟨⟨h1, h2⟩, h3⟩
    refine ⟨h2, h1, fun i s hs => ((lns_succ hs).1 (h3 i s hs)).1, nodup_iff_any.2 fun i a ha => ?_⟩
    cases i with
    | zero => rfl
    | succ i =>
      obtain ⟨s, hs, rfl⟩ : ∃ s, x.slaves[i]? = some s ∧ s.link = a := by simpa [links] using ha
      exact ((lns_succ hs).1 (h3 i s hs)).2.1
  · rintro ⟨h2, h1, h3, h4⟩
    refine ⟨⟨h1, h2⟩, fun i s hs => (lns_succ hs).2 ⟨h3 i s hs, nodup_iff_any.1 h4 (i + 1) s.link (by simp [links, hs]), ?_⟩⟩
    have hi := (List.getElem?_eq_some_iff.1 hs).1
    have hbad : ∀ i s, x.slaves[i]? = some s → s.name ≠ x.name ∧ ∀ j p, i = j + 1 → x.slaves[j]? = some p → Op.bytesLess p.name s.name = true := by
      intro i s hs
      have := h3 i s hs
      simp only [slvBad, Bool.or_eq_false_iff, beq_eq_false_iff_ne, ne_eq] at this
      refine ⟨this.1.2, ?_⟩
      rintro j p rfl hp
      have h5 := this.2
      have h6 : decide (((j + 1 : Nat) : Int) > 0) = true := by simp
      rw [h6, Nat.add_sub_cancel, List.getD_eq_getElem?_getD, hp] at h5
      simpa using h5
    have hrise := rise_all (f := fun i => (x.slaves.getD i slv0).name) (n := x.slaves.length) (fun j hj => by
      have a1 : x.slaves[j]? = some x.slaves[j] := List.getElem?_eq_getElem (by omega)
      have a2 : x.slaves[j + 1]? = some x.slaves[j + 1] := List.getElem?_eq_getElem hj
      have := (hbad (j + 1) _ a2).2 j _ rfl a1
      simpa [List.getD_eq_getElem?_getD, a1, a2] using this)
    rw [Bool.eq_false_iff, ne_eq, any_take]
    rintro ⟨j, hj, he⟩
    cases j with
    | zero =>
      have : x.name = s.name := by simpa [names] using he
      exact (hbad i s hs).1 this.symm
    | succ j =>
      obtain ⟨p, hp, hpe⟩ : ∃ p, x.slaves[j]? = some p ∧ p.name = s.name := by simpa [names] using he
      have := hrise i j (by omega) hi
      simp only [List.getD_eq_getElem?_getD, hp, hs, Option.getD_some, hpe, less_irrefl] at this
      cases this
theorem right_law (x : Alt) : rightP x = rightR x := by
  rw [Bool.eq_iff_iff]
  have hc := lns_core x
  have hn := sortedS_nodup (links x)
  have hs := slvAll x
  simp only [rightP, rightR, Bool.and_eq_true, Bool.not_eq_true', beq_iff_eq]
  rw [hc, hn]
  have hsl : slavesOk x = true ↔ (∀ i s, x.slaves[i]? = some s → slvBad x i s = false) ∧ x.slaves.length ≤ 64 := by
    simp only [slavesOk, Bool.and_eq_true, hs, decide_eq_true_eq]
    constructor <;> rintro ⟨a, b⟩ <;> exact ⟨a, by omega⟩
  have hch : choicesOk x = true ↔ chInner x = true ∧ x.choices.length ≥ 1 ∧ x.choices.length ≤ 64 := by
    simp only [choicesOk, chInner, Bool.and_eq_true, decide_eq_true_eq]
    constructor <;> rintro ⟨a, b, c⟩ <;> exact ⟨a, by omega, by omega⟩
  have hmb : manyBad x = false ↔ x.slaves.length ≤ 64 ∧ x.choices.length ≥ 1 ∧ x.choices.length ≤ 64 := by
    simp only [manyBad, Bool.or_eq_false_iff, decide_eq_false_iff_not]
    constructor
    · rintro ⟨⟨a, b⟩, c⟩; exact ⟨by omega, by omega, by omega⟩
    · rintro ⟨a, b, c⟩; exact ⟨⟨by omega, by omega⟩, by omega⟩
  rw [hsl, hch, hmb]
  constructor
  · rintro ⟨⟨⟨⟨⟨a, b⟩, c, d⟩, e, f, g⟩, h⟩, i⟩
    exact ⟨⟨⟨⟨d, f, g⟩, a, b, c, h⟩, e⟩, i⟩
  · rintro ⟨⟨⟨⟨d, f, g⟩, a, b, c, h⟩, e⟩, i⟩
    exact ⟨⟨⟨⟨⟨a, b⟩, c, d⟩, e, f, g⟩, h⟩, i⟩
end Go.Ag
