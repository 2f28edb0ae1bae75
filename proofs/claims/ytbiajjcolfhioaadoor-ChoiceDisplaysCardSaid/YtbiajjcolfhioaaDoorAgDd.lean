import Derived.Test.YtbiajjcolfhioaaDoorAgDc
set_option linter.all false
namespace Go.Ag
open Go Go.Proofs
variable {G : Nat → Option (List V)}
attribute [local irreducible] aops qops Sat aop

def okE (b : Bool) : Int := if b then 0 else 2

set_option maxHeartbeats 4000000 in
theorem spec_Lines (s : Str) (m : Int) (hs : s.length < 4294967281) (hG0 : G 0 = some [.int .i64 m]) (H : List Ob)
    (K : D → List Ob → Prop) (hK : K (.tup [.v (strs ((linesP s).getD [])), .v (.int .i64 (okE (linesP s).isSome))]) H) : ACalls Tryd.prog G 30 [.v (.str s)] H K := by
  refine ACalls.go Tryd.f30 _ 15 [2, 3] Tryd.func30 rfl Tryd.ntmps30 (by kernel_rfl) rfl (by simp) (fun E hE hP hG hH => ?_)
  have hM : E.P.follows .mixedOrders = true := hP ▸ mixed
  subst hH
  simp only [args0]
  repeat (first | refine wa ?_ | refine wb rfl ?_ | refine wc rfl rfl hM ?_ | refine wd rfl hM ?_ | ((first | refine we rfl fun K hK => ?_ | refine wf rfl rfl fun K hK => ?_ | refine wg rfl rfl fun K hK => ?_ | refine wh rfl fun K hK => ?_); (simp only [lo, ld, ↓aop, ↓aCall, hP, hG, Nat.reduceLT, ↓reduceIte, Nat.reduceEqDiff, Nat.reduceAdd, Nat.reduceMul, Nat.reduceLeDiff, reduceCtorEq, D.cs, D.plain, fillD, chop, List.replicate, tk_3, ze_3, sz_3, tk_9, ze_9, sz_9, tk_24, ze_24, sz_24, tk_50, ze_50, sz_50]; repeat (with_reducible refine And.intro ?_ ?_; focus (first | decide | omega | (simp only [ln]; omega)))); try ((first | refine hK _ _ ?_ | refine hK _ ?_); clear hK K; simp only [lp])) | ((first | refine wi ?_ | refine wj ?_ | refine wk ?_ | refine wl ?_ | refine wm ?_ | refine wn ?_); simp only [lt, ↓reduceIte, Nat.reduceEqDiff]) | refine wo ?_)
  refine sat_cond rfl (fun hb => ?_) (fun hb => ?_)
  · repeat (first | refine wa ?_ | refine wb rfl ?_ | refine wc rfl rfl hM ?_ | refine wd rfl hM ?_ | ((first | refine we rfl fun K hK => ?_ | refine wf rfl rfl fun K hK => ?_ | refine wg rfl rfl fun K hK => ?_ | refine wh rfl fun K hK => ?_); (simp only [lo, ld, ↓aop, ↓aCall, hP, hG, Nat.reduceLT, ↓reduceIte, Nat.reduceEqDiff, Nat.reduceAdd, Nat.reduceMul, Nat.reduceLeDiff, reduceCtorEq, D.cs, D.plain, fillD, chop, List.replicate, tk_9, ze_9, sz_9, tk_24, ze_24, sz_24, tk_50, ze_50, sz_50]; repeat (with_reducible refine And.intro ?_ ?_; focus (first | decide | omega | (simp only [ln]; omega)))); try ((first | refine hK _ _ ?_ | refine hK _ ?_); clear hK K; simp only [lp])) | ((first | refine wi ?_ | refine wj ?_ | refine wk ?_ | refine wl ?_ | refine wm ?_ | refine wn ?_); simp only [lt, ↓reduceIte, Nat.reduceEqDiff]) | refine wo ?_)
    refine Fin.le2 _ _ (by decide) (by decide) (by decide) (D.le_nils 1) (D.le_refl _) ?_
    have : linesP s = some [] := by simp only [linesP, hb, if_true]
    rwa [this] at hK
  repeat (first | refine wa ?_ | refine wb rfl ?_ | refine wc rfl rfl hM ?_ | refine wd rfl hM ?_ | ((first | refine we rfl fun K hK => ?_ | refine wf rfl rfl fun K hK => ?_ | refine wg rfl rfl fun K hK => ?_ | refine wh rfl fun K hK => ?_); (simp only [lo, ld, ↓aop, ↓aCall, hP, hG, Nat.reduceLT, ↓reduceIte, Nat.reduceEqDiff, Nat.reduceAdd, Nat.reduceMul, Nat.reduceLeDiff, reduceCtorEq, D.cs, D.plain, fillD, chop, List.replicate, tk_3, ze_3, sz_3, tk_9, ze_9, sz_9, tk_24, ze_24, sz_24, tk_50, ze_50, sz_50]; repeat (with_reducible refine And.intro ?_ ?_; focus (first | decide | omega | (simp only [ln]; omega)))); try ((first | refine hK _ _ ?_ | refine hK _ ?_); clear hK K; simp only [lp])) | ((first | refine wi ?_ | refine wj ?_ | refine wk ?_ | refine wl ?_ | refine wm ?_ | refine wn ?_); simp only [lt, ↓reduceIte, Nat.reduceEqDiff]) | refine wo ?_)
  refine spec_HasSuffix _ _ (by omega) _ _ (hK _ _ ?_)
  clear hK K; simp only [lp]
  repeat (first | refine wa ?_ | refine wb rfl ?_ | refine wc rfl rfl hM ?_ | refine wd rfl hM ?_ | ((first | refine we rfl fun K hK => ?_ | refine wf rfl rfl fun K hK => ?_ | refine wg rfl rfl fun K hK => ?_ | refine wh rfl fun K hK => ?_); (simp only [lo, ld, ↓aop, ↓aCall, hP, hG, Nat.reduceLT, ↓reduceIte, Nat.reduceEqDiff, Nat.reduceAdd, Nat.reduceMul, Nat.reduceLeDiff, reduceCtorEq, D.cs, D.plain, fillD, chop, List.replicate, tk_3, ze_3, sz_3, tk_9, ze_9, sz_9, tk_24, ze_24, sz_24, tk_50, ze_50, sz_50]; repeat (with_reducible refine And.intro ?_ ?_; focus (first | decide | omega | (simp only [ln]; omega)))); try ((first | refine hK _ _ ?_ | refine hK _ ?_); clear hK K; simp only [lp])) | ((first | refine wi ?_ | refine wj ?_ | refine wk ?_ | refine wl ?_ | refine wm ?_ | refine wn ?_); simp only [lt, ↓reduceIte, Nat.reduceEqDiff]) | refine wo ?_)
  refine sat_cond rfl (fun hc => ?_) (fun hc => ?_)
  · repeat (first | refine wa ?_ | refine wb rfl ?_ | refine wc rfl rfl hM ?_ | refine wd rfl hM ?_ | ((first | refine we rfl fun K hK => ?_ | refine wf rfl rfl fun K hK => ?_ | refine wg rfl rfl fun K hK => ?_ | refine wh rfl fun K hK => ?_); (simp only [lo, ld, ↓aop, ↓aCall, hP, hG, Nat.reduceLT, ↓reduceIte, Nat.reduceEqDiff, Nat.reduceAdd, Nat.reduceMul, Nat.reduceLeDiff, reduceCtorEq, D.cs, D.plain, fillD, chop, List.replicate, tk_9, ze_9, sz_9, tk_24, ze_24, sz_24, tk_50, ze_50, sz_50]; repeat (with_reducible refine And.intro ?_ ?_; focus (first | decide | omega | (simp only [ln]; omega)))); try ((first | refine hK _ _ ?_ | refine hK _ ?_); clear hK K; simp only [lp])) | ((first | refine wi ?_ | refine wj ?_ | refine wk ?_ | refine wl ?_ | refine wm ?_ | refine wn ?_); simp only [lt, ↓reduceIte, Nat.reduceEqDiff]) | refine wo ?_)
    refine Fin.le2 _ _ (by decide) (by decide) (by decide) (D.le_nils 1) (D.le_refl _) ?_
    have : linesP s = none := by simp only [linesP, hb, hc, if_true, Bool.false_eq_true, if_false]
    rwa [this] at hK
  have hne : 1 ≤ s.length := by
    rcases s with _ | ⟨a, s⟩
    · simp at hb
    · simp
  have hw : IntKind.i64.wrap ((s.length : Int) - 1) = ((s.length - 1 : Nat) : Int) := by rw [IntKind.wrap_i64]; omega
  have hle : s.length - 1 ≤ s.length := by omega
  repeat (first | refine wa ?_ | refine wb rfl ?_ | refine wc rfl rfl hM ?_ | refine wd rfl hM ?_ | ((first | refine we rfl fun K hK => ?_ | refine wf rfl rfl fun K hK => ?_ | refine wg rfl rfl fun K hK => ?_ | refine wh rfl fun K hK => ?_); (simp only [lo, ld, ↓aop, ↓aCall, hP, hG, Nat.reduceLT, ↓reduceIte, Nat.reduceEqDiff, Nat.reduceAdd, Nat.reduceMul, Nat.reduceLeDiff, reduceCtorEq, D.cs, D.plain, fillD, chop, List.replicate, tk_3, ze_3, sz_3, tk_9, ze_9, sz_9, tk_24, ze_24, sz_24, tk_50, ze_50, sz_50, hw]; repeat (with_reducible refine And.intro ?_ ?_; focus (first | decide | omega | (simp only [ln]; omega)))); try ((first | refine hK _ _ ?_ | refine hK _ ?_); clear hK K; simp only [lp])) | ((first | refine wi ?_ | refine wj ?_ | refine wk ?_ | refine wl ?_ | refine wm ?_ | refine wn ?_); simp only [lt, ↓reduceIte, Nat.reduceEqDiff]) | refine wo ?_)
  refine spec_Split _ 10 m hG0 (by simp; omega) _ _ (hK _ _ ?_)
  clear hK K; simp only [lp]
  repeat (first | refine wa ?_ | refine wb rfl ?_ | refine wc rfl rfl hM ?_ | refine wd rfl hM ?_ | ((first | refine we rfl fun K hK => ?_ | refine wf rfl rfl fun K hK => ?_ | refine wg rfl rfl fun K hK => ?_ | refine wh rfl fun K hK => ?_); (simp only [lo, ld, ↓aop, ↓aCall, hP, hG, Nat.reduceLT, ↓reduceIte, Nat.reduceEqDiff, Nat.reduceAdd, Nat.reduceMul, Nat.reduceLeDiff, reduceCtorEq, D.cs, D.plain, fillD, chop, List.replicate, tk_3, ze_3, sz_3, tk_9, ze_9, sz_9, tk_24, ze_24, sz_24, tk_50, ze_50, sz_50]; repeat (with_reducible refine And.intro ?_ ?_; focus (first | decide | omega | (simp only [ln]; omega)))); try ((first | refine hK _ _ ?_ | refine hK _ ?_); clear hK K; simp only [lp])) | ((first | refine wi ?_ | refine wj ?_ | refine wk ?_ | refine wl ?_ | refine wm ?_ | refine wn ?_); simp only [lt, ↓reduceIte, Nat.reduceEqDiff]) | refine wo ?_)
  refine Fin.is2 _ _ (by decide) (by decide) rfl rfl ?_
  have : linesP s = some (splitC 10 (s.take (s.length - 1))) := by simp only [linesP, hb, hc, Bool.false_eq_true, if_false]
  rw [this] at hK
  exact hK

set_option maxHeartbeats 8000000 in
theorem spec_Parse (s : Str) (m : Int) (hs : s.length < 4294967281) (hG0 : G 0 = some [.int .i64 m]) (H : List Ob)
    (K : D → List Ob → Prop) (hK : K (.tup [.v (sels ((parseP selOk s).getD [])), .v (.int .i64 (okE (parseP selOk s).isSome))]) H) : ACalls Tryd.prog G 9 [.v (.str s)] H K := by
  refine ACalls.go Tryd.f9 _ 65 [2, 3] Tryd.func9 rfl Tryd.ntmps9 (by kernel_rfl) rfl (by simp) (fun E hE hP hG hH => ?_)
  have hM : E.P.follows .mixedOrders = true := hP ▸ mixed
  subst hH
  simp only [args0]
  repeat (first | refine wa ?_ | refine wb rfl ?_ | refine wc rfl rfl hM ?_ | refine wd rfl hM ?_ | ((first | refine we rfl fun K hK => ?_ | refine wf rfl rfl fun K hK => ?_ | refine wg rfl rfl fun K hK => ?_ | refine wh rfl fun K hK => ?_); (simp only [lo, ld, ↓aop, ↓aCall, hP, hG, Nat.reduceLT, ↓reduceIte, Nat.reduceEqDiff, Nat.reduceAdd, Nat.reduceMul, Nat.reduceLeDiff, reduceCtorEq, D.cs, D.plain, fillD, chop, List.replicate, tk_3, ze_3, sz_3, tk_9, ze_9, sz_9, tk_24, ze_24, sz_24, tk_50, ze_50, sz_50, tk_23, ze_23, sz_23]; repeat (with_reducible refine And.intro ?_ ?_; focus (first | decide | omega | (simp only [ln]; omega)))); try ((first | refine hK _ _ ?_ | refine hK _ ?_); clear hK K; simp only [lp])) | ((first | refine wi ?_ | refine wj ?_ | refine wk ?_ | refine wl ?_ | refine wm ?_ | refine wn ?_); simp only [lt, ↓reduceIte, Nat.reduceEqDiff]) | refine wo ?_)
  refine spec_Lines s m hs hG0 _ _ (hK _ _ ?_)
  clear hK K; simp only [lp]
  rcases hl : linesP s with _ | ls
  · simp only [Option.getD_none, Option.isSome_none, okE, Bool.false_eq_true, if_false]
    repeat (first | refine wa ?_ | refine wb rfl ?_ | refine wc rfl rfl hM ?_ | refine wd rfl hM ?_ | ((first | refine we rfl fun K hK => ?_ | refine wf rfl rfl fun K hK => ?_ | refine wg rfl rfl fun K hK => ?_ | refine wh rfl fun K hK => ?_); (simp only [lo, ld, ↓aop, ↓aCall, hP, hG, Nat.reduceLT, ↓reduceIte, Nat.reduceEqDiff, Nat.reduceAdd, Nat.reduceMul, Nat.reduceLeDiff, reduceCtorEq, D.cs, D.plain, fillD, chop, List.replicate, tk_3, ze_3, sz_3, tk_9, ze_9, sz_9, tk_24, ze_24, sz_24, tk_50, ze_50, sz_50, tk_23, ze_23, sz_23]; repeat (with_reducible refine And.intro ?_ ?_; focus (first | decide | omega | (simp only [ln]; omega)))); try ((first | refine hK _ _ ?_ | refine hK _ ?_); clear hK K; simp only [lp])) | ((first | refine wi ?_ | refine wj ?_ | refine wk ?_ | refine wl ?_ | refine wm ?_ | refine wn ?_); simp only [lt, ↓reduceIte, Nat.reduceEqDiff]) | refine wo ?_)
    refine sat_cond rfl (fun hb => ?_) (fun hb => ?_)
    · repeat (first | refine wa ?_ | refine wb rfl ?_ | refine wc rfl rfl hM ?_ | refine wd rfl hM ?_ | ((first | refine we rfl fun K hK => ?_ | refine wf rfl rfl fun K hK => ?_ | refine wg rfl rfl fun K hK => ?_ | refine wh rfl fun K hK => ?_); (simp only [lo, ld, ↓aop, ↓aCall, hP, hG, Nat.reduceLT, ↓reduceIte, Nat.reduceEqDiff, Nat.reduceAdd, Nat.reduceMul, Nat.reduceLeDiff, reduceCtorEq, D.cs, D.plain, fillD, chop, List.replicate, tk_9, ze_9, sz_9, tk_24, ze_24, sz_24, tk_50, ze_50, sz_50, tk_23, ze_23, sz_23]; repeat (with_reducible refine And.intro ?_ ?_; focus (first | decide | omega | (simp only [ln]; omega)))); try ((first | refine hK _ _ ?_ | refine hK _ ?_); clear hK K; simp only [lp])) | ((first | refine wi ?_ | refine wj ?_ | refine wk ?_ | refine wl ?_ | refine wm ?_ | refine wn ?_); simp only [lt, ↓reduceIte, Nat.reduceEqDiff]) | refine wo ?_)
      refine Fin.le2 _ _ (by decide) (by decide) (by decide) (D.le_nils 3) (D.le_refl _) ?_
      have : parseP selOk s = none := by simp only [parseP, hl]
      rwa [this] at hK
    · exact absurd hb (by decide)
  obtain ⟨hll, hln⟩ := lines_mem hl
  simp only [Option.getD_some, Option.isSome_some, okE, if_true]
  repeat (first | refine wa ?_ | refine wb rfl ?_ | refine wc rfl rfl hM ?_ | refine wd rfl hM ?_ | ((first | refine we rfl fun K hK => ?_ | refine wf rfl rfl fun K hK => ?_ | refine wg rfl rfl fun K hK => ?_ | refine wh rfl fun K hK => ?_); (simp only [lo, ld, ↓aop, ↓aCall, hP, hG, Nat.reduceLT, ↓reduceIte, Nat.reduceEqDiff, Nat.reduceAdd, Nat.reduceMul, Nat.reduceLeDiff, reduceCtorEq, D.cs, D.plain, fillD, chop, List.replicate, tk_3, ze_3, sz_3, tk_9, ze_9, sz_9, tk_24, ze_24, sz_24, tk_50, ze_50, sz_50, tk_23, ze_23, sz_23]; repeat (with_reducible refine And.intro ?_ ?_; focus (first | decide | omega | (simp only [ln]; omega)))); try ((first | refine hK _ _ ?_ | refine hK _ ?_); clear hK K; simp only [lp])) | ((first | refine wi ?_ | refine wj ?_ | refine wk ?_ | refine wl ?_ | refine wm ?_ | refine wn ?_); simp only [lt, ↓reduceIte, Nat.reduceEqDiff]) | refine wo ?_)
  refine sat_cond rfl (fun hb => ?_) (fun hb => ?_)
  · exact absurd hb (by decide)
  clear hb
  repeat (first | refine wa ?_ | refine wb rfl ?_ | refine wc rfl rfl hM ?_ | refine wd rfl hM ?_ | ((first | refine we rfl fun K hK => ?_ | refine wf rfl rfl fun K hK => ?_ | refine wg rfl rfl fun K hK => ?_ | refine wh rfl fun K hK => ?_); (simp only [lo, ld, ↓aop, ↓aCall, hP, hG, Nat.reduceLT, ↓reduceIte, Nat.reduceEqDiff, Nat.reduceAdd, Nat.reduceMul, Nat.reduceLeDiff, reduceCtorEq, D.cs, D.plain, fillD, chop, List.replicate, strs, tk_3, ze_3, sz_3, tk_9, ze_9, sz_9, tk_24, ze_24, sz_24, tk_50, ze_50, sz_50, tk_23, ze_23, sz_23]; repeat (with_reducible refine And.intro ?_ ?_; focus (first | decide | omega | (simp only [ln]; omega)))); try ((first | refine hK _ _ ?_ | refine hK _ ?_); clear hK K; simp only [lp])) | ((first | refine wi ?_ | refine wj ?_ | refine wk ?_ | refine wl ?_ | refine wm ?_ | refine wn ?_); simp only [lt, ↓reduceIte, Nat.reduceEqDiff]) | refine wo ?_)
  refine sat_loop_ent (fun n ts H => ∃ (i : Nat) (out : List Sel) (d : D) (L : List Ob), n = ls.length - i ∧ i ≤ ls.length ∧ (ls.take i).mapM selP = some out ∧ Acs E 1 3 (out.map selV) d L ∧
    ts = fr 65 [(22, .v (.int .i64 i)), (21, .v (.int .i64 ls.length)), (20, .v (strs ls)), (6, d), (3, .v (.int .i64 0)), (2, .nils)] ∧ H = E.H0 ++ L) (ls.length) (.weakFr ?_) ⟨0, [], _, [], rfl, Nat.zero_le _, rfl, Acs.start 1 3, rfl, (List.append_nil _).symm⟩ ?_
  · simp only [le, ↓reduceIte, Nat.reduceEqDiff, and_true]; repeat' (first | exact trivial | exact D.le_refl _ | exact D.le_any _ | with_reducible refine And.intro ?_ ?_)
  rintro n ts H ⟨i, out, d, L, rfl, hi, hout, hA, rfl, rfl⟩
  repeat (first | refine wa ?_ | refine wb rfl ?_ | refine wc rfl rfl hM ?_ | refine wd rfl hM ?_ | ((first | refine we rfl fun K hK => ?_ | refine wf rfl rfl fun K hK => ?_ | refine wg rfl rfl fun K hK => ?_ | refine wh rfl fun K hK => ?_); (simp only [lo, ld, ↓aop, ↓aCall, hP, hG, Nat.reduceLT, ↓reduceIte, Nat.reduceEqDiff, Nat.reduceAdd, Nat.reduceMul, Nat.reduceLeDiff, reduceCtorEq, D.cs, D.plain, fillD, chop, List.replicate, strs, tk_3, ze_3, sz_3, tk_9, ze_9, sz_9, tk_50, ze_50, sz_50]; repeat (with_reducible refine And.intro ?_ ?_; focus (first | decide | omega | (simp only [ln]; omega)))); try ((first | refine hK _ _ ?_ | refine hK _ ?_); clear hK K; simp only [lp])) | ((first | refine wi ?_ | refine wj ?_ | refine wk ?_ | refine wl ?_ | refine wm ?_ | refine wn ?_); simp only [lt, ↓reduceIte, Nat.reduceEqDiff]) | refine wo ?_)
  refine sat_cond rfl (fun hc => ?_) (fun hc => ?_)
  · simp at hc
    obtain ⟨x, hx⟩ : ∃ x, ls[i]? = some x := ⟨_, List.getElem?_eq_getElem hc⟩
    have hw := wrap_succ (i := i) (by omega)
    have hxl := hll x (List.mem_of_getElem? hx)
    have hxs := mapM_take hx hout
    have hlen : out.length = i := by have := mapM_len hout; simpa [Nat.min_eq_left hi] using this
    repeat (first | refine wa ?_ | refine wb rfl ?_ | refine wc rfl rfl hM ?_ | refine wd rfl hM ?_ | ((first | refine we rfl fun K hK => ?_ | refine wf rfl rfl fun K hK => ?_ | refine wg rfl rfl fun K hK => ?_ | refine wh rfl fun K hK => ?_); (simp only [lo, ld, ↓aop, ↓aCall, hP, hG, Nat.reduceLT, ↓reduceIte, Nat.reduceEqDiff, Nat.reduceAdd, Nat.reduceMul, Nat.reduceLeDiff, reduceCtorEq, D.cs, D.plain, fillD, chop, List.replicate, strs, tk_3, ze_3, sz_3, tk_9, ze_9, sz_9, tk_50, ze_50, sz_50, hc, hx]; repeat (with_reducible refine And.intro ?_ ?_; focus (first | decide | omega | (simp only [ln]; omega)))); try ((first | refine hK _ _ ?_ | refine hK _ ?_); clear hK K; simp only [lp])) | ((first | refine wi ?_ | refine wj ?_ | refine wk ?_ | refine wl ?_ | refine wm ?_ | refine wn ?_); simp only [lt, ↓reduceIte, Nat.reduceEqDiff]) | refine wo ?_)
    refine spec_Split x 32 m hG0 (by omega) _ _ (hK _ _ ?_)
    clear hK K; simp only [lp]
    repeat (first | refine wa ?_ | refine wb rfl ?_ | refine wc rfl rfl hM ?_ | refine wd rfl hM ?_ | ((first | refine we rfl fun K hK => ?_ | refine wf rfl rfl fun K hK => ?_ | refine wg rfl rfl fun K hK => ?_ | refine wh rfl fun K hK => ?_); (simp only [lo, ld, ↓aop, ↓aCall, hP, hG, Nat.reduceLT, ↓reduceIte, Nat.reduceEqDiff, Nat.reduceAdd, Nat.reduceMul, Nat.reduceLeDiff, reduceCtorEq, D.cs, D.plain, fillD, chop, List.replicate, strs, tk_3, ze_3, sz_3, tk_9, ze_9, sz_9, tk_50, ze_50, sz_50]; repeat (with_reducible refine And.intro ?_ ?_; focus (first | decide | omega | (simp only [ln]; omega)))); try ((first | refine hK _ _ ?_ | refine hK _ ?_); clear hK K; simp only [lp])) | ((first | refine wi ?_ | refine wj ?_ | refine wk ?_ | refine wl ?_ | refine wm ?_ | refine wn ?_); simp only [lt, ↓reduceIte, Nat.reduceEqDiff]) | refine wo ?_)
    by_cases h3 : (splitC 32 x).length = 3
    · obtain ⟨a, b, c, habc⟩ := len3 h3
      have g3 : (((splitC 32 x).length : Int) == 3) = true := by rw [h3]; rfl
      have g0 : (splitC 32 x)[0]? = some a := by rw [habc]; rfl
      have g1 : (splitC 32 x)[1]? = some b := by rw [habc]; rfl
      have g2 : (splitC 32 x)[2]? = some c := by rw [habc]; rfl
      refine sat_thru (fr 65 [(41, .v (.bool (!(b == modeW (b == wManual))))), (9, .v (strs (splitC 32 x))), (22, .v (.int .i64 i)), (21, .v (.int .i64 ls.length)), (20, .v (strs ls)), (6, d), (3, .v (.int .i64 0)), (2, .nils)]) (E.H0 ++ L) ?_ ?_
      · (first | refine wr ?_ | refine wp rfl hM ?_ | refine wq hM ?_); repeat' (first | ((first | refine wx ?_ | refine wy ?_ | refine wz ?_); (simp only [lo, ld, ↓aop, ↓aCall, hP, hG, Nat.reduceLT, ↓reduceIte, Nat.reduceEqDiff, Nat.reduceAdd, Nat.reduceMul, Nat.reduceLeDiff, reduceCtorEq, D.cs, D.plain, fillD, chop, List.replicate, strs, tk_3, ze_3, sz_3, tk_4, ze_4, sz_4, tk_9, ze_9, sz_9, tk_50, ze_50, sz_50, g3, g0, g1, g2, Int.reduceToNat]; repeat (with_reducible refine And.intro ?_ ?_; focus (first | decide | omega | (simp only [ln]; omega)))); try ((first | refine hK _ _ ?_ | refine hK _ ?_); clear hK K; simp only [lp])) | refine we rfl fun K hK => ?_ | refine wf rfl rfl fun K hK => ?_ | refine wg rfl rfl fun K hK => ?_ | refine wh rfl fun K hK => ?_ | ((first | refine Xg rfl rfl (by decide) ?_ fun K hK => ?_ | refine Yg rfl rfl (by decide) ?_ fun K hK => ?_ | refine Zg rfl rfl rfl (by decide) ?_ fun K hK => ?_); (focus (simp only [look_cons, ↓reduceIte, Nat.reduceEqDiff, Bool.not_true, Bool.not_false]; done))) | ((first | refine Xn rfl rfl (by decide) ?_ ?_ | refine Yn rfl rfl (by decide) ?_ ?_ | refine Zn rfl rfl rfl (by decide) ?_ ?_); (focus (simp only [look_cons, ↓reduceIte, Nat.reduceEqDiff, Bool.not_true, Bool.not_false]; done)); simp only [lp]) | ((first | refine Xo rfl rfl (by decide) ?_ ?_ | refine Yo rfl rfl (by decide) ?_ ?_ | refine Zo rfl rfl rfl (by decide) ?_ ?_); (focus (simp only [look_cons, ↓reduceIte, Nat.reduceEqDiff, Bool.not_true, Bool.not_false]; done)); simp only [lp]) | ((first | refine Xs rfl rfl (by decide) rfl (fun h K hK => ?_) fun h => ?_ | refine Ys rfl rfl (by decide) rfl (fun h K hK => ?_) fun h => ?_ | refine Zs rfl rfl rfl (by decide) rfl (fun h K hK => ?_) fun h => ?_); rotate_left; (focus (simp only [Bool.not_true, Bool.not_false, lp])); rotate_left) | ((first | refine wi ?_ | refine wj ?_ | refine wk ?_); simp only [lt, ↓reduceIte, Nat.reduceEqDiff]))
        refine ⟨_, spec_modeW _ _ _ ⟨rfl, rfl⟩, hK _ ?_⟩
        clear hK K; simp only [lp]
        repeat' (first | ((first | refine wx ?_ | refine wy ?_ | refine wz ?_); (simp only [lo, ld, ↓aop, ↓aCall, hP, hG, Nat.reduceLT, ↓reduceIte, Nat.reduceEqDiff, Nat.reduceAdd, Nat.reduceMul, Nat.reduceLeDiff, reduceCtorEq, D.cs, D.plain, fillD, chop, List.replicate, strs, tk_3, ze_3, sz_3, tk_4, ze_4, sz_4, tk_9, ze_9, sz_9, tk_50, ze_50, sz_50, g3, g0, g1, g2, Int.reduceToNat]; repeat (with_reducible refine And.intro ?_ ?_; focus (first | decide | omega | (simp only [ln]; omega)))); try ((first | refine hK _ _ ?_ | refine hK _ ?_); clear hK K; simp only [lp])) | refine we rfl fun K hK => ?_ | refine wf rfl rfl fun K hK => ?_ | refine wg rfl rfl fun K hK => ?_ | refine wh rfl fun K hK => ?_ | ((first | refine Xg rfl rfl (by decide) ?_ fun K hK => ?_ | refine Yg rfl rfl (by decide) ?_ fun K hK => ?_ | refine Zg rfl rfl rfl (by decide) ?_ fun K hK => ?_); (focus (simp only [look_cons, ↓reduceIte, Nat.reduceEqDiff, Bool.not_true, Bool.not_false]; done))) | ((first | refine Xn rfl rfl (by decide) ?_ ?_ | refine Yn rfl rfl (by decide) ?_ ?_ | refine Zn rfl rfl rfl (by decide) ?_ ?_); (focus (simp only [look_cons, ↓reduceIte, Nat.reduceEqDiff, Bool.not_true, Bool.not_false]; done)); simp only [lp]) | ((first | refine Xo rfl rfl (by decide) ?_ ?_ | refine Yo rfl rfl (by decide) ?_ ?_ | refine Zo rfl rfl rfl (by decide) ?_ ?_); (focus (simp only [look_cons, ↓reduceIte, Nat.reduceEqDiff, Bool.not_true, Bool.not_false]; done)); simp only [lp]) | ((first | refine Xs rfl rfl (by decide) rfl (fun h K hK => ?_) fun h => ?_ | refine Ys rfl rfl (by decide) rfl (fun h K hK => ?_) fun h => ?_ | refine Zs rfl rfl rfl (by decide) rfl (fun h K hK => ?_) fun h => ?_); rotate_left; (focus (simp only [Bool.not_true, Bool.not_false, lp])); rotate_left) | ((first | refine wi ?_ | refine wj ?_ | refine wk ?_); simp only [lt, ↓reduceIte, Nat.reduceEqDiff]))
        refine .weakFr ?_
        simp only [le, ↓reduceIte, Nat.reduceEqDiff, and_true]; repeat' (first | exact trivial | exact D.le_refl _ | exact D.le_any _ | with_reducible refine And.intro ?_ ?_)
        all_goals refine D.le_eq (congrArg D.v (congrArg V.bool ?_)); (try simp only [Bool.not_eq_eq_eq_not, Bool.not_true, Bool.not_false] at *); simp only [*, List.getD_eq_getElem?_getD, Bool.and_true, Bool.true_and, Bool.and_false, Bool.false_and, Bool.or_true, Bool.true_or, Bool.or_false, Bool.false_or, Bool.not_true, Bool.not_false, Bool.not_not, wManual]
      have g4 : ((splitC 32 x).length == 3) = true := by rw [h3]; rfl
      have e0 : selP x = if !(b == modeW (b == wManual)) then none else some (a, b == wManual, c) := by
        simp only [selP, g4, List.getD_eq_getElem?_getD, g0, g1, g2, Option.getD_some, Bool.not_true, Bool.false_or]
      refine sat_cond rfl (fun hb => ?_) (fun hb => ?_)
      · repeat (first | refine wa ?_ | refine wb rfl ?_ | refine wc rfl rfl hM ?_ | refine wd rfl hM ?_ | ((first | refine we rfl fun K hK => ?_ | refine wf rfl rfl fun K hK => ?_ | refine wg rfl rfl fun K hK => ?_ | refine wh rfl fun K hK => ?_); (simp only [lo, ld, ↓aop, ↓aCall, hP, hG, Nat.reduceLT, ↓reduceIte, Nat.reduceEqDiff, Nat.reduceAdd, Nat.reduceMul, Nat.reduceLeDiff, reduceCtorEq, D.cs, D.plain, fillD, chop, List.replicate, tk_9, ze_9, sz_9, tk_24, ze_24, sz_24, tk_50, ze_50, sz_50, tk_23, ze_23, sz_23]; repeat (with_reducible refine And.intro ?_ ?_; focus (first | decide | omega | (simp only [ln]; omega)))); try ((first | refine hK _ _ ?_ | refine hK _ ?_); clear hK K; simp only [lp])) | ((first | refine wi ?_ | refine wj ?_ | refine wk ?_ | refine wl ?_ | refine wm ?_ | refine wn ?_); simp only [lt, ↓reduceIte, Nat.reduceEqDiff]) | refine wo ?_)
        refine Fin.gcle2 (.v (sels [])) (.v (.int .i64 2)) hE (by decide) (by decide) (by decide) (D.le_nils 3) (D.le_refl _) (by simp only [D.lt]) (by simp only [D.lt]) ?_
        rw [hb] at e0
        simp only [if_true] at e0
        rw [e0] at hxs
        have : parseP selOk s = none := by simp only [parseP, hl, mapM_none _ hxs]
        rwa [this] at hK
      · rw [hb] at e0
        simp only [Bool.false_eq_true, if_false] at e0
        rw [e0] at hxs
        change _ = some (out ++ [(a, b == wManual, c)]) at hxs
        rcases hA with ⟨h0, rfl, rfl⟩ | ⟨ver, zs, hv, hle, hz, rfl, rfl⟩
        · have h0 : out = [] := by simpa using h0
          subst h0
          repeat (first | refine wa ?_ | refine wb rfl ?_ | refine wc rfl rfl hM ?_ | refine wd rfl hM ?_ | ((first | refine we rfl fun K hK => ?_ | refine wf rfl rfl fun K hK => ?_ | refine wg rfl rfl fun K hK => ?_ | refine wh rfl fun K hK => ?_); (simp only [lo, ld, ↓aop, ↓aCall, hP, hG, Nat.reduceLT, ↓reduceIte, Nat.reduceEqDiff, Nat.reduceAdd, Nat.reduceMul, Nat.reduceLeDiff, reduceCtorEq, D.cs, D.plain, fillD, chop, List.replicate, strs, tk_3, ze_3, sz_3, tk_4, ze_4, sz_4, tk_9, ze_9, sz_9, tk_50, ze_50, sz_50, tk_59, ze_59, sz_59, kn_59, tk_23, ze_23, sz_23, g0, g1, g2, Int.reduceToNat, hw]; repeat (with_reducible refine And.intro ?_ ?_; focus (first | decide | omega | (simp only [ln]; omega)))); try ((first | refine hK _ _ ?_ | refine hK _ ?_); clear hK K; simp only [lp])) | ((first | refine wi ?_ | refine wj ?_ | refine wk ?_ | refine wl ?_ | refine wm ?_ | refine wn ?_); simp only [lt, ↓reduceIte, Nat.reduceEqDiff]) | refine wo ?_)
          refine ⟨ls.length - (i + 1), _, _, by omega, ?_, i + 1, [(a, b == wManual, c)], .own (E.H0.length + 1) 1 1, [.dead, .arr 1 3 [(selV (a, b == wManual, c)).map .v] 0], rfl, by omega, hxs, .inr ⟨1, [selV (a, b == wManual, c)], Nat.le_refl _, Nat.le_refl _, rfl, rfl, rfl⟩, rfl, rfl⟩
          refine Ent.trip hE ?_ ?_ ?_ ?_
          · simp only [le, ↓reduceIte, Nat.reduceEqDiff, and_true]; repeat' (first | exact trivial | exact D.le_refl _ | exact D.le_any _ | with_reducible refine And.intro ?_ ?_)
          · simp [leObs_cons, leObs_nil, selV, wManual]
          · simp [ltAll, ltObs, Ob.lt, D.lt, D.ltL, or_imp, forall_and]
          · exact ⟨trivial, ltRows _ [selV (a, b == wManual, c)], trivial⟩
        · simp only [List.length_map] at hle hz
          repeat (first | refine wa ?_ | refine wb rfl ?_ | refine wc rfl rfl hM ?_ | refine wd rfl hM ?_ | ((first | refine we rfl fun K hK => ?_ | refine wf rfl rfl fun K hK => ?_ | refine wg rfl rfl fun K hK => ?_ | refine wh rfl fun K hK => ?_); (simp only [lo, ld, ↓aop, ↓aCall, hP, hG, Nat.reduceLT, ↓reduceIte, Nat.reduceEqDiff, Nat.reduceAdd, Nat.reduceMul, Nat.reduceLeDiff, reduceCtorEq, D.cs, D.plain, fillD, chop, List.replicate, strs, tk_3, ze_3, sz_3, tk_4, ze_4, sz_4, tk_9, ze_9, sz_9, tk_50, ze_50, sz_50, tk_59, ze_59, sz_59, kn_59, tk_23, ze_23, sz_23, g0, g1, g2, Int.reduceToNat, hw]; repeat (with_reducible refine And.intro ?_ ?_; focus (first | decide | omega | (simp only [ln]; omega)))); try ((first | refine hK _ _ ?_ | refine hK _ ?_); clear hK K; simp only [lp])) | ((first | refine wi ?_ | refine wj ?_ | refine wk ?_ | refine wl ?_ | refine wm ?_ | refine wn ?_); simp only [lt, ↓reduceIte, Nat.reduceEqDiff]) | refine wo ?_)
          refine ⟨ls.length - (i + 1), _, _, by omega, ?_, i + 1, out ++ [(a, b == wManual, c)], .own (E.H0.length + 1) (ver + 1) (out.length + 1), [.dead, .arr (ver + 1) 3 (((out ++ [(a, b == wManual, c)]).map selV).map (·.map .v)) 0], rfl, by omega, hxs, .inr ⟨ver + 1, (out ++ [(a, b == wManual, c)]).map selV, by omega, Nat.le_refl _, take_len _, by simp, rfl⟩, rfl, rfl⟩
          refine Ent.trip hE ?_ ?_ ?_ ?_
          · simp only [le, ↓reduceIte, Nat.reduceEqDiff, and_true]; repeat' (first | exact trivial | exact D.le_refl _ | exact D.le_any _ | with_reducible refine And.intro ?_ ?_)
          · simp [leObs_cons, leObs_nil]
            refine ⟨?_, rfl⟩
            rw [← List.map_take, hz]; simp
          · simp [ltAll, ltObs, Ob.lt, D.lt, D.ltL, or_imp, forall_and]
          · exact ⟨trivial, ltRows _ _, trivial⟩
    · have g3 : (((splitC 32 x).length : Int) == 3) = false := by
        rw [beq_eq_false_iff_ne]; omega
      refine sat_thru (fr 65 [(41, .v (.bool true)), (3, .v (.int .i64 0)), (2, .nils)]) (E.H0 ++ L) ?_ ?_
      · (first | refine wr ?_ | refine wp rfl hM ?_ | refine wq hM ?_); repeat' (first | ((first | refine wx ?_ | refine wy ?_ | refine wz ?_); (simp only [lo, ld, ↓aop, ↓aCall, hP, hG, Nat.reduceLT, ↓reduceIte, Nat.reduceEqDiff, Nat.reduceAdd, Nat.reduceMul, Nat.reduceLeDiff, reduceCtorEq, D.cs, D.plain, fillD, chop, List.replicate, strs, tk_3, ze_3, sz_3, tk_4, ze_4, sz_4, tk_9, ze_9, sz_9, tk_50, ze_50, sz_50, g3, Int.reduceToNat]; repeat (with_reducible refine And.intro ?_ ?_; focus (first | decide | omega | (simp only [ln]; omega)))); try ((first | refine hK _ _ ?_ | refine hK _ ?_); clear hK K; simp only [lp])) | refine we rfl fun K hK => ?_ | refine wf rfl rfl fun K hK => ?_ | refine wg rfl rfl fun K hK => ?_ | refine wh rfl fun K hK => ?_ | ((first | refine Xg rfl rfl (by decide) ?_ fun K hK => ?_ | refine Yg rfl rfl (by decide) ?_ fun K hK => ?_ | refine Zg rfl rfl rfl (by decide) ?_ fun K hK => ?_); (focus (simp only [look_cons, ↓reduceIte, Nat.reduceEqDiff, Bool.not_true, Bool.not_false]; done))) | ((first | refine Xn rfl rfl (by decide) ?_ ?_ | refine Yn rfl rfl (by decide) ?_ ?_ | refine Zn rfl rfl rfl (by decide) ?_ ?_); (focus (simp only [look_cons, ↓reduceIte, Nat.reduceEqDiff, Bool.not_true, Bool.not_false]; done)); simp only [lp]) | ((first | refine Xo rfl rfl (by decide) ?_ ?_ | refine Yo rfl rfl (by decide) ?_ ?_ | refine Zo rfl rfl rfl (by decide) ?_ ?_); (focus (simp only [look_cons, ↓reduceIte, Nat.reduceEqDiff, Bool.not_true, Bool.not_false]; done)); simp only [lp]) | ((first | refine Xs rfl rfl (by decide) rfl (fun h K hK => ?_) fun h => ?_ | refine Ys rfl rfl (by decide) rfl (fun h K hK => ?_) fun h => ?_ | refine Zs rfl rfl rfl (by decide) rfl (fun h K hK => ?_) fun h => ?_); rotate_left; (focus (simp only [Bool.not_true, Bool.not_false, lp])); rotate_left) | ((first | refine wi ?_ | refine wj ?_ | refine wk ?_); simp only [lt, ↓reduceIte, Nat.reduceEqDiff]))
        refine .weakFr ?_
        simp only [le, ↓reduceIte, Nat.reduceEqDiff, and_true]; repeat' (first | exact trivial | exact D.le_refl _ | exact D.le_any _ | with_reducible refine And.intro ?_ ?_)
      refine sat_cond rfl (fun hb => ?_) (fun hb => ?_)
      · repeat (first | refine wa ?_ | refine wb rfl ?_ | refine wc rfl rfl hM ?_ | refine wd rfl hM ?_ | ((first | refine we rfl fun K hK => ?_ | refine wf rfl rfl fun K hK => ?_ | refine wg rfl rfl fun K hK => ?_ | refine wh rfl fun K hK => ?_); (simp only [lo, ld, ↓aop, ↓aCall, hP, hG, Nat.reduceLT, ↓reduceIte, Nat.reduceEqDiff, Nat.reduceAdd, Nat.reduceMul, Nat.reduceLeDiff, reduceCtorEq, D.cs, D.plain, fillD, chop, List.replicate, tk_9, ze_9, sz_9, tk_24, ze_24, sz_24, tk_50, ze_50, sz_50, tk_23, ze_23, sz_23]; repeat (with_reducible refine And.intro ?_ ?_; focus (first | decide | omega | (simp only [ln]; omega)))); try ((first | refine hK _ _ ?_ | refine hK _ ?_); clear hK K; simp only [lp])) | ((first | refine wi ?_ | refine wj ?_ | refine wk ?_ | refine wl ?_ | refine wm ?_ | refine wn ?_); simp only [lt, ↓reduceIte, Nat.reduceEqDiff]) | refine wo ?_)
        refine Fin.gcle2 (.v (sels [])) (.v (.int .i64 2)) hE (by decide) (by decide) (by decide) (D.le_nils 3) (D.le_refl _) (by simp only [D.lt]) (by simp only [D.lt]) ?_
        have e1 : selP x = none := by
          have : ((splitC 32 x).length == 3) = false := by simpa using h3
          simp only [selP, this, Bool.not_false, Bool.true_or, if_true]
        rw [e1] at hxs
        have : parseP selOk s = none := by simp only [parseP, hl, mapM_none _ hxs]
        rwa [this] at hK
      · exact absurd hb (by decide)
  · simp at hc
    have e : ls.take i = ls := List.take_of_length_le (by omega)
    rw [e] at hout
    have hlen : out.length = ls.length := mapM_len hout
    have hsz : ∀ x ∈ out, x.1.length < 4294967281 ∧ x.2.2.length < 4294967281 := mapM_all (fun x => x.1.length < 4294967281 ∧ x.2.2.length < 4294967281) hout (fun x hx y hy => by
      have h1 := selP_len hy
      have h2 := hll x hx
      omega)
    refine sat_ent (Ent.acs 6 [(3, .v (.int .i64 0)), (2, .nils)] hE hA rfl ?_ ?_) ?_
    · simp only [le, ↓reduceIte, Nat.reduceEqDiff, and_true]; repeat' (first | exact trivial | exact D.le_refl _ | exact D.le_any _ | with_reducible refine And.intro ?_ ?_)
    · simp [ltAll, ltObs, Ob.lt, D.lt, D.ltL, or_imp, forall_and]
    change Sat E _ (fr 65 [(6, .v (sels out)), (3, .v (.int .i64 0)), (2, .nils)]) _ _
    repeat (first | refine wa ?_ | refine wb rfl ?_ | refine wc rfl rfl hM ?_ | refine wd rfl hM ?_ | ((first | refine we rfl fun K hK => ?_ | refine wf rfl rfl fun K hK => ?_ | refine wg rfl rfl fun K hK => ?_ | refine wh rfl fun K hK => ?_); (simp only [lo, ld, ↓aop, ↓aCall, hP, hG, Nat.reduceLT, ↓reduceIte, Nat.reduceEqDiff, Nat.reduceAdd, Nat.reduceMul, Nat.reduceLeDiff, reduceCtorEq, D.cs, D.plain, fillD, chop, List.replicate, tk_9, ze_9, sz_9, tk_24, ze_24, sz_24, tk_50, ze_50, sz_50, tk_23, ze_23, sz_23]; repeat (with_reducible refine And.intro ?_ ?_; focus (first | decide | omega | (simp only [ln]; omega)))); try ((first | refine hK _ _ ?_ | refine hK _ ?_); clear hK K; simp only [lp])) | ((first | refine wi ?_ | refine wj ?_ | refine wk ?_ | refine wl ?_ | refine wm ?_ | refine wn ?_); simp only [lt, ↓reduceIte, Nat.reduceEqDiff]) | refine wo ?_)
    refine spec_Print out m (by omega) hsz hG0 _ _ (hK _ _ ?_)
    clear hK K; simp only [lp]
    repeat (first | refine wa ?_ | refine wb rfl ?_ | refine wc rfl rfl hM ?_ | refine wd rfl hM ?_ | ((first | refine we rfl fun K hK => ?_ | refine wf rfl rfl fun K hK => ?_ | refine wg rfl rfl fun K hK => ?_ | refine wh rfl fun K hK => ?_); (simp only [lo, ld, ↓aop, ↓aCall, hP, hG, Nat.reduceLT, ↓reduceIte, Nat.reduceEqDiff, Nat.reduceAdd, Nat.reduceMul, Nat.reduceLeDiff, reduceCtorEq, D.cs, D.plain, fillD, chop, List.replicate, tk_9, ze_9, sz_9, tk_24, ze_24, sz_24, tk_50, ze_50, sz_50, tk_23, ze_23, sz_23]; repeat (with_reducible refine And.intro ?_ ?_; focus (first | decide | omega | (simp only [ln]; omega)))); try ((first | refine hK _ _ ?_ | refine hK _ ?_); clear hK K; simp only [lp])) | ((first | refine wi ?_ | refine wj ?_ | refine wk ?_ | refine wl ?_ | refine wm ?_ | refine wn ?_); simp only [lt, ↓reduceIte, Nat.reduceEqDiff]) | refine wo ?_)
    refine sat_cond rfl (fun hb => ?_) (fun hb => ?_)
    · repeat (first | refine wa ?_ | refine wb rfl ?_ | refine wc rfl rfl hM ?_ | refine wd rfl hM ?_ | ((first | refine we rfl fun K hK => ?_ | refine wf rfl rfl fun K hK => ?_ | refine wg rfl rfl fun K hK => ?_ | refine wh rfl fun K hK => ?_); (simp only [lo, ld, ↓aop, ↓aCall, hP, hG, Nat.reduceLT, ↓reduceIte, Nat.reduceEqDiff, Nat.reduceAdd, Nat.reduceMul, Nat.reduceLeDiff, reduceCtorEq, D.cs, D.plain, fillD, chop, List.replicate, tk_9, ze_9, sz_9, tk_24, ze_24, sz_24, tk_50, ze_50, sz_50, tk_23, ze_23, sz_23]; repeat (with_reducible refine And.intro ?_ ?_; focus (first | decide | omega | (simp only [ln]; omega)))); try ((first | refine hK _ _ ?_ | refine hK _ ?_); clear hK K; simp only [lp])) | ((first | refine wi ?_ | refine wj ?_ | refine wk ?_ | refine wl ?_ | refine wm ?_ | refine wn ?_); simp only [lt, ↓reduceIte, Nat.reduceEqDiff]) | refine wo ?_)
      refine Fin.le2 (.v (sels [])) _ (by decide) (by decide) (by decide) (D.le_nils 3) (D.le_refl _) ?_
      have : parseP selOk s = none := by
        simp only [parseP, hl, hout]
        rw [if_pos (by simpa using hb)]
      rwa [this] at hK
    · repeat (first | refine wa ?_ | refine wb rfl ?_ | refine wc rfl rfl hM ?_ | refine wd rfl hM ?_ | ((first | refine we rfl fun K hK => ?_ | refine wf rfl rfl fun K hK => ?_ | refine wg rfl rfl fun K hK => ?_ | refine wh rfl fun K hK => ?_); (simp only [lo, ld, ↓aop, ↓aCall, hP, hG, Nat.reduceLT, ↓reduceIte, Nat.reduceEqDiff, Nat.reduceAdd, Nat.reduceMul, Nat.reduceLeDiff, reduceCtorEq, D.cs, D.plain, fillD, chop, List.replicate, tk_9, ze_9, sz_9, tk_24, ze_24, sz_24, tk_50, ze_50, sz_50, tk_23, ze_23, sz_23]; repeat (with_reducible refine And.intro ?_ ?_; focus (first | decide | omega | (simp only [ln]; omega)))); try ((first | refine hK _ _ ?_ | refine hK _ ?_); clear hK K; simp only [lp])) | ((first | refine wi ?_ | refine wj ?_ | refine wk ?_ | refine wl ?_ | refine wm ?_ | refine wn ?_); simp only [lt, ↓reduceIte, Nat.reduceEqDiff]) | refine wo ?_)
      refine Fin.is2 _ _ (by decide) (by decide) rfl rfl ?_
      have : parseP selOk s = some out := by
        simp only [parseP, hl, hout]
        rw [if_neg (by simpa using hb)]
      rwa [this] at hK
end Go.Ag
namespace Go.Ag
open Go Go.Proofs
variable {G : Nat → Option (List V)}
attribute [local irreducible] aops qops Sat aop

set_option maxHeartbeats 4000000 in
theorem spec_rName (s : Str) (hs : s.length ≤ 1099511627776) (H : List Ob) (K : D → List Ob → Prop) (hK : K (.v (.bool (nameOkR s))) H) : ACalls Tryd.prog G 38 [.v (.str s)] H K := by
  refine ACalls.go Tryd.f38 _ 64 [2] Tryd.func38 rfl Tryd.ntmps38 (by kernel_rfl) rfl (by simp) (fun E hE hP hG hH => ?_)
  have hM : E.P.follows .mixedOrders = true := hP ▸ mixed
  subst hH
  simp only [args0]
  repeat (first | refine wa ?_ | refine wb rfl ?_ | refine wc rfl rfl hM ?_ | refine wd rfl hM ?_ | ((first | refine we rfl fun K hK => ?_ | refine wf rfl rfl fun K hK => ?_ | refine wg rfl rfl fun K hK => ?_ | refine wh rfl fun K hK => ?_); (simp only [lo, ld, ↓aop, ↓aCall, hP, hG, Nat.reduceLT, ↓reduceIte, Nat.reduceEqDiff, Nat.reduceAdd, Nat.reduceMul, Nat.reduceLeDiff, reduceCtorEq, D.cs, D.plain, fillD, chop, List.replicate, tk_9, ze_9, sz_9]; repeat (with_reducible refine And.intro ?_ ?_; focus (first | decide | omega | (simp only [ln]; omega)))); try ((first | refine hK _ _ ?_ | refine hK _ ?_); clear hK K; simp only [lp])) | ((first | refine wi ?_ | refine wj ?_ | refine wk ?_ | refine wl ?_ | refine wm ?_ | refine wn ?_); simp only [lt, ↓reduceIte, Nat.reduceEqDiff]) | refine wo ?_)
  refine sat_loop_ent (fun n ts H => ∃ (i : Nat), n = s.length - i ∧ i ≤ s.length ∧ (∀ j, j < i → nameBadR s j = false) ∧
    ts = fr 64 [(3, .v (.int .i64 i)), (2, .v (.bool false)), (0, .v (.str s))] ∧ H = E.H0) (s.length) (.weakFr ?_) ⟨0, rfl, Nat.zero_le _, by simp, rfl, rfl⟩ ?_
  · simp only [le, ↓reduceIte, Nat.reduceEqDiff, and_true]; repeat' (first | exact trivial | exact D.le_refl _ | exact D.le_any _ | with_reducible refine And.intro ?_ ?_)
  rintro n ts H ⟨i, rfl, hi, hall, rfl, rfl⟩
  repeat (first | refine wa ?_ | refine wb rfl ?_ | refine wc rfl rfl hM ?_ | refine wd rfl hM ?_ | ((first | refine we rfl fun K hK => ?_ | refine wf rfl rfl fun K hK => ?_ | refine wg rfl rfl fun K hK => ?_ | refine wh rfl fun K hK => ?_); (simp only [lo, ld, ↓aop, ↓aCall, hP, hG, Nat.reduceLT, ↓reduceIte, Nat.reduceEqDiff, Nat.reduceAdd, Nat.reduceMul, Nat.reduceLeDiff, reduceCtorEq, D.cs, D.plain, fillD, chop, List.replicate, tk_9, ze_9, sz_9]; repeat (with_reducible refine And.intro ?_ ?_; focus (first | decide | omega | (simp only [ln]; omega)))); try ((first | refine hK _ _ ?_ | refine hK _ ?_); clear hK K; simp only [lp])) | ((first | refine wi ?_ | refine wj ?_ | refine wk ?_ | refine wl ?_ | refine wm ?_ | refine wn ?_); simp only [lt, ↓reduceIte, Nat.reduceEqDiff]) | refine wo ?_)
  refine sat_cond rfl (fun hc => ?_) (fun hc => ?_)
  · simp at hc
    repeat (first | refine wa ?_ | refine wb rfl ?_ | refine wc rfl rfl hM ?_ | refine wd rfl hM ?_ | ((first | refine we rfl fun K hK => ?_ | refine wf rfl rfl fun K hK => ?_ | refine wg rfl rfl fun K hK => ?_ | refine wh rfl fun K hK => ?_); (simp only [lo, ld, ↓aop, ↓aCall, hP, hG, Nat.reduceLT, ↓reduceIte, Nat.reduceEqDiff, Nat.reduceAdd, Nat.reduceMul, Nat.reduceLeDiff, reduceCtorEq, D.cs, D.plain, fillD, chop, List.replicate, tk_9, ze_9, sz_9, hc]; repeat (with_reducible refine And.intro ?_ ?_; focus (first | decide | omega | (simp only [ln]; omega)))); try ((first | refine hK _ _ ?_ | refine hK _ ?_); clear hK K; simp only [lp])) | ((first | refine wi ?_ | refine wj ?_ | refine wk ?_ | refine wl ?_ | refine wm ?_ | refine wn ?_); simp only [lt, ↓reduceIte, Nat.reduceEqDiff]) | refine wo ?_)
    refine sat_thru (fr 64 [(5, .v (.bool (smallB (s.getD i 0)))), (4, .v (.int .u8 (s.getD i 0).toNat)), (3, .v (.int .i64 i)), (2, .v (.bool false)), (0, .v (.str s))]) E.H0 ?_ ?_
    · (first | refine wr ?_ | refine wp rfl hM ?_ | refine wq hM ?_); repeat' (first | ((first | refine wx ?_ | refine wy ?_ | refine wz ?_); (simp only [lo, ld, ↓aop, ↓aCall, hP, hG, Nat.reduceLT, ↓reduceIte, Nat.reduceEqDiff, Nat.reduceAdd, Nat.reduceMul, Nat.reduceLeDiff, reduceCtorEq, D.cs, D.plain, fillD, chop, List.replicate, tk_9, ze_9, sz_9]; repeat (with_reducible refine And.intro ?_ ?_; focus (first | decide | omega | (simp only [ln]; omega)))); try ((first | refine hK _ _ ?_ | refine hK _ ?_); clear hK K; simp only [lp])) | refine we rfl fun K hK => ?_ | refine wf rfl rfl fun K hK => ?_ | refine wg rfl rfl fun K hK => ?_ | refine wh rfl fun K hK => ?_ | ((first | refine Xg rfl rfl (by decide) ?_ fun K hK => ?_ | refine Yg rfl rfl (by decide) ?_ fun K hK => ?_ | refine Zg rfl rfl rfl (by decide) ?_ fun K hK => ?_); (focus (simp only [look_cons, ↓reduceIte, Nat.reduceEqDiff, Bool.not_true, Bool.not_false]; done))) | ((first | refine Xn rfl rfl (by decide) ?_ ?_ | refine Yn rfl rfl (by decide) ?_ ?_ | refine Zn rfl rfl rfl (by decide) ?_ ?_); (focus (simp only [look_cons, ↓reduceIte, Nat.reduceEqDiff, Bool.not_true, Bool.not_false]; done)); simp only [lp]) | ((first | refine Xo rfl rfl (by decide) ?_ ?_ | refine Yo rfl rfl (by decide) ?_ ?_ | refine Zo rfl rfl rfl (by decide) ?_ ?_); (focus (simp only [look_cons, ↓reduceIte, Nat.reduceEqDiff, Bool.not_true, Bool.not_false]; done)); simp only [lp]) | ((first | refine Xs rfl rfl (by decide) rfl (fun h K hK => ?_) fun h => ?_ | refine Ys rfl rfl (by decide) rfl (fun h K hK => ?_) fun h => ?_ | refine Zs rfl rfl rfl (by decide) rfl (fun h K hK => ?_) fun h => ?_); rotate_left; (focus (simp only [Bool.not_true, Bool.not_false, lp])); rotate_left) | ((first | refine wi ?_ | refine wj ?_ | refine wk ?_); simp only [lt, ↓reduceIte, Nat.reduceEqDiff]))
      all_goals refine .weakFr ?_
      all_goals simp only [le, ↓reduceIte, Nat.reduceEqDiff, and_true]; repeat' (first | exact trivial | exact D.le_refl _ | exact D.le_any _ | with_reducible refine And.intro ?_ ?_)
      all_goals refine D.le_eq (congrArg D.v (congrArg V.bool ?_)); (try simp only [Bool.not_eq_eq_eq_not, Bool.not_true, Bool.not_false] at *); simp only [*, List.getD_eq_getElem?_getD, Bool.and_true, Bool.true_and, Bool.and_false, Bool.false_and, Bool.or_true, Bool.true_or, Bool.or_false, Bool.false_or, Bool.not_true, Bool.not_false, Bool.not_not, smallB]
    repeat (first | refine wa ?_ | refine wb rfl ?_ | refine wc rfl rfl hM ?_ | refine wd rfl hM ?_ | ((first | refine we rfl fun K hK => ?_ | refine wf rfl rfl fun K hK => ?_ | refine wg rfl rfl fun K hK => ?_ | refine wh rfl fun K hK => ?_); (simp only [lo, ld, ↓aop, ↓aCall, hP, hG, Nat.reduceLT, ↓reduceIte, Nat.reduceEqDiff, Nat.reduceAdd, Nat.reduceMul, Nat.reduceLeDiff, reduceCtorEq, D.cs, D.plain, fillD, chop, List.replicate]; repeat (with_reducible refine And.intro ?_ ?_; focus (first | decide | omega | (simp only [ln]; omega)))); try ((first | refine hK _ _ ?_ | refine hK _ ?_); clear hK K; simp only [lp])) | ((first | refine wi ?_ | refine wj ?_ | refine wk ?_ | refine wl ?_ | refine wm ?_ | refine wn ?_); simp only [lt, ↓reduceIte, Nat.reduceEqDiff]) | refine wo ?_)
    refine sat_thru (fr 64 [(6, .v (.bool (digitB (s.getD i 0)))), (5, .v (.bool (smallB (s.getD i 0)))), (4, .v (.int .u8 (s.getD i 0).toNat)), (3, .v (.int .i64 i)), (2, .v (.bool false)), (0, .v (.str s))]) E.H0 ?_ ?_
    · (first | refine wr ?_ | refine wp rfl hM ?_ | refine wq hM ?_); repeat' (first | ((first | refine wx ?_ | refine wy ?_ | refine wz ?_); (simp only [lo, ld, ↓aop, ↓aCall, hP, hG, Nat.reduceLT, ↓reduceIte, Nat.reduceEqDiff, Nat.reduceAdd, Nat.reduceMul, Nat.reduceLeDiff, reduceCtorEq, D.cs, D.plain, fillD, chop, List.replicate, tk_9, ze_9, sz_9]; repeat (with_reducible refine And.intro ?_ ?_; focus (first | decide | omega | (simp only [ln]; omega)))); try ((first | refine hK _ _ ?_ | refine hK _ ?_); clear hK K; simp only [lp])) | refine we rfl fun K hK => ?_ | refine wf rfl rfl fun K hK => ?_ | refine wg rfl rfl fun K hK => ?_ | refine wh rfl fun K hK => ?_ | ((first | refine Xg rfl rfl (by decide) ?_ fun K hK => ?_ | refine Yg rfl rfl (by decide) ?_ fun K hK => ?_ | refine Zg rfl rfl rfl (by decide) ?_ fun K hK => ?_); (focus (simp only [look_cons, ↓reduceIte, Nat.reduceEqDiff, Bool.not_true, Bool.not_false]; done))) | ((first | refine Xn rfl rfl (by decide) ?_ ?_ | refine Yn rfl rfl (by decide) ?_ ?_ | refine Zn rfl rfl rfl (by decide) ?_ ?_); (focus (simp only [look_cons, ↓reduceIte, Nat.reduceEqDiff, Bool.not_true, Bool.not_false]; done)); simp only [lp]) | ((first | refine Xo rfl rfl (by decide) ?_ ?_ | refine Yo rfl rfl (by decide) ?_ ?_ | refine Zo rfl rfl rfl (by decide) ?_ ?_); (focus (simp only [look_cons, ↓reduceIte, Nat.reduceEqDiff, Bool.not_true, Bool.not_false]; done)); simp only [lp]) | ((first | refine Xs rfl rfl (by decide) rfl (fun h K hK => ?_) fun h => ?_ | refine Ys rfl rfl (by decide) rfl (fun h K hK => ?_) fun h => ?_ | refine Zs rfl rfl rfl (by decide) rfl (fun h K hK => ?_) fun h => ?_); rotate_left; (focus (simp only [Bool.not_true, Bool.not_false, lp])); rotate_left) | ((first | refine wi ?_ | refine wj ?_ | refine wk ?_); simp only [lt, ↓reduceIte, Nat.reduceEqDiff]))
      all_goals refine .weakFr ?_
      all_goals simp only [le, ↓reduceIte, Nat.reduceEqDiff, and_true]; repeat' (first | exact trivial | exact D.le_refl _ | exact D.le_any _ | with_reducible refine And.intro ?_ ?_)
      all_goals refine D.le_eq (congrArg D.v (congrArg V.bool ?_)); (try simp only [Bool.not_eq_eq_eq_not, Bool.not_true, Bool.not_false] at *); simp only [*, List.getD_eq_getElem?_getD, Bool.and_true, Bool.true_and, Bool.and_false, Bool.false_and, Bool.or_true, Bool.true_or, Bool.or_false, Bool.false_or, Bool.not_true, Bool.not_false, Bool.not_not, digitB]
    repeat (first | refine wa ?_ | refine wb rfl ?_ | refine wc rfl rfl hM ?_ | refine wd rfl hM ?_ | ((first | refine we rfl fun K hK => ?_ | refine wf rfl rfl fun K hK => ?_ | refine wg rfl rfl fun K hK => ?_ | refine wh rfl fun K hK => ?_); (simp only [lo, ld, ↓aop, ↓aCall, hP, hG, Nat.reduceLT, ↓reduceIte, Nat.reduceEqDiff, Nat.reduceAdd, Nat.reduceMul, Nat.reduceLeDiff, reduceCtorEq, D.cs, D.plain, fillD, chop, List.replicate]; repeat (with_reducible refine And.intro ?_ ?_; focus (first | decide | omega | (simp only [ln]; omega)))); try ((first | refine hK _ _ ?_ | refine hK _ ?_); clear hK K; simp only [lp])) | ((first | refine wi ?_ | refine wj ?_ | refine wk ?_ | refine wl ?_ | refine wm ?_ | refine wn ?_); simp only [lt, ↓reduceIte, Nat.reduceEqDiff]) | refine wo ?_)
    refine sat_thru (fr 64 [(7, .v (.bool (markB (s.getD i 0)))), (6, .v (.bool (digitB (s.getD i 0)))), (5, .v (.bool (smallB (s.getD i 0)))), (3, .v (.int .i64 i)), (2, .v (.bool false)), (0, .v (.str s))]) E.H0 ?_ ?_
    · (first | refine wr ?_ | refine wp rfl hM ?_ | refine wq hM ?_); repeat' (first | ((first | refine wx ?_ | refine wy ?_ | refine wz ?_); (simp only [lo, ld, ↓aop, ↓aCall, hP, hG, Nat.reduceLT, ↓reduceIte, Nat.reduceEqDiff, Nat.reduceAdd, Nat.reduceMul, Nat.reduceLeDiff, reduceCtorEq, D.cs, D.plain, fillD, chop, List.replicate, tk_9, ze_9, sz_9]; repeat (with_reducible refine And.intro ?_ ?_; focus (first | decide | omega | (simp only [ln]; omega)))); try ((first | refine hK _ _ ?_ | refine hK _ ?_); clear hK K; simp only [lp])) | refine we rfl fun K hK => ?_ | refine wf rfl rfl fun K hK => ?_ | refine wg rfl rfl fun K hK => ?_ | refine wh rfl fun K hK => ?_ | ((first | refine Xg rfl rfl (by decide) ?_ fun K hK => ?_ | refine Yg rfl rfl (by decide) ?_ fun K hK => ?_ | refine Zg rfl rfl rfl (by decide) ?_ fun K hK => ?_); (focus (simp only [look_cons, ↓reduceIte, Nat.reduceEqDiff, Bool.not_true, Bool.not_false]; done))) | ((first | refine Xn rfl rfl (by decide) ?_ ?_ | refine Yn rfl rfl (by decide) ?_ ?_ | refine Zn rfl rfl rfl (by decide) ?_ ?_); (focus (simp only [look_cons, ↓reduceIte, Nat.reduceEqDiff, Bool.not_true, Bool.not_false]; done)); simp only [lp]) | ((first | refine Xo rfl rfl (by decide) ?_ ?_ | refine Yo rfl rfl (by decide) ?_ ?_ | refine Zo rfl rfl rfl (by decide) ?_ ?_); (focus (simp only [look_cons, ↓reduceIte, Nat.reduceEqDiff, Bool.not_true, Bool.not_false]; done)); simp only [lp]) | ((first | refine Xs rfl rfl (by decide) rfl (fun h K hK => ?_) fun h => ?_ | refine Ys rfl rfl (by decide) rfl (fun h K hK => ?_) fun h => ?_ | refine Zs rfl rfl rfl (by decide) rfl (fun h K hK => ?_) fun h => ?_); rotate_left; (focus (simp only [Bool.not_true, Bool.not_false, lp])); rotate_left) | ((first | refine wi ?_ | refine wj ?_ | refine wk ?_); simp only [lt, ↓reduceIte, Nat.reduceEqDiff]))
      all_goals refine .weakFr ?_
      all_goals simp only [le, ↓reduceIte, Nat.reduceEqDiff, and_true]; repeat' (first | exact trivial | exact D.le_refl _ | exact D.le_any _ | with_reducible refine And.intro ?_ ?_)
      all_goals refine D.le_eq (congrArg D.v (congrArg V.bool ?_)); (try simp only [Bool.not_eq_eq_eq_not, Bool.not_true, Bool.not_false] at *); simp only [*, List.getD_eq_getElem?_getD, Bool.and_true, Bool.true_and, Bool.and_false, Bool.false_and, Bool.or_true, Bool.true_or, Bool.or_false, Bool.false_or, Bool.not_true, Bool.not_false, Bool.not_not, markB]
    repeat (first | refine wa ?_ | refine wb rfl ?_ | refine wc rfl rfl hM ?_ | refine wd rfl hM ?_ | ((first | refine we rfl fun K hK => ?_ | refine wf rfl rfl fun K hK => ?_ | refine wg rfl rfl fun K hK => ?_ | refine wh rfl fun K hK => ?_); (simp only [lo, ld, ↓aop, ↓aCall, hP, hG, Nat.reduceLT, ↓reduceIte, Nat.reduceEqDiff, Nat.reduceAdd, Nat.reduceMul, Nat.reduceLeDiff, reduceCtorEq, D.cs, D.plain, fillD, chop, List.replicate]; repeat (with_reducible refine And.intro ?_ ?_; focus (first | decide | omega | (simp only [ln]; omega)))); try ((first | refine hK _ _ ?_ | refine hK _ ?_); clear hK K; simp only [lp])) | ((first | refine wi ?_ | refine wj ?_ | refine wk ?_ | refine wl ?_ | refine wm ?_ | refine wn ?_); simp only [lt, ↓reduceIte, Nat.reduceEqDiff]) | refine wo ?_)
    refine sat_thru (fr 64 [(55, .v (.bool (nameBadR s i))), (3, .v (.int .i64 i)), (2, .v (.bool false)), (0, .v (.str s))]) E.H0 ?_ ?_
    · (first | refine wr ?_ | refine wp rfl hM ?_ | refine wq hM ?_); repeat' (first | ((first | refine wx ?_ | refine wy ?_ | refine wz ?_); (simp only [lo, ld, ↓aop, ↓aCall, hP, hG, Nat.reduceLT, ↓reduceIte, Nat.reduceEqDiff, Nat.reduceAdd, Nat.reduceMul, Nat.reduceLeDiff, reduceCtorEq, D.cs, D.plain, fillD, chop, List.replicate, tk_9, ze_9, sz_9]; repeat (with_reducible refine And.intro ?_ ?_; focus (first | decide | omega | (simp only [ln]; omega)))); try ((first | refine hK _ _ ?_ | refine hK _ ?_); clear hK K; simp only [lp])) | refine we rfl fun K hK => ?_ | refine wf rfl rfl fun K hK => ?_ | refine wg rfl rfl fun K hK => ?_ | refine wh rfl fun K hK => ?_ | ((first | refine Xg rfl rfl (by decide) ?_ fun K hK => ?_ | refine Yg rfl rfl (by decide) ?_ fun K hK => ?_ | refine Zg rfl rfl rfl (by decide) ?_ fun K hK => ?_); (focus (simp only [look_cons, ↓reduceIte, Nat.reduceEqDiff, Bool.not_true, Bool.not_false]; done))) | ((first | refine Xn rfl rfl (by decide) ?_ ?_ | refine Yn rfl rfl (by decide) ?_ ?_ | refine Zn rfl rfl rfl (by decide) ?_ ?_); (focus (simp only [look_cons, ↓reduceIte, Nat.reduceEqDiff, Bool.not_true, Bool.not_false]; done)); simp only [lp]) | ((first | refine Xo rfl rfl (by decide) ?_ ?_ | refine Yo rfl rfl (by decide) ?_ ?_ | refine Zo rfl rfl rfl (by decide) ?_ ?_); (focus (simp only [look_cons, ↓reduceIte, Nat.reduceEqDiff, Bool.not_true, Bool.not_false]; done)); simp only [lp]) | ((first | refine Xs rfl rfl (by decide) rfl (fun h K hK => ?_) fun h => ?_ | refine Ys rfl rfl (by decide) rfl (fun h K hK => ?_) fun h => ?_ | refine Zs rfl rfl rfl (by decide) rfl (fun h K hK => ?_) fun h => ?_); rotate_left; (focus (simp only [Bool.not_true, Bool.not_false, lp])); rotate_left) | ((first | refine wi ?_ | refine wj ?_ | refine wk ?_); simp only [lt, ↓reduceIte, Nat.reduceEqDiff]))
      all_goals refine .weakFr ?_
      all_goals simp only [le, ↓reduceIte, Nat.reduceEqDiff, and_true]; repeat' (first | exact trivial | exact D.le_refl _ | exact D.le_any _ | with_reducible refine And.intro ?_ ?_)
      all_goals clear hall
      all_goals refine D.le_eq (congrArg D.v (congrArg V.bool ?_)); (try simp only [Bool.not_eq_eq_eq_not, Bool.not_true, Bool.not_false] at *); simp only [*, List.getD_eq_getElem?_getD, Bool.and_true, Bool.true_and, Bool.and_false, Bool.false_and, Bool.or_true, Bool.true_or, Bool.or_false, Bool.false_or, Bool.not_true, Bool.not_false, Bool.not_not, nameBadR]
      all_goals simp_all
    refine sat_cond rfl (fun hb => ?_) (fun hb => ?_)
    · repeat (first | refine wa ?_ | refine wb rfl ?_ | refine wc rfl rfl hM ?_ | refine wd rfl hM ?_ | ((first | refine we rfl fun K hK => ?_ | refine wf rfl rfl fun K hK => ?_ | refine wg rfl rfl fun K hK => ?_ | refine wh rfl fun K hK => ?_); (simp only [lo, ld, ↓aop, ↓aCall, hP, hG, Nat.reduceLT, ↓reduceIte, Nat.reduceEqDiff, Nat.reduceAdd, Nat.reduceMul, Nat.reduceLeDiff, reduceCtorEq, D.cs, D.plain, fillD, chop, List.replicate]; repeat (with_reducible refine And.intro ?_ ?_; focus (first | decide | omega | (simp only [ln]; omega)))); try ((first | refine hK _ _ ?_ | refine hK _ ?_); clear hK K; simp only [lp])) | ((first | refine wi ?_ | refine wj ?_ | refine wk ?_ | refine wl ?_ | refine wm ?_ | refine wn ?_); simp only [lt, ↓reduceIte, Nat.reduceEqDiff]) | refine wo ?_)
      refine Fin.is (.v (.bool false)) (by decide) rfl ?_
      have : nameOkR s = false := by
        simp only [nameOkR, Bool.and_eq_false_iff]
        left
        rw [List.all_eq_false]
        exact ⟨i, by simpa using hc, by simpa using hb⟩
      rwa [this] at hK
    · have hw := wrap_succ (i := i) (by omega)
      repeat (first | refine wa ?_ | refine wb rfl ?_ | refine wc rfl rfl hM ?_ | refine wd rfl hM ?_ | ((first | refine we rfl fun K hK => ?_ | refine wf rfl rfl fun K hK => ?_ | refine wg rfl rfl fun K hK => ?_ | refine wh rfl fun K hK => ?_); (simp only [lo, ld, ↓aop, ↓aCall, hP, hG, Nat.reduceLT, ↓reduceIte, Nat.reduceEqDiff, Nat.reduceAdd, Nat.reduceMul, Nat.reduceLeDiff, reduceCtorEq, D.cs, D.plain, fillD, chop, List.replicate, hw]; repeat (with_reducible refine And.intro ?_ ?_; focus (first | decide | omega | (simp only [ln]; omega)))); try ((first | refine hK _ _ ?_ | refine hK _ ?_); clear hK K; simp only [lp])) | ((first | refine wi ?_ | refine wj ?_ | refine wk ?_ | refine wl ?_ | refine wm ?_ | refine wn ?_); simp only [lt, ↓reduceIte, Nat.reduceEqDiff]) | refine wo ?_)
      refine ⟨s.length - (i + 1), _, _, by omega, .weakFr ?_, i + 1, rfl, by omega, fun j hj => ?_, rfl, rfl⟩
      · simp only [le, ↓reduceIte, Nat.reduceEqDiff, and_true]; repeat' (first | exact trivial | exact D.le_refl _ | exact D.le_any _ | with_reducible refine And.intro ?_ ?_)
      · rcases Nat.lt_succ_iff_lt_or_eq.1 hj with h | rfl
        · exact hall j h
        · exact hb
  · simp at hc
    have e : (List.range s.length).all (fun i => !nameBadR s i) = true := by
      simp only [List.all_eq_true, List.mem_range]
      exact fun j hj => by rw [hall j (by omega)]; rfl
    repeat (first | refine wa ?_ | refine wb rfl ?_ | refine wc rfl rfl hM ?_ | refine wd rfl hM ?_ | ((first | refine we rfl fun K hK => ?_ | refine wf rfl rfl fun K hK => ?_ | refine wg rfl rfl fun K hK => ?_ | refine wh rfl fun K hK => ?_); (simp only [lo, ld, ↓aop, ↓aCall, hP, hG, Nat.reduceLT, ↓reduceIte, Nat.reduceEqDiff, Nat.reduceAdd, Nat.reduceMul, Nat.reduceLeDiff, reduceCtorEq, D.cs, D.plain, fillD, chop, List.replicate]; repeat (with_reducible refine And.intro ?_ ?_; focus (first | decide | omega | (simp only [ln]; omega)))); try ((first | refine hK _ _ ?_ | refine hK _ ?_); clear hK K; simp only [lp])) | ((first | refine wi ?_ | refine wj ?_ | refine wk ?_ | refine wl ?_ | refine wm ?_ | refine wn ?_); simp only [lt, ↓reduceIte, Nat.reduceEqDiff]) | refine wo ?_)
    refine sat_thru (fr 64 [(2, .v (.bool (nameOkR s)))]) E.H0 ?_ ?_
    · (first | refine wr ?_ | refine wp rfl hM ?_ | refine wq hM ?_); repeat' (first | ((first | refine wx ?_ | refine wy ?_ | refine wz ?_); (simp only [lo, ld, ↓aop, ↓aCall, hP, hG, Nat.reduceLT, ↓reduceIte, Nat.reduceEqDiff, Nat.reduceAdd, Nat.reduceMul, Nat.reduceLeDiff, reduceCtorEq, D.cs, D.plain, fillD, chop, List.replicate, tk_9, ze_9, sz_9]; repeat (with_reducible refine And.intro ?_ ?_; focus (first | decide | omega | (simp only [ln]; omega)))); try ((first | refine hK _ _ ?_ | refine hK _ ?_); clear hK K; simp only [lp])) | refine we rfl fun K hK => ?_ | refine wf rfl rfl fun K hK => ?_ | refine wg rfl rfl fun K hK => ?_ | refine wh rfl fun K hK => ?_ | ((first | refine Xg rfl rfl (by decide) ?_ fun K hK => ?_ | refine Yg rfl rfl (by decide) ?_ fun K hK => ?_ | refine Zg rfl rfl rfl (by decide) ?_ fun K hK => ?_); (focus (simp only [look_cons, ↓reduceIte, Nat.reduceEqDiff, Bool.not_true, Bool.not_false]; done))) | ((first | refine Xn rfl rfl (by decide) ?_ ?_ | refine Yn rfl rfl (by decide) ?_ ?_ | refine Zn rfl rfl rfl (by decide) ?_ ?_); (focus (simp only [look_cons, ↓reduceIte, Nat.reduceEqDiff, Bool.not_true, Bool.not_false]; done)); simp only [lp]) | ((first | refine Xo rfl rfl (by decide) ?_ ?_ | refine Yo rfl rfl (by decide) ?_ ?_ | refine Zo rfl rfl rfl (by decide) ?_ ?_); (focus (simp only [look_cons, ↓reduceIte, Nat.reduceEqDiff, Bool.not_true, Bool.not_false]; done)); simp only [lp]) | ((first | refine Xs rfl rfl (by decide) rfl (fun h K hK => ?_) fun h => ?_ | refine Ys rfl rfl (by decide) rfl (fun h K hK => ?_) fun h => ?_ | refine Zs rfl rfl rfl (by decide) rfl (fun h K hK => ?_) fun h => ?_); rotate_left; (focus (simp only [Bool.not_true, Bool.not_false, lp])); rotate_left) | ((first | refine wi ?_ | refine wj ?_ | refine wk ?_); simp only [lt, ↓reduceIte, Nat.reduceEqDiff]))
      all_goals refine .weakFr ?_
      all_goals simp only [le, ↓reduceIte, Nat.reduceEqDiff, and_true]; repeat' (first | exact trivial | exact D.le_refl _ | exact D.le_any _ | with_reducible refine And.intro ?_ ?_)
      all_goals clear hall
      all_goals refine D.le_eq (congrArg D.v (congrArg V.bool ?_)); (try simp only [Bool.not_eq_eq_eq_not, Bool.not_true, Bool.not_false] at *); simp only [*, List.getD_eq_getElem?_getD, Bool.and_true, Bool.true_and, Bool.and_false, Bool.false_and, Bool.or_true, Bool.true_or, Bool.or_false, Bool.false_or, Bool.not_true, Bool.not_false, Bool.not_not, nameOkR, e]
    repeat (first | refine wa ?_ | refine wb rfl ?_ | refine wc rfl rfl hM ?_ | refine wd rfl hM ?_ | ((first | refine we rfl fun K hK => ?_ | refine wf rfl rfl fun K hK => ?_ | refine wg rfl rfl fun K hK => ?_ | refine wh rfl fun K hK => ?_); (simp only [lo, ld, ↓aop, ↓aCall, hP, hG, Nat.reduceLT, ↓reduceIte, Nat.reduceEqDiff, Nat.reduceAdd, Nat.reduceMul, Nat.reduceLeDiff, reduceCtorEq, D.cs, D.plain, fillD, chop, List.replicate]; repeat (with_reducible refine And.intro ?_ ?_; focus (first | decide | omega | (simp only [ln]; omega)))); try ((first | refine hK _ _ ?_ | refine hK _ ?_); clear hK K; simp only [lp])) | ((first | refine wi ?_ | refine wj ?_ | refine wk ?_ | refine wl ?_ | refine wm ?_ | refine wn ?_); simp only [lt, ↓reduceIte, Nat.reduceEqDiff]) | refine wo ?_)
    exact Fin.is (.v (.bool (nameOkR s))) (by decide) rfl hK

theorem spec_word (b : Bool) (H : List Ob) (K : D → List Ob → Prop) (hK : K (.v (.str (modeW b))) H) : ACalls Tryd.prog G 40 [.v (.bool b)] H K := by
  refine ACalls.go Tryd.f40 _ 4 [2] Tryd.func40 rfl Tryd.ntmps40 (by kernel_rfl) rfl (by simp) (fun E hE hP hG hH => ?_)
  subst hH
  simp only [args0]
  repeat (first | refine wa ?_ | refine wb rfl ?_ | refine wc rfl rfl hM ?_ | refine wd rfl hM ?_ | ((first | refine we rfl fun K hK => ?_ | refine wf rfl rfl fun K hK => ?_ | refine wg rfl rfl fun K hK => ?_ | refine wh rfl fun K hK => ?_); (simp only [lo, ld, ↓aop, ↓aCall, hP, hG, Nat.reduceLT, ↓reduceIte, Nat.reduceEqDiff, Nat.reduceAdd, Nat.reduceMul, Nat.reduceLeDiff, reduceCtorEq, D.cs, D.plain, fillD, chop, List.replicate]; repeat (with_reducible refine And.intro ?_ ?_; focus (first | decide | omega | (simp only [ln]; omega)))); try ((first | refine hK _ _ ?_ | refine hK _ ?_); clear hK K; simp only [lp])) | ((first | refine wi ?_ | refine wj ?_ | refine wk ?_ | refine wl ?_ | refine wm ?_ | refine wn ?_); simp only [lt, ↓reduceIte, Nat.reduceEqDiff]) | refine wo ?_)
  refine sat_cond (b := b) rfl (fun hb => ?_) (fun hb => ?_)
  · subst hb
    repeat (first | refine wa ?_ | refine wb rfl ?_ | refine wc rfl rfl hM ?_ | refine wd rfl hM ?_ | ((first | refine we rfl fun K hK => ?_ | refine wf rfl rfl fun K hK => ?_ | refine wg rfl rfl fun K hK => ?_ | refine wh rfl fun K hK => ?_); (simp only [lo, ld, ↓aop, ↓aCall, hP, hG, Nat.reduceLT, ↓reduceIte, Nat.reduceEqDiff, Nat.reduceAdd, Nat.reduceMul, Nat.reduceLeDiff, reduceCtorEq, D.cs, D.plain, fillD, chop, List.replicate]; repeat (with_reducible refine And.intro ?_ ?_; focus (first | decide | omega | (simp only [ln]; omega)))); try ((first | refine hK _ _ ?_ | refine hK _ ?_); clear hK K; simp only [lp])) | ((first | refine wi ?_ | refine wj ?_ | refine wk ?_ | refine wl ?_ | refine wm ?_ | refine wn ?_); simp only [lt, ↓reduceIte, Nat.reduceEqDiff]) | refine wo ?_)
    exact Fin.is _ (by decide) rfl hK
  · subst hb
    repeat (first | refine wa ?_ | refine wb rfl ?_ | refine wc rfl rfl hM ?_ | refine wd rfl hM ?_ | ((first | refine we rfl fun K hK => ?_ | refine wf rfl rfl fun K hK => ?_ | refine wg rfl rfl fun K hK => ?_ | refine wh rfl fun K hK => ?_); (simp only [lo, ld, ↓aop, ↓aCall, hP, hG, Nat.reduceLT, ↓reduceIte, Nat.reduceEqDiff, Nat.reduceAdd, Nat.reduceMul, Nat.reduceLeDiff, reduceCtorEq, D.cs, D.plain, fillD, chop, List.replicate]; repeat (with_reducible refine And.intro ?_ ?_; focus (first | decide | omega | (simp only [ln]; omega)))); try ((first | refine hK _ _ ?_ | refine hK _ ?_); clear hK K; simp only [lp])) | ((first | refine wi ?_ | refine wj ?_ | refine wk ?_ | refine wl ?_ | refine wm ?_ | refine wn ?_); simp only [lt, ↓reduceIte, Nat.reduceEqDiff]) | refine wo ?_)
    exact Fin.is _ (by decide) rfl hK

set_option maxHeartbeats 4000000 in
theorem spec_Joined (l : List Str) (hl : tot l ≤ 1099511627776) (H : List Ob) (K : D → List Ob → Prop) (hK : K (.v (.str (joinedR l))) H) : ACalls Tryd.prog G 83 [.v (strs l)] H K := by
  refine ACalls.go Tryd.f83 _ 22 [2] Tryd.func83 rfl Tryd.ntmps83 (by kernel_rfl) rfl (by simp) (fun E hE hP hG hH => ?_)
  have hM : E.P.follows .mixedOrders = true := hP ▸ mixed
  have hll := tot_len l
  subst hH
  simp only [args0]
  repeat (first | refine wa ?_ | refine wb rfl ?_ | refine wc rfl rfl hM ?_ | refine wd rfl hM ?_ | ((first | refine we rfl fun K hK => ?_ | refine wf rfl rfl fun K hK => ?_ | refine wg rfl rfl fun K hK => ?_ | refine wh rfl fun K hK => ?_); (simp only [lo, ld, ↓aop, ↓aCall, hP, hG, Nat.reduceLT, ↓reduceIte, Nat.reduceEqDiff, Nat.reduceAdd, Nat.reduceMul, Nat.reduceLeDiff, reduceCtorEq, D.cs, D.plain, fillD, chop, List.replicate, strs, tk_9, ze_9, sz_9, tk_50, ze_50, sz_50]; repeat (with_reducible refine And.intro ?_ ?_; focus (first | decide | omega | (simp only [ln]; omega)))); try ((first | refine hK _ _ ?_ | refine hK _ ?_); clear hK K; simp only [lp])) | ((first | refine wi ?_ | refine wj ?_ | refine wk ?_ | refine wl ?_ | refine wm ?_ | refine wn ?_); simp only [lt, ↓reduceIte, Nat.reduceEqDiff]) | refine wo ?_)
  refine sat_cond rfl (fun hb => ?_) (fun hb => ?_)
  · repeat (first | refine wa ?_ | refine wb rfl ?_ | refine wc rfl rfl hM ?_ | refine wd rfl hM ?_ | ((first | refine we rfl fun K hK => ?_ | refine wf rfl rfl fun K hK => ?_ | refine wg rfl rfl fun K hK => ?_ | refine wh rfl fun K hK => ?_); (simp only [lo, ld, ↓aop, ↓aCall, hP, hG, Nat.reduceLT, ↓reduceIte, Nat.reduceEqDiff, Nat.reduceAdd, Nat.reduceMul, Nat.reduceLeDiff, reduceCtorEq, D.cs, D.plain, fillD, chop, List.replicate]; repeat (with_reducible refine And.intro ?_ ?_; focus (first | decide | omega | (simp only [ln]; omega)))); try ((first | refine hK _ _ ?_ | refine hK _ ?_); clear hK K; simp only [lp])) | ((first | refine wi ?_ | refine wj ?_ | refine wk ?_ | refine wl ?_ | refine wm ?_ | refine wn ?_); simp only [lt, ↓reduceIte, Nat.reduceEqDiff]) | refine wo ?_)
    refine Fin.is _ (by decide) rfl ?_
    have : joinedR l = [47] := by simp only [joinedR]; rw [if_pos (by simpa using hb)]
    rwa [this] at hK
  have ej : joinedR l = joined l := by simp only [joinedR]; rw [if_neg (by simpa using hb)]
  rw [ej] at hK
  clear hb
  repeat (first | refine wa ?_ | refine wb rfl ?_ | refine wc rfl rfl hM ?_ | refine wd rfl hM ?_ | ((first | refine we rfl fun K hK => ?_ | refine wf rfl rfl fun K hK => ?_ | refine wg rfl rfl fun K hK => ?_ | refine wh rfl fun K hK => ?_); (simp only [lo, ld, ↓aop, ↓aCall, hP, hG, Nat.reduceLT, ↓reduceIte, Nat.reduceEqDiff, Nat.reduceAdd, Nat.reduceMul, Nat.reduceLeDiff, reduceCtorEq, D.cs, D.plain, fillD, chop, List.replicate, strs, tk_9, ze_9, sz_9, tk_50, ze_50, sz_50]; repeat (with_reducible refine And.intro ?_ ?_; focus (first | decide | omega | (simp only [ln]; omega)))); try ((first | refine hK _ _ ?_ | refine hK _ ?_); clear hK K; simp only [lp])) | ((first | refine wi ?_ | refine wj ?_ | refine wk ?_ | refine wl ?_ | refine wm ?_ | refine wn ?_); simp only [lt, ↓reduceIte, Nat.reduceEqDiff]) | refine wo ?_)
  refine sat_loop_ent (fun n ts H => ∃ (i : Nat), n = l.length - i ∧ i ≤ l.length ∧
    ts = fr 22 [(4, .v (.int .i64 i)), (3, .v (.str (joined (l.take i)))), (0, .v (strs l))] ∧ H = E.H0) (l.length) (.weakFr ?_) ⟨0, rfl, Nat.zero_le _, rfl, rfl⟩ ?_
  · simp only [le, ↓reduceIte, Nat.reduceEqDiff, and_true]; repeat' (first | exact trivial | exact D.le_refl _ | exact D.le_any _ | with_reducible refine And.intro ?_ ?_)
  rintro n ts H ⟨i, rfl, hi, rfl, rfl⟩
  repeat (first | refine wa ?_ | refine wb rfl ?_ | refine wc rfl rfl hM ?_ | refine wd rfl hM ?_ | ((first | refine we rfl fun K hK => ?_ | refine wf rfl rfl fun K hK => ?_ | refine wg rfl rfl fun K hK => ?_ | refine wh rfl fun K hK => ?_); (simp only [lo, ld, ↓aop, ↓aCall, hP, hG, Nat.reduceLT, ↓reduceIte, Nat.reduceEqDiff, Nat.reduceAdd, Nat.reduceMul, Nat.reduceLeDiff, reduceCtorEq, D.cs, D.plain, fillD, chop, List.replicate, strs, tk_9, ze_9, sz_9, tk_50, ze_50, sz_50]; repeat (with_reducible refine And.intro ?_ ?_; focus (first | decide | omega | (simp only [ln]; omega)))); try ((first | refine hK _ _ ?_ | refine hK _ ?_); clear hK K; simp only [lp])) | ((first | refine wi ?_ | refine wj ?_ | refine wk ?_ | refine wl ?_ | refine wm ?_ | refine wn ?_); simp only [lt, ↓reduceIte, Nat.reduceEqDiff]) | refine wo ?_)
  refine sat_cond rfl (fun hc => ?_) (fun hc => ?_)
  · simp at hc
    obtain ⟨x, hx⟩ : ∃ x, l[i]? = some x := ⟨_, List.getElem?_eq_getElem hc⟩
    have hw := wrap_succ (i := i) (by omega)
    have e : joined (l.take (i + 1)) = (joined (l.take i) ++ [47]) ++ x := by simp [joined, List.take_add_one, hx]
    have h1 : (joined (l.take i)).length ≤ tot l := by rw [joined_tot]; exact tot_take l i
    have h2 : x.length + 1 ≤ tot l := mem_lined 47 (List.mem_of_getElem? hx)
    repeat (first | refine wa ?_ | refine wb rfl ?_ | refine wc rfl rfl hM ?_ | refine wd rfl hM ?_ | ((first | refine we rfl fun K hK => ?_ | refine wf rfl rfl fun K hK => ?_ | refine wg rfl rfl fun K hK => ?_ | refine wh rfl fun K hK => ?_); (simp only [lo, ld, ↓aop, ↓aCall, hP, hG, Nat.reduceLT, ↓reduceIte, Nat.reduceEqDiff, Nat.reduceAdd, Nat.reduceMul, Nat.reduceLeDiff, reduceCtorEq, D.cs, D.plain, fillD, chop, List.replicate, strs, tk_9, ze_9, sz_9, tk_50, ze_50, sz_50, hc, hx, hw]; repeat (with_reducible refine And.intro ?_ ?_; focus (first | decide | omega | (simp only [ln]; omega)))); try ((first | refine hK _ _ ?_ | refine hK _ ?_); clear hK K; simp only [lp])) | ((first | refine wi ?_ | refine wj ?_ | refine wk ?_ | refine wl ?_ | refine wm ?_ | refine wn ?_); simp only [lt, ↓reduceIte, Nat.reduceEqDiff]) | refine wo ?_)
    refine ⟨l.length - (i + 1), _, _, by omega, .weakFr ?_, i + 1, rfl, by omega, rfl, rfl⟩
    rw [e]
    simp only [le, ↓reduceIte, Nat.reduceEqDiff, and_true]; repeat' (first | exact trivial | exact D.le_refl _ | exact D.le_any _ | with_reducible refine And.intro ?_ ?_)
  · simp at hc
    repeat (first | refine wa ?_ | refine wb rfl ?_ | refine wc rfl rfl hM ?_ | refine wd rfl hM ?_ | ((first | refine we rfl fun K hK => ?_ | refine wf rfl rfl fun K hK => ?_ | refine wg rfl rfl fun K hK => ?_ | refine wh rfl fun K hK => ?_); (simp only [lo, ld, ↓aop, ↓aCall, hP, hG, Nat.reduceLT, ↓reduceIte, Nat.reduceEqDiff, Nat.reduceAdd, Nat.reduceMul, Nat.reduceLeDiff, reduceCtorEq, D.cs, D.plain, fillD, chop, List.replicate]; repeat (with_reducible refine And.intro ?_ ?_; focus (first | decide | omega | (simp only [ln]; omega)))); try ((first | refine hK _ _ ?_ | refine hK _ ?_); clear hK K; simp only [lp])) | ((first | refine wi ?_ | refine wj ?_ | refine wk ?_ | refine wl ?_ | refine wm ?_ | refine wn ?_); simp only [lt, ↓reduceIte, Nat.reduceEqDiff]) | refine wo ?_)
    have e : l.take i = l := List.take_of_length_le (by omega)
    rw [e]
    exact Fin.is _ (by decide) rfl hK
end Go.Ag
namespace Go.Ag
open Go Go.Proofs
variable {G : Nat → Option (List V)}
attribute [local irreducible] aops qops Sat aop

theorem take_snoc {α : Type} {s : List α} {i : Nat} {b : α} (h : s[i]? = some b) : s.take (i + 1) = s.take i ++ [b] := by rw [List.take_add_one, h]; rfl
theorem slice_one {α : Type} {s : List α} {i : Nat} {b : α} (h : s[i]? = some b) : (s.take (i + 1)).drop i = [b] := by
  have hl := (List.getElem?_eq_some_iff.1 h).1
  rw [take_snoc h, List.drop_append_of_le_length (by simp; omega), List.drop_of_length_le (by simp; omega)]; rfl

theorem partsFold_len (s : Str) : ∀ (l : Str) (o : List Str) (a : Str), (l.foldl partsStep (o, a)).1.length ≤ o.length + l.length ∧ (l.foldl partsStep (o, a)).2.length ≤ a.length + l.length := by
  intro l
  induction l with
  | nil => intro o a; simp
  | cons b l ih =>
    intro o a
    simp only [List.foldl_cons, partsStep]
    split
    · have := ih o (a ++ [b]); simp at this ⊢; omega
    · split
      · have := ih (o ++ [a]) []; simp at this ⊢; omega
      · have := ih o []; simp at this ⊢; omega

set_option maxHeartbeats 4000000 in
theorem spec_rParts (s : Str) (hs : s.length ≤ 1099511627776) (H : List Ob) (K : D → List Ob → Prop) (hK : K (.v (strs (partsR s))) H) : ACalls Tryd.prog G 82 [.v (.str s)] H K := by
  refine ACalls.go Tryd.f82 _ 36 [2] Tryd.func82 rfl Tryd.ntmps82 (by kernel_rfl) rfl (by simp) (fun E hE hP hG hH => ?_)
  have hM : E.P.follows .mixedOrders = true := hP ▸ mixed
  subst hH
  simp only [args0]
  repeat (first | refine wa ?_ | refine wb rfl ?_ | refine wc rfl rfl hM ?_ | refine wd rfl hM ?_ | ((first | refine we rfl fun K hK => ?_ | refine wf rfl rfl fun K hK => ?_ | refine wg rfl rfl fun K hK => ?_ | refine wh rfl fun K hK => ?_); (simp only [lo, ld, ↓aop, ↓aCall, hP, hG, Nat.reduceLT, ↓reduceIte, Nat.reduceEqDiff, Nat.reduceAdd, Nat.reduceMul, Nat.reduceLeDiff, reduceCtorEq, D.cs, D.plain, fillD, chop, List.replicate, tk_9, ze_9, sz_9]; repeat (with_reducible refine And.intro ?_ ?_; focus (first | decide | omega | (simp only [ln]; omega)))); try ((first | refine hK _ _ ?_ | refine hK _ ?_); clear hK K; simp only [lp])) | ((first | refine wi ?_ | refine wj ?_ | refine wk ?_ | refine wl ?_ | refine wm ?_ | refine wn ?_); simp only [lt, ↓reduceIte, Nat.reduceEqDiff]) | refine wo ?_)
  refine sat_loop_ent (fun n ts H => ∃ (i : Nat) (o : List Str) (a : Str) (d : D) (L : List Ob), n = s.length - i ∧ i ≤ s.length ∧ (s.take i).foldl partsStep ([], []) = (o, a) ∧ Acs E 1 1 (o.map fun s => [.str s]) d L ∧
    ts = fr 36 [(5, .v (.int .i64 i)), (4, .v (.str a)), (3, d), (0, .v (.str s))] ∧ H = E.H0 ++ L) (s.length) (.weakFr ?_) ⟨0, [], [], _, [], rfl, Nat.zero_le _, rfl, Acs.start 1 1, rfl, (List.append_nil _).symm⟩ ?_
  · simp only [le, ↓reduceIte, Nat.reduceEqDiff, and_true]; repeat' (first | exact trivial | exact D.le_refl _ | exact D.le_any _ | with_reducible refine And.intro ?_ ?_)
  rintro n ts H ⟨i, o, a, d, L, rfl, hi, hf, hA, rfl, rfl⟩
  have hlen : o.length ≤ i ∧ a.length ≤ i := by have := partsFold_len s (s.take i) [] []; rw [hf] at this; simp at this; omega
  repeat (first | refine wa ?_ | refine wb rfl ?_ | refine wc rfl rfl hM ?_ | refine wd rfl hM ?_ | ((first | refine we rfl fun K hK => ?_ | refine wf rfl rfl fun K hK => ?_ | refine wg rfl rfl fun K hK => ?_ | refine wh rfl fun K hK => ?_); (simp only [lo, ld, ↓aop, ↓aCall, hP, hG, Nat.reduceLT, ↓reduceIte, Nat.reduceEqDiff, Nat.reduceAdd, Nat.reduceMul, Nat.reduceLeDiff, reduceCtorEq, D.cs, D.plain, fillD, chop, List.replicate, tk_9, ze_9, sz_9]; repeat (with_reducible refine And.intro ?_ ?_; focus (first | decide | omega | (simp only [ln]; omega)))); try ((first | refine hK _ _ ?_ | refine hK _ ?_); clear hK K; simp only [lp])) | ((first | refine wi ?_ | refine wj ?_ | refine wk ?_ | refine wl ?_ | refine wm ?_ | refine wn ?_); simp only [lt, ↓reduceIte, Nat.reduceEqDiff]) | refine wo ?_)
  refine sat_cond rfl (fun hc => ?_) (fun hc => ?_)
  · simp at hc
    obtain ⟨b, hb⟩ : ∃ b, s[i]? = some b := ⟨_, List.getElem?_eq_getElem hc⟩
    have hw := wrap_succ (i := i) (by omega)
    have ef : (s.take (i + 1)).foldl partsStep ([], []) = partsStep (o, a) b := by rw [take_snoc hb, List.foldl_append, hf]; rfl
    have e1 := slice_one hb
    have hii : i ≤ i + 1 := by omega
    have his : i + 1 ≤ s.length := hc
    have hb47 : ((b.toNat : Int) == 47) = (b == 47) := byteEq b 47 (by decide)
    repeat (first | refine wa ?_ | refine wb rfl ?_ | refine wc rfl rfl hM ?_ | refine wd rfl hM ?_ | ((first | refine we rfl fun K hK => ?_ | refine wf rfl rfl fun K hK => ?_ | refine wg rfl rfl fun K hK => ?_ | refine wh rfl fun K hK => ?_); (simp only [lo, ld, ↓aop, ↓aCall, hP, hG, Nat.reduceLT, ↓reduceIte, Nat.reduceEqDiff, Nat.reduceAdd, Nat.reduceMul, Nat.reduceLeDiff, reduceCtorEq, D.cs, D.plain, fillD, chop, List.replicate, tk_9, ze_9, sz_9, hc, hb, hb47]; repeat (with_reducible refine And.intro ?_ ?_; focus (first | decide | omega | (simp only [ln]; omega)))); try ((first | refine hK _ _ ?_ | refine hK _ ?_); clear hK K; simp only [lp])) | ((first | refine wi ?_ | refine wj ?_ | refine wk ?_ | refine wl ?_ | refine wm ?_ | refine wn ?_); simp only [lt, ↓reduceIte, Nat.reduceEqDiff]) | refine wo ?_)
    refine sat_cond rfl (fun h1 => ?_) (fun h1 => ?_)
    · repeat (first | refine wa ?_ | refine wb rfl ?_ | refine wc rfl rfl hM ?_ | refine wd rfl hM ?_ | ((first | refine we rfl fun K hK => ?_ | refine wf rfl rfl fun K hK => ?_ | refine wg rfl rfl fun K hK => ?_ | refine wh rfl fun K hK => ?_); (simp only [lo, ld, ↓aop, ↓aCall, hP, hG, Nat.reduceLT, ↓reduceIte, Nat.reduceEqDiff, Nat.reduceAdd, Nat.reduceMul, Nat.reduceLeDiff, reduceCtorEq, D.cs, D.plain, fillD, chop, List.replicate, tk_9, ze_9, sz_9, hc, hb, hw]; repeat (with_reducible refine And.intro ?_ ?_; focus (first | decide | omega | (simp only [ln]; omega)))); try ((first | refine hK _ _ ?_ | refine hK _ ?_); clear hK K; simp only [lp])) | ((first | refine wi ?_ | refine wj ?_ | refine wk ?_ | refine wl ?_ | refine wm ?_ | refine wn ?_); simp only [lt, ↓reduceIte, Nat.reduceEqDiff]) | refine wo ?_)
      have e2 : partsStep (o, a) b = (o, a ++ [b]) := by simp only [partsStep, h1, if_true]
      refine ⟨s.length - (i + 1), _, _, by omega, .weakFr ?_, i + 1, o, a ++ [b], d, L, rfl, by omega, by rw [ef, e2], hA, rfl, rfl⟩
      rw [← e1]
      simp only [le, ↓reduceIte, Nat.reduceEqDiff, and_true]; repeat' (first | exact trivial | exact D.le_refl _ | exact D.le_any _ | with_reducible refine And.intro ?_ ?_)
    · repeat (first | refine wa ?_ | refine wb rfl ?_ | refine wc rfl rfl hM ?_ | refine wd rfl hM ?_ | ((first | refine we rfl fun K hK => ?_ | refine wf rfl rfl fun K hK => ?_ | refine wg rfl rfl fun K hK => ?_ | refine wh rfl fun K hK => ?_); (simp only [lo, ld, ↓aop, ↓aCall, hP, hG, Nat.reduceLT, ↓reduceIte, Nat.reduceEqDiff, Nat.reduceAdd, Nat.reduceMul, Nat.reduceLeDiff, reduceCtorEq, D.cs, D.plain, fillD, chop, List.replicate, tk_9, ze_9, sz_9, hc, hb, hw]; repeat (with_reducible refine And.intro ?_ ?_; focus (first | decide | omega | (simp only [ln]; omega)))); try ((first | refine hK _ _ ?_ | refine hK _ ?_); clear hK K; simp only [lp])) | ((first | refine wi ?_ | refine wj ?_ | refine wk ?_ | refine wl ?_ | refine wm ?_ | refine wn ?_); simp only [lt, ↓reduceIte, Nat.reduceEqDiff]) | refine wo ?_)
      refine sat_cond rfl (fun h2 => ?_) (fun h2 => ?_)
      · have e2 : partsStep (o, a) b = (o ++ [a], []) := by simp only [partsStep, h1, h2, if_true, Bool.false_eq_true, if_false]
        rcases hA with ⟨h0, rfl, rfl⟩ | ⟨ver, zs, hv, hle, hz, rfl, rfl⟩
        · have h0 : o = [] := by simpa using h0
          subst h0
          repeat (first | refine wa ?_ | refine wb rfl ?_ | refine wc rfl rfl hM ?_ | refine wd rfl hM ?_ | ((first | refine we rfl fun K hK => ?_ | refine wf rfl rfl fun K hK => ?_ | refine wg rfl rfl fun K hK => ?_ | refine wh rfl fun K hK => ?_); (simp only [lo, ld, ↓aop, ↓aCall, hP, hG, Nat.reduceLT, ↓reduceIte, Nat.reduceEqDiff, Nat.reduceAdd, Nat.reduceMul, Nat.reduceLeDiff, reduceCtorEq, D.cs, D.plain, fillD, chop, List.replicate, tk_9, ze_9, sz_9, tk_50, ze_50, sz_50, hw]; repeat (with_reducible refine And.intro ?_ ?_; focus (first | decide | omega | (simp only [ln]; omega)))); try ((first | refine hK _ _ ?_ | refine hK _ ?_); clear hK K; simp only [lp])) | ((first | refine wi ?_ | refine wj ?_ | refine wk ?_ | refine wl ?_ | refine wm ?_ | refine wn ?_); simp only [lt, ↓reduceIte, Nat.reduceEqDiff]) | refine wo ?_)
          refine ⟨s.length - (i + 1), _, _, by omega, ?_, i + 1, [a], [], .own (E.H0.length + 1) 1 1, [.dead, .arr 1 1 [[.v (.str a)]] 0], rfl, by omega, by rw [ef, e2]; rfl, .inr ⟨1, [[.str a]], Nat.le_refl _, Nat.le_refl _, rfl, rfl, rfl⟩, rfl, rfl⟩
          refine Ent.trip hE ?_ ?_ ?_ ?_
          · simp only [le, ↓reduceIte, Nat.reduceEqDiff, and_true]; repeat' (first | exact trivial | exact D.le_refl _ | exact D.le_any _ | with_reducible refine And.intro ?_ ?_)
          · simp [leObs_cons, leObs_nil]
          · simp [ltAll, ltObs, Ob.lt, D.lt, D.ltL, or_imp, forall_and]
          · simp [ltAll, ltObs, Ob.lt, D.lt, D.ltL, or_imp, forall_and]
        · simp only [List.length_map] at hle hz
          repeat (first | refine wa ?_ | refine wb rfl ?_ | refine wc rfl rfl hM ?_ | refine wd rfl hM ?_ | ((first | refine we rfl fun K hK => ?_ | refine wf rfl rfl fun K hK => ?_ | refine wg rfl rfl fun K hK => ?_ | refine wh rfl fun K hK => ?_); (simp only [lo, ld, ↓aop, ↓aCall, hP, hG, Nat.reduceLT, ↓reduceIte, Nat.reduceEqDiff, Nat.reduceAdd, Nat.reduceMul, Nat.reduceLeDiff, reduceCtorEq, D.cs, D.plain, fillD, chop, List.replicate, tk_9, ze_9, sz_9, tk_50, ze_50, sz_50, hw]; repeat (with_reducible refine And.intro ?_ ?_; focus (first | decide | omega | (simp only [ln]; omega)))); try ((first | refine hK _ _ ?_ | refine hK _ ?_); clear hK K; simp only [lp])) | ((first | refine wi ?_ | refine wj ?_ | refine wk ?_ | refine wl ?_ | refine wm ?_ | refine wn ?_); simp only [lt, ↓reduceIte, Nat.reduceEqDiff]) | refine wo ?_)
          refine ⟨s.length - (i + 1), _, _, by omega, ?_, i + 1, o ++ [a], [], .own (E.H0.length + 1) (ver + 1) (o.length + 1), [.dead, .arr (ver + 1) 1 (((o ++ [a]).map fun s => [V.str s]).map (·.map .v)) 0], rfl, by omega, by rw [ef, e2], .inr ⟨ver + 1, (o ++ [a]).map fun s => [V.str s], by omega, Nat.le_refl _, take_len _, by simp, rfl⟩, rfl, rfl⟩
          refine Ent.trip hE ?_ ?_ ?_ ?_
          · simp only [le, ↓reduceIte, Nat.reduceEqDiff, and_true]; repeat' (first | exact trivial | exact D.le_refl _ | exact D.le_any _ | with_reducible refine And.intro ?_ ?_)
          · simp [leObs_cons, leObs_nil]
            rw [← List.map_take, hz]; simp
          · simp [ltAll, ltObs, Ob.lt, D.lt, D.ltL, or_imp, forall_and]
          · exact ⟨trivial, ltRows _ _, trivial⟩
      · have h2' : a = [] := by simpa using h2
        subst h2'
        have e2 : partsStep (o, []) b = (o, []) := by simp only [partsStep, h1, h2, Bool.false_eq_true, if_false]
        repeat (first | refine wa ?_ | refine wb rfl ?_ | refine wc rfl rfl hM ?_ | refine wd rfl hM ?_ | ((first | refine we rfl fun K hK => ?_ | refine wf rfl rfl fun K hK => ?_ | refine wg rfl rfl fun K hK => ?_ | refine wh rfl fun K hK => ?_); (simp only [lo, ld, ↓aop, ↓aCall, hP, hG, Nat.reduceLT, ↓reduceIte, Nat.reduceEqDiff, Nat.reduceAdd, Nat.reduceMul, Nat.reduceLeDiff, reduceCtorEq, D.cs, D.plain, fillD, chop, List.replicate, tk_9, ze_9, sz_9, tk_50, ze_50, sz_50, hw]; repeat (with_reducible refine And.intro ?_ ?_; focus (first | decide | omega | (simp only [ln]; omega)))); try ((first | refine hK _ _ ?_ | refine hK _ ?_); clear hK K; simp only [lp])) | ((first | refine wi ?_ | refine wj ?_ | refine wk ?_ | refine wl ?_ | refine wm ?_ | refine wn ?_); simp only [lt, ↓reduceIte, Nat.reduceEqDiff]) | refine wo ?_)
        refine ⟨s.length - (i + 1), _, _, by omega, .weakFr ?_, i + 1, o, [], d, L, rfl, by omega, by rw [ef, e2], hA, rfl, rfl⟩
        simp only [le, ↓reduceIte, Nat.reduceEqDiff, and_true]; repeat' (first | exact trivial | exact D.le_refl _ | exact D.le_any _ | with_reducible refine And.intro ?_ ?_)
  · simp at hc
    have e : s.take i = s := List.take_of_length_le (by omega)
    rw [e] at hf
    repeat (first | refine wa ?_ | refine wb rfl ?_ | refine wc rfl rfl hM ?_ | refine wd rfl hM ?_ | ((first | refine we rfl fun K hK => ?_ | refine wf rfl rfl fun K hK => ?_ | refine wg rfl rfl fun K hK => ?_ | refine wh rfl fun K hK => ?_); (simp only [lo, ld, ↓aop, ↓aCall, hP, hG, Nat.reduceLT, ↓reduceIte, Nat.reduceEqDiff, Nat.reduceAdd, Nat.reduceMul, Nat.reduceLeDiff, reduceCtorEq, D.cs, D.plain, fillD, chop, List.replicate, tk_9, ze_9, sz_9]; repeat (with_reducible refine And.intro ?_ ?_; focus (first | decide | omega | (simp only [ln]; omega)))); try ((first | refine hK _ _ ?_ | refine hK _ ?_); clear hK K; simp only [lp])) | ((first | refine wi ?_ | refine wj ?_ | refine wk ?_ | refine wl ?_ | refine wm ?_ | refine wn ?_); simp only [lt, ↓reduceIte, Nat.reduceEqDiff]) | refine wo ?_)
    refine sat_cond rfl (fun h2 => ?_) (fun h2 => ?_)
    · have e2 : partsR s = o ++ [a] := by simp only [partsR, hf, h2, if_true]
      rw [e2] at hK
      rcases hA with ⟨h0, rfl, rfl⟩ | ⟨ver, zs, hv, hle, hz, rfl, rfl⟩
      · have h0 : o = [] := by simpa using h0
        subst h0
        repeat (first | refine wa ?_ | refine wb rfl ?_ | refine wc rfl rfl hM ?_ | refine wd rfl hM ?_ | ((first | refine we rfl fun K hK => ?_ | refine wf rfl rfl fun K hK => ?_ | refine wg rfl rfl fun K hK => ?_ | refine wh rfl fun K hK => ?_); (simp only [lo, ld, ↓aop, ↓aCall, hP, hG, Nat.reduceLT, ↓reduceIte, Nat.reduceEqDiff, Nat.reduceAdd, Nat.reduceMul, Nat.reduceLeDiff, reduceCtorEq, D.cs, D.plain, fillD, chop, List.replicate, tk_9, ze_9, sz_9, tk_50, ze_50, sz_50]; repeat (with_reducible refine And.intro ?_ ?_; focus (first | decide | omega | (simp only [ln]; omega)))); try ((first | refine hK _ _ ?_ | refine hK _ ?_); clear hK K; simp only [lp])) | ((first | refine wi ?_ | refine wj ?_ | refine wk ?_ | refine wl ?_ | refine wm ?_ | refine wn ?_); simp only [lt, ↓reduceIte, Nat.reduceEqDiff]) | refine wo ?_)
        refine Fin.ent (Ent.trip (l' := [(2, .own (E.H0.length + 1) 1 1)]) (L' := [.dead, .arr 1 1 [[.v (.str a)]] 0]) hE ?_ ?_ ?_ ?_) (Fin.acs (m := 1) (ys := [[.str a]]) hE (.inr ⟨1, [[.str a]], Nat.le_refl _, Nat.le_refl _, rfl, rfl, rfl⟩) (by decide) rfl hK)
        · simp only [le, ↓reduceIte, Nat.reduceEqDiff, and_true]; repeat' (first | exact trivial | exact D.le_refl _ | exact D.le_any _ | with_reducible refine And.intro ?_ ?_)
        · simp [leObs_cons, leObs_nil]
        · simp [ltAll, ltObs, Ob.lt, D.lt, D.ltL, or_imp, forall_and]
        · simp [ltAll, ltObs, Ob.lt, D.lt, D.ltL, or_imp, forall_and]
      · simp only [List.length_map] at hle hz
        repeat (first | refine wa ?_ | refine wb rfl ?_ | refine wc rfl rfl hM ?_ | refine wd rfl hM ?_ | ((first | refine we rfl fun K hK => ?_ | refine wf rfl rfl fun K hK => ?_ | refine wg rfl rfl fun K hK => ?_ | refine wh rfl fun K hK => ?_); (simp only [lo, ld, ↓aop, ↓aCall, hP, hG, Nat.reduceLT, ↓reduceIte, Nat.reduceEqDiff, Nat.reduceAdd, Nat.reduceMul, Nat.reduceLeDiff, reduceCtorEq, D.cs, D.plain, fillD, chop, List.replicate, tk_9, ze_9, sz_9, tk_50, ze_50, sz_50]; repeat (with_reducible refine And.intro ?_ ?_; focus (first | decide | omega | (simp only [ln]; omega)))); try ((first | refine hK _ _ ?_ | refine hK _ ?_); clear hK K; simp only [lp])) | ((first | refine wi ?_ | refine wj ?_ | refine wk ?_ | refine wl ?_ | refine wm ?_ | refine wn ?_); simp only [lt, ↓reduceIte, Nat.reduceEqDiff]) | refine wo ?_)
        refine Fin.ent (Ent.trip (l' := [(2, .own (E.H0.length + 1) (ver + 1) (o.length + 1))]) (L' := [.dead, .arr (ver + 1) 1 (((o ++ [a]).map fun s => [V.str s]).map (·.map .v)) 0]) hE ?_ ?_ ?_ ?_) (Fin.acs (m := 1) (d := .own (E.H0.length + 1) (ver + 1) (o.length + 1)) (ys := (o ++ [a]).map fun s => [V.str s]) hE (.inr ⟨ver + 1, (o ++ [a]).map fun s => [V.str s], by omega, Nat.le_refl _, take_len _, by simp, rfl⟩) (by decide) rfl hK)
        · simp only [le, ↓reduceIte, Nat.reduceEqDiff, and_true]; repeat' (first | exact trivial | exact D.le_refl _ | exact D.le_any _ | with_reducible refine And.intro ?_ ?_)
        · simp [leObs_cons, leObs_nil]
          rw [← List.map_take, hz]; simp
        · simp [ltAll, ltObs, Ob.lt, D.lt, D.ltL, or_imp, forall_and]
        · exact ⟨trivial, ltRows _ _, trivial⟩
    · have e2 : partsR s = o := by simp only [partsR, hf, h2, Bool.false_eq_true, if_false]
      rw [e2] at hK
      repeat (first | refine wa ?_ | refine wb rfl ?_ | refine wc rfl rfl hM ?_ | refine wd rfl hM ?_ | ((first | refine we rfl fun K hK => ?_ | refine wf rfl rfl fun K hK => ?_ | refine wg rfl rfl fun K hK => ?_ | refine wh rfl fun K hK => ?_); (simp only [lo, ld, ↓aop, ↓aCall, hP, hG, Nat.reduceLT, ↓reduceIte, Nat.reduceEqDiff, Nat.reduceAdd, Nat.reduceMul, Nat.reduceLeDiff, reduceCtorEq, D.cs, D.plain, fillD, chop, List.replicate, tk_9, ze_9, sz_9, tk_50, ze_50, sz_50]; repeat (with_reducible refine And.intro ?_ ?_; focus (first | decide | omega | (simp only [ln]; omega)))); try ((first | refine hK _ _ ?_ | refine hK _ ?_); clear hK K; simp only [lp])) | ((first | refine wi ?_ | refine wj ?_ | refine wk ?_ | refine wl ?_ | refine wm ?_ | refine wn ?_); simp only [lt, ↓reduceIte, Nat.reduceEqDiff]) | refine wo ?_)
      exact Fin.acs hE hA (by decide) rfl hK
end Go.Ag
namespace Go.Ag
open Go Go.Proofs
variable {G : Nat → Option (List V)}
attribute [local irreducible] aops qops Sat aop

theorem splitFold_len (c : UInt8) : ∀ (l : Str) (o : List Str) (a : Str), (l.foldl (splitStep c) (o, a)).1.length ≤ o.length + l.length ∧ (l.foldl (splitStep c) (o, a)).2.length ≤ a.length + l.length := by
  intro l
  induction l with
  | nil => intro o a; simp
  | cons b l ih =>
    intro o a
    simp only [List.foldl_cons, splitStep]
    split
    · have := ih (o ++ [a]) []; simp at this ⊢; omega
    · have := ih o (a ++ [b]); simp at this ⊢; omega
theorem u8_beq (b c : UInt8) : ((b.toNat : Int) == (c.toNat : Int)) = (b == c) := by
  rw [Bool.eq_iff_iff, beq_iff_eq, beq_iff_eq]
  exact ⟨fun e => UInt8.toNat_inj.1 (Int.ofNat.inj e), fun e => by rw [e]⟩

set_option maxHeartbeats 4000000 in
theorem spec_rSplit (s : Str) (c : UInt8) (hs : s.length ≤ 1099511627776) (H : List Ob) (K : D → List Ob → Prop) (hK : K (.v (strs (splitR c s))) H) : ACalls Tryd.prog G 59 [.v (.str s), .v (.int .u8 c.toNat)] H K := by
  refine ACalls.go Tryd.f59 _ 34 [4] Tryd.func59 rfl Tryd.ntmps59 (by kernel_rfl) rfl (by simp) (fun E hE hP hG hH => ?_)
  have hM : E.P.follows .mixedOrders = true := hP ▸ mixed
  subst hH
  simp only [args0]
  repeat (first | refine wa ?_ | refine wb rfl ?_ | refine wc rfl rfl hM ?_ | refine wd rfl hM ?_ | ((first | refine we rfl fun K hK => ?_ | refine wf rfl rfl fun K hK => ?_ | refine wg rfl rfl fun K hK => ?_ | refine wh rfl fun K hK => ?_); (simp only [lo, ld, ↓aop, ↓aCall, hP, hG, Nat.reduceLT, ↓reduceIte, Nat.reduceEqDiff, Nat.reduceAdd, Nat.reduceMul, Nat.reduceLeDiff, reduceCtorEq, D.cs, D.plain, fillD, chop, List.replicate, tk_9, ze_9, sz_9]; repeat (with_reducible refine And.intro ?_ ?_; focus (first | decide | omega | (simp only [ln]; omega)))); try ((first | refine hK _ _ ?_ | refine hK _ ?_); clear hK K; simp only [lp])) | ((first | refine wi ?_ | refine wj ?_ | refine wk ?_ | refine wl ?_ | refine wm ?_ | refine wn ?_); simp only [lt, ↓reduceIte, Nat.reduceEqDiff]) | refine wo ?_)
  refine sat_loop_ent (fun n ts H => ∃ (i : Nat) (o : List Str) (a : Str) (d : D) (L : List Ob), n = s.length - i ∧ i ≤ s.length ∧ (s.take i).foldl (splitStep c) ([], []) = (o, a) ∧ Acs E 1 1 (o.map fun s => [.str s]) d L ∧
    ts = fr 34 [(7, .v (.int .i64 i)), (6, .v (.str a)), (5, d), (1, .v (.int .u8 c.toNat)), (0, .v (.str s))] ∧ H = E.H0 ++ L) (s.length) (.weakFr ?_) ⟨0, [], [], _, [], rfl, Nat.zero_le _, rfl, Acs.start 1 1, rfl, (List.append_nil _).symm⟩ ?_
  · simp only [le, ↓reduceIte, Nat.reduceEqDiff, and_true]; repeat' (first | exact trivial | exact D.le_refl _ | exact D.le_any _ | with_reducible refine And.intro ?_ ?_)
  rintro n ts H ⟨i, o, a, d, L, rfl, hi, hf, hA, rfl, rfl⟩
  have hlen : o.length ≤ i ∧ a.length ≤ i := by have := splitFold_len c (s.take i) [] []; rw [hf] at this; simp at this; omega
  repeat (first | refine wa ?_ | refine wb rfl ?_ | refine wc rfl rfl hM ?_ | refine wd rfl hM ?_ | ((first | refine we rfl fun K hK => ?_ | refine wf rfl rfl fun K hK => ?_ | refine wg rfl rfl fun K hK => ?_ | refine wh rfl fun K hK => ?_); (simp only [lo, ld, ↓aop, ↓aCall, hP, hG, Nat.reduceLT, ↓reduceIte, Nat.reduceEqDiff, Nat.reduceAdd, Nat.reduceMul, Nat.reduceLeDiff, reduceCtorEq, D.cs, D.plain, fillD, chop, List.replicate, tk_9, ze_9, sz_9]; repeat (with_reducible refine And.intro ?_ ?_; focus (first | decide | omega | (simp only [ln]; omega)))); try ((first | refine hK _ _ ?_ | refine hK _ ?_); clear hK K; simp only [lp])) | ((first | refine wi ?_ | refine wj ?_ | refine wk ?_ | refine wl ?_ | refine wm ?_ | refine wn ?_); simp only [lt, ↓reduceIte, Nat.reduceEqDiff]) | refine wo ?_)
  refine sat_cond rfl (fun hc => ?_) (fun hc => ?_)
  · simp at hc
    obtain ⟨b, hb⟩ : ∃ b, s[i]? = some b := ⟨_, List.getElem?_eq_getElem hc⟩
    have hw := wrap_succ (i := i) (by omega)
    have ef : (s.take (i + 1)).foldl (splitStep c) ([], []) = splitStep c (o, a) b := by rw [take_snoc hb, List.foldl_append, hf]; rfl
    have e1 := slice_one hb
    have hii : i ≤ i + 1 := by omega
    have his : i + 1 ≤ s.length := hc
    have hbc := u8_beq b c
    repeat (first | refine wa ?_ | refine wb rfl ?_ | refine wc rfl rfl hM ?_ | refine wd rfl hM ?_ | ((first | refine we rfl fun K hK => ?_ | refine wf rfl rfl fun K hK => ?_ | refine wg rfl rfl fun K hK => ?_ | refine wh rfl fun K hK => ?_); (simp only [lo, ld, ↓aop, ↓aCall, hP, hG, Nat.reduceLT, ↓reduceIte, Nat.reduceEqDiff, Nat.reduceAdd, Nat.reduceMul, Nat.reduceLeDiff, reduceCtorEq, D.cs, D.plain, fillD, chop, List.replicate, tk_9, ze_9, sz_9, tk_5, ze_5, sz_5, hc, hb, hbc]; repeat (with_reducible refine And.intro ?_ ?_; focus (first | decide | omega | (simp only [ln]; omega)))); try ((first | refine hK _ _ ?_ | refine hK _ ?_); clear hK K; simp only [lp])) | ((first | refine wi ?_ | refine wj ?_ | refine wk ?_ | refine wl ?_ | refine wm ?_ | refine wn ?_); simp only [lt, ↓reduceIte, Nat.reduceEqDiff]) | refine wo ?_)
    refine sat_cond rfl (fun h1 => ?_) (fun h1 => ?_)
    · have e2 : splitStep c (o, a) b = (o ++ [a], []) := by simp only [splitStep, h1, if_true]
      rcases hA with ⟨h0, rfl, rfl⟩ | ⟨ver, zs, hv, hle, hz, rfl, rfl⟩
      · have h0 : o = [] := by simpa using h0
        subst h0
        repeat (first | refine wa ?_ | refine wb rfl ?_ | refine wc rfl rfl hM ?_ | refine wd rfl hM ?_ | ((first | refine we rfl fun K hK => ?_ | refine wf rfl rfl fun K hK => ?_ | refine wg rfl rfl fun K hK => ?_ | refine wh rfl fun K hK => ?_); (simp only [lo, ld, ↓aop, ↓aCall, hP, hG, Nat.reduceLT, ↓reduceIte, Nat.reduceEqDiff, Nat.reduceAdd, Nat.reduceMul, Nat.reduceLeDiff, reduceCtorEq, D.cs, D.plain, fillD, chop, List.replicate, tk_9, ze_9, sz_9, tk_50, ze_50, sz_50, hw]; repeat (with_reducible refine And.intro ?_ ?_; focus (first | decide | omega | (simp only [ln]; omega)))); try ((first | refine hK _ _ ?_ | refine hK _ ?_); clear hK K; simp only [lp])) | ((first | refine wi ?_ | refine wj ?_ | refine wk ?_ | refine wl ?_ | refine wm ?_ | refine wn ?_); simp only [lt, ↓reduceIte, Nat.reduceEqDiff]) | refine wo ?_)
        refine ⟨s.length - (i + 1), _, _, by omega, ?_, i + 1, [a], [], .own (E.H0.length + 1) 1 1, [.dead, .arr 1 1 [[.v (.str a)]] 0], rfl, by omega, by rw [ef, e2]; rfl, .inr ⟨1, [[.str a]], Nat.le_refl _, Nat.le_refl _, rfl, rfl, rfl⟩, rfl, rfl⟩
        refine Ent.trip hE ?_ ?_ ?_ ?_
        · simp only [le, ↓reduceIte, Nat.reduceEqDiff, and_true]; repeat' (first | exact trivial | exact D.le_refl _ | exact D.le_any _ | with_reducible refine And.intro ?_ ?_)
        · simp [leObs_cons, leObs_nil]
        · simp [ltAll, ltObs, Ob.lt, D.lt, D.ltL, or_imp, forall_and]
        · simp [ltAll, ltObs, Ob.lt, D.lt, D.ltL, or_imp, forall_and]
      · simp only [List.length_map] at hle hz
        repeat (first | refine wa ?_ | refine wb rfl ?_ | refine wc rfl rfl hM ?_ | refine wd rfl hM ?_ | ((first | refine we rfl fun K hK => ?_ | refine wf rfl rfl fun K hK => ?_ | refine wg rfl rfl fun K hK => ?_ | refine wh rfl fun K hK => ?_); (simp only [lo, ld, ↓aop, ↓aCall, hP, hG, Nat.reduceLT, ↓reduceIte, Nat.reduceEqDiff, Nat.reduceAdd, Nat.reduceMul, Nat.reduceLeDiff, reduceCtorEq, D.cs, D.plain, fillD, chop, List.replicate, tk_9, ze_9, sz_9, tk_50, ze_50, sz_50, hw]; repeat (with_reducible refine And.intro ?_ ?_; focus (first | decide | omega | (simp only [ln]; omega)))); try ((first | refine hK _ _ ?_ | refine hK _ ?_); clear hK K; simp only [lp])) | ((first | refine wi ?_ | refine wj ?_ | refine wk ?_ | refine wl ?_ | refine wm ?_ | refine wn ?_); simp only [lt, ↓reduceIte, Nat.reduceEqDiff]) | refine wo ?_)
        refine ⟨s.length - (i + 1), _, _, by omega, ?_, i + 1, o ++ [a], [], .own (E.H0.length + 1) (ver + 1) (o.length + 1), [.dead, .arr (ver + 1) 1 (((o ++ [a]).map fun s => [V.str s]).map (·.map .v)) 0], rfl, by omega, by rw [ef, e2], .inr ⟨ver + 1, (o ++ [a]).map fun s => [V.str s], by omega, Nat.le_refl _, take_len _, by simp, rfl⟩, rfl, rfl⟩
        refine Ent.trip hE ?_ ?_ ?_ ?_
        · simp only [le, ↓reduceIte, Nat.reduceEqDiff, and_true]; repeat' (first | exact trivial | exact D.le_refl _ | exact D.le_any _ | with_reducible refine And.intro ?_ ?_)
        · simp [leObs_cons, leObs_nil]
          rw [← List.map_take, hz]; simp
        · simp [ltAll, ltObs, Ob.lt, D.lt, D.ltL, or_imp, forall_and]
        · exact ⟨trivial, ltRows _ _, trivial⟩
    · repeat (first | refine wa ?_ | refine wb rfl ?_ | refine wc rfl rfl hM ?_ | refine wd rfl hM ?_ | ((first | refine we rfl fun K hK => ?_ | refine wf rfl rfl fun K hK => ?_ | refine wg rfl rfl fun K hK => ?_ | refine wh rfl fun K hK => ?_); (simp only [lo, ld, ↓aop, ↓aCall, hP, hG, Nat.reduceLT, ↓reduceIte, Nat.reduceEqDiff, Nat.reduceAdd, Nat.reduceMul, Nat.reduceLeDiff, reduceCtorEq, D.cs, D.plain, fillD, chop, List.replicate, tk_9, ze_9, sz_9, hc, hb, hw]; repeat (with_reducible refine And.intro ?_ ?_; focus (first | decide | omega | (simp only [ln]; omega)))); try ((first | refine hK _ _ ?_ | refine hK _ ?_); clear hK K; simp only [lp])) | ((first | refine wi ?_ | refine wj ?_ | refine wk ?_ | refine wl ?_ | refine wm ?_ | refine wn ?_); simp only [lt, ↓reduceIte, Nat.reduceEqDiff]) | refine wo ?_)
      have e2 : splitStep c (o, a) b = (o, a ++ [b]) := by simp only [splitStep, h1, Bool.false_eq_true, if_false]
      refine ⟨s.length - (i + 1), _, _, by omega, .weakFr ?_, i + 1, o, a ++ [b], d, L, rfl, by omega, by rw [ef, e2], hA, rfl, rfl⟩
      rw [← e1]
      simp only [le, ↓reduceIte, Nat.reduceEqDiff, and_true]; repeat' (first | exact trivial | exact D.le_refl _ | exact D.le_any _ | with_reducible refine And.intro ?_ ?_)
  · simp at hc
    have e : s.take i = s := List.take_of_length_le (by omega)
    rw [e] at hf
    have e2 : splitR c s = o ++ [a] := by simp only [splitR, hf]
    rw [e2] at hK
    rcases hA with ⟨h0, rfl, rfl⟩ | ⟨ver, zs, hv, hle, hz, rfl, rfl⟩
    · have h0 : o = [] := by simpa using h0
      subst h0
      repeat (first | refine wa ?_ | refine wb rfl ?_ | refine wc rfl rfl hM ?_ | refine wd rfl hM ?_ | ((first | refine we rfl fun K hK => ?_ | refine wf rfl rfl fun K hK => ?_ | refine wg rfl rfl fun K hK => ?_ | refine wh rfl fun K hK => ?_); (simp only [lo, ld, ↓aop, ↓aCall, hP, hG, Nat.reduceLT, ↓reduceIte, Nat.reduceEqDiff, Nat.reduceAdd, Nat.reduceMul, Nat.reduceLeDiff, reduceCtorEq, D.cs, D.plain, fillD, chop, List.replicate, tk_9, ze_9, sz_9, tk_50, ze_50, sz_50]; repeat (with_reducible refine And.intro ?_ ?_; focus (first | decide | omega | (simp only [ln]; omega)))); try ((first | refine hK _ _ ?_ | refine hK _ ?_); clear hK K; simp only [lp])) | ((first | refine wi ?_ | refine wj ?_ | refine wk ?_ | refine wl ?_ | refine wm ?_ | refine wn ?_); simp only [lt, ↓reduceIte, Nat.reduceEqDiff]) | refine wo ?_)
      refine Fin.ent (Ent.trip (l' := [(4, .own (E.H0.length + 1) 1 1)]) (L' := [.dead, .arr 1 1 [[.v (.str a)]] 0]) hE ?_ ?_ ?_ ?_) (Fin.acs (m := 1) (ys := [[.str a]]) hE (.inr ⟨1, [[.str a]], Nat.le_refl _, Nat.le_refl _, rfl, rfl, rfl⟩) (by decide) rfl hK)
      · simp only [le, ↓reduceIte, Nat.reduceEqDiff, and_true]; repeat' (first | exact trivial | exact D.le_refl _ | exact D.le_any _ | with_reducible refine And.intro ?_ ?_)
      · simp [leObs_cons, leObs_nil]
      · simp [ltAll, ltObs, Ob.lt, D.lt, D.ltL, or_imp, forall_and]
      · simp [ltAll, ltObs, Ob.lt, D.lt, D.ltL, or_imp, forall_and]
    · simp only [List.length_map] at hle hz
      repeat (first | refine wa ?_ | refine wb rfl ?_ | refine wc rfl rfl hM ?_ | refine wd rfl hM ?_ | ((first | refine we rfl fun K hK => ?_ | refine wf rfl rfl fun K hK => ?_ | refine wg rfl rfl fun K hK => ?_ | refine wh rfl fun K hK => ?_); (simp only [lo, ld, ↓aop, ↓aCall, hP, hG, Nat.reduceLT, ↓reduceIte, Nat.reduceEqDiff, Nat.reduceAdd, Nat.reduceMul, Nat.reduceLeDiff, reduceCtorEq, D.cs, D.plain, fillD, chop, List.replicate, tk_9, ze_9, sz_9, tk_50, ze_50, sz_50]; repeat (with_reducible refine And.intro ?_ ?_; focus (first | decide | omega | (simp only [ln]; omega)))); try ((first | refine hK _ _ ?_ | refine hK _ ?_); clear hK K; simp only [lp])) | ((first | refine wi ?_ | refine wj ?_ | refine wk ?_ | refine wl ?_ | refine wm ?_ | refine wn ?_); simp only [lt, ↓reduceIte, Nat.reduceEqDiff]) | refine wo ?_)
      refine Fin.ent (Ent.trip (l' := [(4, .own (E.H0.length + 1) (ver + 1) (o.length + 1))]) (L' := [.dead, .arr (ver + 1) 1 (((o ++ [a]).map fun s => [V.str s]).map (·.map .v)) 0]) hE ?_ ?_ ?_ ?_) (Fin.acs (m := 1) (d := .own (E.H0.length + 1) (ver + 1) (o.length + 1)) (ys := (o ++ [a]).map fun s => [V.str s]) hE (.inr ⟨ver + 1, (o ++ [a]).map fun s => [V.str s], by omega, Nat.le_refl _, take_len _, by simp, rfl⟩) (by decide) rfl hK)
      · simp only [le, ↓reduceIte, Nat.reduceEqDiff, and_true]; repeat' (first | exact trivial | exact D.le_refl _ | exact D.le_any _ | with_reducible refine And.intro ?_ ?_)
      · simp [leObs_cons, leObs_nil]
        rw [← List.map_take, hz]; simp
      · simp [ltAll, ltObs, Ob.lt, D.lt, D.ltL, or_imp, forall_and]
      · exact ⟨trivial, ltRows _ _, trivial⟩

theorem take_map_take' {α β : Type} (f : α → β) (l : List α) (k : Nat) : (l.map f).take k = (l.take k).map f := by rw [List.map_take]

set_option maxHeartbeats 4000000 in
theorem spec_rLines (s : Str) (hs : s.length ≤ 1099511627776) (H : List Ob) (K : D → List Ob → Prop) (hK : K (.tup [.v (strs (linesR s).1), .v (.bool (linesR s).2)]) H) : ACalls Tryd.prog G 33 [.v (.str s)] H K := by
  refine ACalls.go Tryd.f33 _ 19 [2, 3] Tryd.func33 rfl Tryd.ntmps33 (by kernel_rfl) rfl (by simp) (fun E hE hP hG hH => ?_)
  have hM : E.P.follows .mixedOrders = true := hP ▸ mixed
  subst hH
  simp only [args0]
  repeat (first | refine wa ?_ | refine wb rfl ?_ | refine wc rfl rfl hM ?_ | refine wd rfl hM ?_ | ((first | refine we rfl fun K hK => ?_ | refine wf rfl rfl fun K hK => ?_ | refine wg rfl rfl fun K hK => ?_ | refine wh rfl fun K hK => ?_); (simp only [lo, ld, ↓aop, ↓aCall, hP, hG, Nat.reduceLT, ↓reduceIte, Nat.reduceEqDiff, Nat.reduceAdd, Nat.reduceMul, Nat.reduceLeDiff, reduceCtorEq, D.cs, D.plain, fillD, chop, List.replicate, tk_9, ze_9, sz_9]; repeat (with_reducible refine And.intro ?_ ?_; focus (first | decide | omega | (simp only [ln]; omega)))); try ((first | refine hK _ _ ?_ | refine hK _ ?_); clear hK K; simp only [lp])) | ((first | refine wi ?_ | refine wj ?_ | refine wk ?_ | refine wl ?_ | refine wm ?_ | refine wn ?_); simp only [lt, ↓reduceIte, Nat.reduceEqDiff]) | refine wo ?_)
  refine spec_rSplit s 10 hs _ _ (hK _ _ ?_)
  clear hK K; simp only [lp]
  rw [splitR_eq]
  have hne : 1 ≤ (splitC 10 s).length := List.length_pos_iff.2 (splitC_ne 10 s)
  have hln := splitC_len 10 s
  obtain ⟨x, hx⟩ : ∃ x, (splitC 10 s)[(splitC 10 s).length - 1]? = some x := ⟨_, List.getElem?_eq_getElem (by omega)⟩
  have hw : IntKind.i64.wrap (((splitC 10 s).length : Int) - 1) = (((splitC 10 s).length - 1 : Nat) : Int) := by rw [IntKind.wrap_i64]; omega
  have hlt : (splitC 10 s).length - 1 < (splitC 10 s).length := by omega
  have hle : (splitC 10 s).length - 1 ≤ (splitC 10 s).length := by omega
  repeat (first | refine wa ?_ | refine wb rfl ?_ | refine wc rfl rfl hM ?_ | refine wd rfl hM ?_ | ((first | refine we rfl fun K hK => ?_ | refine wf rfl rfl fun K hK => ?_ | refine wg rfl rfl fun K hK => ?_ | refine wh rfl fun K hK => ?_); (simp only [lo, ld, ↓aop, ↓aCall, hP, hG, Nat.reduceLT, ↓reduceIte, Nat.reduceEqDiff, Nat.reduceAdd, Nat.reduceMul, Nat.reduceLeDiff, reduceCtorEq, D.cs, D.plain, fillD, chop, List.replicate, strs, tk_9, ze_9, sz_9, tk_50, ze_50, sz_50, tk_3, ze_3, sz_3, hw, hx, hlt, take_map_take']; repeat (with_reducible refine And.intro ?_ ?_; focus (first | decide | omega | (simp only [ln]; omega)))); try ((first | refine hK _ _ ?_ | refine hK _ ?_); clear hK K; simp only [lp])) | ((first | refine wi ?_ | refine wj ?_ | refine wk ?_ | refine wl ?_ | refine wm ?_ | refine wn ?_); simp only [lt, ↓reduceIte, Nat.reduceEqDiff]) | refine wo ?_)
  refine Fin.is2 _ _ (by decide) (by decide) rfl rfl ?_
  have : linesR s = ((splitC 10 s).take ((splitC 10 s).length - 1), x == []) := by
    simp only [linesR, List.getD_eq_getElem?_getD, hx, Option.getD_some]
  rw [this] at hK
  exact hK
end Go.Ag
namespace Go.Ag
open Go Go.Proofs
variable {G : Nat → Option (List V)}
attribute [local irreducible] aops qops Sat aop

set_option maxHeartbeats 4000000 in
theorem spec_rWords (s : Str) (hs : s.length ≤ 1099511627776) (H : List Ob) (K : D → List Ob → Prop) (hK : K (.v (strs (wordsL s))) H) : ACalls Tryd.prog G 34 [.v (.str s)] H K := by
  refine ACalls.go Tryd.f34 _ 27 [2] Tryd.func34 rfl Tryd.ntmps34 (by kernel_rfl) rfl (by simp) (fun E hE hP hG hH => ?_)
  have hM : E.P.follows .mixedOrders = true := hP ▸ mixed
  subst hH
  simp only [args0]
  repeat (first | refine wa ?_ | refine wb rfl ?_ | refine wc rfl rfl hM ?_ | refine wd rfl hM ?_ | ((first | refine we rfl fun K hK => ?_ | refine wf rfl rfl fun K hK => ?_ | refine wg rfl rfl fun K hK => ?_ | refine wh rfl fun K hK => ?_); (simp only [lo, ld, ↓aop, ↓aCall, hP, hG, Nat.reduceLT, ↓reduceIte, Nat.reduceEqDiff, Nat.reduceAdd, Nat.reduceMul, Nat.reduceLeDiff, reduceCtorEq, D.cs, D.plain, fillD, chop, List.replicate, tk_9, ze_9, sz_9]; repeat (with_reducible refine And.intro ?_ ?_; focus (first | decide | omega | (simp only [ln]; omega)))); try ((first | refine hK _ _ ?_ | refine hK _ ?_); clear hK K; simp only [lp])) | ((first | refine wi ?_ | refine wj ?_ | refine wk ?_ | refine wl ?_ | refine wm ?_ | refine wn ?_); simp only [lt, ↓reduceIte, Nat.reduceEqDiff]) | refine wo ?_)
  refine spec_rSplit s 32 hs _ _ (hK _ _ ?_)
  clear hK K; simp only [lp]
  rw [splitR_eq]
  have hll := splitC_len 32 s
  rw [wordsL] at hK
  revert hK hll
  generalize splitC 32 s = l
  intro hK hll
  repeat (first | refine wa ?_ | refine wb rfl ?_ | refine wc rfl rfl hM ?_ | refine wd rfl hM ?_ | ((first | refine we rfl fun K hK => ?_ | refine wf rfl rfl fun K hK => ?_ | refine wg rfl rfl fun K hK => ?_ | refine wh rfl fun K hK => ?_); (simp only [lo, ld, ↓aop, ↓aCall, hP, hG, Nat.reduceLT, ↓reduceIte, Nat.reduceEqDiff, Nat.reduceAdd, Nat.reduceMul, Nat.reduceLeDiff, reduceCtorEq, D.cs, D.plain, fillD, chop, List.replicate, strs, tk_9, ze_9, sz_9, tk_50, ze_50, sz_50]; repeat (with_reducible refine And.intro ?_ ?_; focus (first | decide | omega | (simp only [ln]; omega)))); try ((first | refine hK _ _ ?_ | refine hK _ ?_); clear hK K; simp only [lp])) | ((first | refine wi ?_ | refine wj ?_ | refine wk ?_ | refine wl ?_ | refine wm ?_ | refine wn ?_); simp only [lt, ↓reduceIte, Nat.reduceEqDiff]) | refine wo ?_)
  refine sat_loop_ent (fun n ts H => ∃ (i : Nat) (d : D) (L : List Ob), n = l.length - i ∧ i ≤ l.length ∧ Acs E 1 1 (((l.take i).filter fun p => !(p == [])).map fun s => [.str s]) d L ∧
    ts = fr 27 [(5, .v (.int .i64 i)), (4, .v (strs l)), (3, d)] ∧ H = E.H0 ++ L) (l.length) (.weakFr ?_) ⟨0, _, [], rfl, Nat.zero_le _, Acs.start 1 1, rfl, (List.append_nil _).symm⟩ ?_
  · simp only [le, ↓reduceIte, Nat.reduceEqDiff, and_true]; repeat' (first | exact trivial | exact D.le_refl _ | exact D.le_any _ | with_reducible refine And.intro ?_ ?_)
  rintro n ts H ⟨i, d, L, rfl, hi, hA, rfl, rfl⟩
  repeat (first | refine wa ?_ | refine wb rfl ?_ | refine wc rfl rfl hM ?_ | refine wd rfl hM ?_ | ((first | refine we rfl fun K hK => ?_ | refine wf rfl rfl fun K hK => ?_ | refine wg rfl rfl fun K hK => ?_ | refine wh rfl fun K hK => ?_); (simp only [lo, ld, ↓aop, ↓aCall, hP, hG, Nat.reduceLT, ↓reduceIte, Nat.reduceEqDiff, Nat.reduceAdd, Nat.reduceMul, Nat.reduceLeDiff, reduceCtorEq, D.cs, D.plain, fillD, chop, List.replicate, strs, tk_9, ze_9, sz_9, tk_50, ze_50, sz_50]; repeat (with_reducible refine And.intro ?_ ?_; focus (first | decide | omega | (simp only [ln]; omega)))); try ((first | refine hK _ _ ?_ | refine hK _ ?_); clear hK K; simp only [lp])) | ((first | refine wi ?_ | refine wj ?_ | refine wk ?_ | refine wl ?_ | refine wm ?_ | refine wn ?_); simp only [lt, ↓reduceIte, Nat.reduceEqDiff]) | refine wo ?_)
  refine sat_cond rfl (fun hc => ?_) (fun hc => ?_)
  · simp at hc
    obtain ⟨x, hx⟩ : ∃ x, l[i]? = some x := ⟨_, List.getElem?_eq_getElem hc⟩
    have hw := wrap_succ (i := i) (by omega)
    have hlen : ((l.take i).filter fun p => !(p == [])).length ≤ i := Nat.le_trans (List.length_filter_le _ _) (by simp; omega)
    have ef : (l.take (i + 1)).filter (fun p => !(p == [])) = (l.take i).filter (fun p => !(p == [])) ++ (if !(x == []) then [x] else []) := by
      rw [take_snoc hx, List.filter_append, List.filter_cons, List.filter_nil]
    revert hA hlen ef
    generalize (l.take i).filter (fun p => !(p == [])) = o
    intro hA hlen ef
    repeat (first | refine wa ?_ | refine wb rfl ?_ | refine wc rfl rfl hM ?_ | refine wd rfl hM ?_ | ((first | refine we rfl fun K hK => ?_ | refine wf rfl rfl fun K hK => ?_ | refine wg rfl rfl fun K hK => ?_ | refine wh rfl fun K hK => ?_); (simp only [lo, ld, ↓aop, ↓aCall, hP, hG, Nat.reduceLT, ↓reduceIte, Nat.reduceEqDiff, Nat.reduceAdd, Nat.reduceMul, Nat.reduceLeDiff, reduceCtorEq, D.cs, D.plain, fillD, chop, List.replicate, strs, tk_9, ze_9, sz_9, tk_50, ze_50, sz_50, hc, hx]; repeat (with_reducible refine And.intro ?_ ?_; focus (first | decide | omega | (simp only [ln]; omega)))); try ((first | refine hK _ _ ?_ | refine hK _ ?_); clear hK K; simp only [lp])) | ((first | refine wi ?_ | refine wj ?_ | refine wk ?_ | refine wl ?_ | refine wm ?_ | refine wn ?_); simp only [lt, ↓reduceIte, Nat.reduceEqDiff]) | refine wo ?_)
    refine sat_cond rfl (fun h1 => ?_) (fun h1 => ?_)
    · rw [if_pos h1] at ef
      rcases hA with ⟨h0, rfl, rfl⟩ | ⟨ver, zs, hv, hle, hz, rfl, rfl⟩
      · have h0 : o = [] := by simpa using h0
        subst h0
        repeat (first | refine wa ?_ | refine wb rfl ?_ | refine wc rfl rfl hM ?_ | refine wd rfl hM ?_ | ((first | refine we rfl fun K hK => ?_ | refine wf rfl rfl fun K hK => ?_ | refine wg rfl rfl fun K hK => ?_ | refine wh rfl fun K hK => ?_); (simp only [lo, ld, ↓aop, ↓aCall, hP, hG, Nat.reduceLT, ↓reduceIte, Nat.reduceEqDiff, Nat.reduceAdd, Nat.reduceMul, Nat.reduceLeDiff, reduceCtorEq, D.cs, D.plain, fillD, chop, List.replicate, strs, tk_9, ze_9, sz_9, tk_50, ze_50, sz_50, hc, hx, hw]; repeat (with_reducible refine And.intro ?_ ?_; focus (first | decide | omega | (simp only [ln]; omega)))); try ((first | refine hK _ _ ?_ | refine hK _ ?_); clear hK K; simp only [lp])) | ((first | refine wi ?_ | refine wj ?_ | refine wk ?_ | refine wl ?_ | refine wm ?_ | refine wn ?_); simp only [lt, ↓reduceIte, Nat.reduceEqDiff]) | refine wo ?_)
        refine ⟨l.length - (i + 1), _, _, by omega, ?_, i + 1, .own (E.H0.length + 1) 1 1, [.dead, .arr 1 1 [[.v (.str x)]] 0], rfl, by omega, by rw [ef]; exact .inr ⟨1, [[.str x]], Nat.le_refl _, Nat.le_refl _, rfl, rfl, rfl⟩, rfl, rfl⟩
        refine Ent.trip hE ?_ ?_ ?_ ?_
        · simp only [le, ↓reduceIte, Nat.reduceEqDiff, and_true]; repeat' (first | exact trivial | exact D.le_refl _ | exact D.le_any _ | with_reducible refine And.intro ?_ ?_)
        · simp [leObs_cons, leObs_nil]
        · simp [ltAll, ltObs, Ob.lt, D.lt, D.ltL, or_imp, forall_and]
        · simp [ltAll, ltObs, Ob.lt, D.lt, D.ltL, or_imp, forall_and]
      · simp only [List.length_map] at hle hz
        repeat (first | refine wa ?_ | refine wb rfl ?_ | refine wc rfl rfl hM ?_ | refine wd rfl hM ?_ | ((first | refine we rfl fun K hK => ?_ | refine wf rfl rfl fun K hK => ?_ | refine wg rfl rfl fun K hK => ?_ | refine wh rfl fun K hK => ?_); (simp only [lo, ld, ↓aop, ↓aCall, hP, hG, Nat.reduceLT, ↓reduceIte, Nat.reduceEqDiff, Nat.reduceAdd, Nat.reduceMul, Nat.reduceLeDiff, reduceCtorEq, D.cs, D.plain, fillD, chop, List.replicate, strs, tk_9, ze_9, sz_9, tk_50, ze_50, sz_50, hc, hx, hw]; repeat (with_reducible refine And.intro ?_ ?_; focus (first | decide | omega | (simp only [ln]; omega)))); try ((first | refine hK _ _ ?_ | refine hK _ ?_); clear hK K; simp only [lp])) | ((first | refine wi ?_ | refine wj ?_ | refine wk ?_ | refine wl ?_ | refine wm ?_ | refine wn ?_); simp only [lt, ↓reduceIte, Nat.reduceEqDiff]) | refine wo ?_)
        refine ⟨l.length - (i + 1), _, _, by omega, ?_, i + 1, .own (E.H0.length + 1) (ver + 1) (o.length + 1), [.dead, .arr (ver + 1) 1 (((o ++ [x]).map fun s => [V.str s]).map (·.map .v)) 0], rfl, by omega, by rw [ef]; exact .inr ⟨ver + 1, (o ++ [x]).map fun s => [V.str s], by omega, Nat.le_refl _, take_len _, by simp, rfl⟩, rfl, rfl⟩
        refine Ent.trip hE ?_ ?_ ?_ ?_
        · simp only [le, ↓reduceIte, Nat.reduceEqDiff, and_true]; repeat' (first | exact trivial | exact D.le_refl _ | exact D.le_any _ | with_reducible refine And.intro ?_ ?_)
        · simp [leObs_cons, leObs_nil]
          rw [← List.map_take, hz]; simp
        · simp [ltAll, ltObs, Ob.lt, D.lt, D.ltL, or_imp, forall_and]
        · exact ⟨trivial, ltRows _ _, trivial⟩
    · rw [if_neg (by simpa using h1), List.append_nil] at ef
      repeat (first | refine wa ?_ | refine wb rfl ?_ | refine wc rfl rfl hM ?_ | refine wd rfl hM ?_ | ((first | refine we rfl fun K hK => ?_ | refine wf rfl rfl fun K hK => ?_ | refine wg rfl rfl fun K hK => ?_ | refine wh rfl fun K hK => ?_); (simp only [lo, ld, ↓aop, ↓aCall, hP, hG, Nat.reduceLT, ↓reduceIte, Nat.reduceEqDiff, Nat.reduceAdd, Nat.reduceMul, Nat.reduceLeDiff, reduceCtorEq, D.cs, D.plain, fillD, chop, List.replicate, hw]; repeat (with_reducible refine And.intro ?_ ?_; focus (first | decide | omega | (simp only [ln]; omega)))); try ((first | refine hK _ _ ?_ | refine hK _ ?_); clear hK K; simp only [lp])) | ((first | refine wi ?_ | refine wj ?_ | refine wk ?_ | refine wl ?_ | refine wm ?_ | refine wn ?_); simp only [lt, ↓reduceIte, Nat.reduceEqDiff]) | refine wo ?_)
      refine ⟨l.length - (i + 1), _, _, by omega, .weakFr ?_, i + 1, d, L, rfl, by omega, by rw [ef]; exact hA, rfl, rfl⟩
      simp only [le, ↓reduceIte, Nat.reduceEqDiff, and_true]; repeat' (first | exact trivial | exact D.le_refl _ | exact D.le_any _ | with_reducible refine And.intro ?_ ?_)
  · simp at hc
    have e : l.take i = l := List.take_of_length_le (by omega)
    rw [e] at hA
    repeat (first | refine wa ?_ | refine wb rfl ?_ | refine wc rfl rfl hM ?_ | refine wd rfl hM ?_ | ((first | refine we rfl fun K hK => ?_ | refine wf rfl rfl fun K hK => ?_ | refine wg rfl rfl fun K hK => ?_ | refine wh rfl fun K hK => ?_); (simp only [lo, ld, ↓aop, ↓aCall, hP, hG, Nat.reduceLT, ↓reduceIte, Nat.reduceEqDiff, Nat.reduceAdd, Nat.reduceMul, Nat.reduceLeDiff, reduceCtorEq, D.cs, D.plain, fillD, chop, List.replicate]; repeat (with_reducible refine And.intro ?_ ?_; focus (first | decide | omega | (simp only [ln]; omega)))); try ((first | refine hK _ _ ?_ | refine hK _ ?_); clear hK K; simp only [lp])) | ((first | refine wi ?_ | refine wj ?_ | refine wk ?_ | refine wl ?_ | refine wm ?_ | refine wn ?_); simp only [lt, ↓reduceIte, Nat.reduceEqDiff]) | refine wo ?_)
    exact Fin.acs hE hA (by decide) rfl hK

theorem pre_cons (b c : UInt8) (s : Str) : Lib.hasPrefix (b :: s) [c] = (b == c) := by
  rw [Bool.eq_iff_iff]
  simp [Lib.hasPrefix]
  exact eq_comm

set_option maxHeartbeats 8000000 in
theorem spec_rClean (s : Str) (hs : s.length ≤ 1099511627) (H : List Ob) (K : D → List Ob → Prop) (hK : K (.tup [.v (.str (clean s).1), .v (.int .i64 (clean s).2)]) H) : ACalls Tryd.prog G 63 [.v (.str s)] H K := by
  refine ACalls.go Tryd.f63 _ 72 [2, 3] Tryd.func63 rfl Tryd.ntmps63 (by kernel_rfl) rfl (by simp) (fun E hE hP hG hH => ?_)
  have hM : E.P.follows .mixedOrders = true := hP ▸ mixed
  subst hH
  simp only [args0]
  repeat (first | refine wa ?_ | refine wb rfl ?_ | refine wc rfl rfl hM ?_ | refine wd rfl hM ?_ | ((first | refine we rfl fun K hK => ?_ | refine wf rfl rfl fun K hK => ?_ | refine wg rfl rfl fun K hK => ?_ | refine wh rfl fun K hK => ?_); (simp only [lo, ld, ↓aop, ↓aCall, hP, hG, Nat.reduceLT, ↓reduceIte, Nat.reduceEqDiff, Nat.reduceAdd, Nat.reduceMul, Nat.reduceLeDiff, reduceCtorEq, D.cs, D.plain, fillD, chop, List.replicate, tk_9, ze_9, sz_9]; repeat (with_reducible refine And.intro ?_ ?_; focus (first | decide | omega | (simp only [ln]; omega)))); try ((first | refine hK _ _ ?_ | refine hK _ ?_); clear hK K; simp only [lp])) | ((first | refine wi ?_ | refine wj ?_ | refine wk ?_ | refine wl ?_ | refine wm ?_ | refine wn ?_); simp only [lt, ↓reduceIte, Nat.reduceEqDiff]) | refine wo ?_)
  refine sat_thru (fr 72 [(16, .v (.bool (!Lib.hasPrefix s [47]))), (3, .v (.int .i64 0)), (2, .v (.str [])), (0, .v (.str s))]) E.H0 ?_ ?_
  · rcases s with _ | ⟨b, s⟩
    · have h0 : (((0 : Nat) : Int) == 0) = true := rfl
      (first | refine wr ?_ | refine wp rfl hM ?_ | refine wq hM ?_); repeat' (first | ((first | refine wx ?_ | refine wy ?_ | refine wz ?_); (simp only [lo, ld, ↓aop, ↓aCall, hP, hG, Nat.reduceLT, ↓reduceIte, Nat.reduceEqDiff, Nat.reduceAdd, Nat.reduceMul, Nat.reduceLeDiff, reduceCtorEq, D.cs, D.plain, fillD, chop, List.replicate, tk_9, ze_9, sz_9, Int.reduceToNat, h0]; repeat (with_reducible refine And.intro ?_ ?_; focus (first | decide | omega | (simp only [ln]; omega)))); try ((first | refine hK _ _ ?_ | refine hK _ ?_); clear hK K; simp only [lp])) | refine we rfl fun K hK => ?_ | refine wf rfl rfl fun K hK => ?_ | refine wg rfl rfl fun K hK => ?_ | refine wh rfl fun K hK => ?_ | ((first | refine Xg rfl rfl (by decide) ?_ fun K hK => ?_ | refine Yg rfl rfl (by decide) ?_ fun K hK => ?_ | refine Zg rfl rfl rfl (by decide) ?_ fun K hK => ?_); (focus (simp only [look_cons, ↓reduceIte, Nat.reduceEqDiff, Bool.not_true, Bool.not_false]; done))) | ((first | refine Xn rfl rfl (by decide) ?_ ?_ | refine Yn rfl rfl (by decide) ?_ ?_ | refine Zn rfl rfl rfl (by decide) ?_ ?_); (focus (simp only [look_cons, ↓reduceIte, Nat.reduceEqDiff, Bool.not_true, Bool.not_false]; done)); simp only [lp]) | ((first | refine Xo rfl rfl (by decide) ?_ ?_ | refine Yo rfl rfl (by decide) ?_ ?_ | refine Zo rfl rfl rfl (by decide) ?_ ?_); (focus (simp only [look_cons, ↓reduceIte, Nat.reduceEqDiff, Bool.not_true, Bool.not_false]; done)); simp only [lp]) | ((first | refine Xs rfl rfl (by decide) rfl (fun h K hK => ?_) fun h => ?_ | refine Ys rfl rfl (by decide) rfl (fun h K hK => ?_) fun h => ?_ | refine Zs rfl rfl rfl (by decide) rfl (fun h K hK => ?_) fun h => ?_); rotate_left; (focus (simp only [Bool.not_true, Bool.not_false, lp])); rotate_left) | ((first | refine wi ?_ | refine wj ?_ | refine wk ?_); simp only [lt, ↓reduceIte, Nat.reduceEqDiff]))
      refine .weakFr ?_
      simp only [le, ↓reduceIte, Nat.reduceEqDiff, and_true]; repeat' (first | exact trivial | exact D.le_refl _ | exact D.le_any _ | with_reducible refine And.intro ?_ ?_)
    · have hb47 : ((b.toNat : Int) == 47) = (b == 47) := byteEq b 47 (by decide)
      have h0 : (((s.length + 1 : Nat) : Int) == 0) = false := by rw [beq_eq_false_iff_ne]; omega
      (first | refine wr ?_ | refine wp rfl hM ?_ | refine wq hM ?_); repeat' (first | ((first | refine wx ?_ | refine wy ?_ | refine wz ?_); (simp only [lo, ld, ↓aop, ↓aCall, hP, hG, Nat.reduceLT, ↓reduceIte, Nat.reduceEqDiff, Nat.reduceAdd, Nat.reduceMul, Nat.reduceLeDiff, reduceCtorEq, D.cs, D.plain, fillD, chop, List.replicate, tk_9, ze_9, sz_9, Int.reduceToNat, hb47, h0]; repeat (with_reducible refine And.intro ?_ ?_; focus (first | decide | omega | (simp only [ln]; omega)))); try ((first | refine hK _ _ ?_ | refine hK _ ?_); clear hK K; simp only [lp])) | refine we rfl fun K hK => ?_ | refine wf rfl rfl fun K hK => ?_ | refine wg rfl rfl fun K hK => ?_ | refine wh rfl fun K hK => ?_ | ((first | refine Xg rfl rfl (by decide) ?_ fun K hK => ?_ | refine Yg rfl rfl (by decide) ?_ fun K hK => ?_ | refine Zg rfl rfl rfl (by decide) ?_ fun K hK => ?_); (focus (simp only [look_cons, ↓reduceIte, Nat.reduceEqDiff, Bool.not_true, Bool.not_false]; done))) | ((first | refine Xn rfl rfl (by decide) ?_ ?_ | refine Yn rfl rfl (by decide) ?_ ?_ | refine Zn rfl rfl rfl (by decide) ?_ ?_); (focus (simp only [look_cons, ↓reduceIte, Nat.reduceEqDiff, Bool.not_true, Bool.not_false]; done)); simp only [lp]) | ((first | refine Xo rfl rfl (by decide) ?_ ?_ | refine Yo rfl rfl (by decide) ?_ ?_ | refine Zo rfl rfl rfl (by decide) ?_ ?_); (focus (simp only [look_cons, ↓reduceIte, Nat.reduceEqDiff, Bool.not_true, Bool.not_false]; done)); simp only [lp]) | ((first | refine Xs rfl rfl (by decide) rfl (fun h K hK => ?_) fun h => ?_ | refine Ys rfl rfl (by decide) rfl (fun h K hK => ?_) fun h => ?_ | refine Zs rfl rfl rfl (by decide) rfl (fun h K hK => ?_) fun h => ?_); rotate_left; (focus (simp only [Bool.not_true, Bool.not_false, lp])); rotate_left) | ((first | refine wi ?_ | refine wj ?_ | refine wk ?_); simp only [lt, ↓reduceIte, Nat.reduceEqDiff]))
      refine .weakFr ?_
      rw [pre_cons]
      simp only [le, ↓reduceIte, Nat.reduceEqDiff, and_true]; repeat' (first | exact trivial | exact D.le_refl _ | exact D.le_any _ | with_reducible refine And.intro ?_ ?_)
  refine sat_cond rfl (fun hb => ?_) (fun hb => ?_)
  · repeat (first | refine wa ?_ | refine wb rfl ?_ | refine wc rfl rfl hM ?_ | refine wd rfl hM ?_ | ((first | refine we rfl fun K hK => ?_ | refine wf rfl rfl fun K hK => ?_ | refine wg rfl rfl fun K hK => ?_ | refine wh rfl fun K hK => ?_); (simp only [lo, ld, ↓aop, ↓aCall, hP, hG, Nat.reduceLT, ↓reduceIte, Nat.reduceEqDiff, Nat.reduceAdd, Nat.reduceMul, Nat.reduceLeDiff, reduceCtorEq, D.cs, D.plain, fillD, chop, List.replicate]; repeat (with_reducible refine And.intro ?_ ?_; focus (first | decide | omega | (simp only [ln]; omega)))); try ((first | refine hK _ _ ?_ | refine hK _ ?_); clear hK K; simp only [lp])) | ((first | refine wi ?_ | refine wj ?_ | refine wk ?_ | refine wl ?_ | refine wm ?_ | refine wn ?_); simp only [lt, ↓reduceIte, Nat.reduceEqDiff]) | refine wo ?_)
    refine Fin.is2 (.v (.str [])) (.v (.int .i64 1)) (by decide) (by decide) rfl rfl ?_
    have : clean s = ([], 1) := by
      have h2 : plainOk s = false := by simp only [plainOk, Bool.and_eq_false_iff]; right; simpa using hb
      simp only [clean, h2]; rfl
    rwa [this] at hK
  repeat (first | refine wa ?_ | refine wb rfl ?_ | refine wc rfl rfl hM ?_ | refine wd rfl hM ?_ | ((first | refine we rfl fun K hK => ?_ | refine wf rfl rfl fun K hK => ?_ | refine wg rfl rfl fun K hK => ?_ | refine wh rfl fun K hK => ?_); (simp only [lo, ld, ↓aop, ↓aCall, hP, hG, Nat.reduceLT, ↓reduceIte, Nat.reduceEqDiff, Nat.reduceAdd, Nat.reduceMul, Nat.reduceLeDiff, reduceCtorEq, D.cs, D.plain, fillD, chop, List.replicate, tk_9, ze_9, sz_9]; repeat (with_reducible refine And.intro ?_ ?_; focus (first | decide | omega | (simp only [ln]; omega)))); try ((first | refine hK _ _ ?_ | refine hK _ ?_); clear hK K; simp only [lp])) | ((first | refine wi ?_ | refine wj ?_ | refine wk ?_ | refine wl ?_ | refine wm ?_ | refine wn ?_); simp only [lt, ↓reduceIte, Nat.reduceEqDiff]) | refine wo ?_)
  refine sat_loop_ent (fun n ts H => ∃ (i : Nat), n = s.length - i ∧ i ≤ s.length ∧ (∀ j, j < i → dullAt s j = false) ∧
    ts = fr 72 [(4, .v (.int .i64 i)), (3, .v (.int .i64 0)), (2, .v (.str [])), (0, .v (.str s))] ∧ H = E.H0) (s.length) (.weakFr ?_) ⟨0, rfl, Nat.zero_le _, by simp, rfl, rfl⟩ ?_
  · simp only [le, ↓reduceIte, Nat.reduceEqDiff, and_true]; repeat' (first | exact trivial | exact D.le_refl _ | exact D.le_any _ | with_reducible refine And.intro ?_ ?_)
  · rintro n ts H ⟨i, rfl, hi, hall, rfl, rfl⟩
    repeat (first | refine wa ?_ | refine wb rfl ?_ | refine wc rfl rfl hM ?_ | refine wd rfl hM ?_ | ((first | refine we rfl fun K hK => ?_ | refine wf rfl rfl fun K hK => ?_ | refine wg rfl rfl fun K hK => ?_ | refine wh rfl fun K hK => ?_); (simp only [lo, ld, ↓aop, ↓aCall, hP, hG, Nat.reduceLT, ↓reduceIte, Nat.reduceEqDiff, Nat.reduceAdd, Nat.reduceMul, Nat.reduceLeDiff, reduceCtorEq, D.cs, D.plain, fillD, chop, List.replicate, tk_9, ze_9, sz_9]; repeat (with_reducible refine And.intro ?_ ?_; focus (first | decide | omega | (simp only [ln]; omega)))); try ((first | refine hK _ _ ?_ | refine hK _ ?_); clear hK K; simp only [lp])) | ((first | refine wi ?_ | refine wj ?_ | refine wk ?_ | refine wl ?_ | refine wm ?_ | refine wn ?_); simp only [lt, ↓reduceIte, Nat.reduceEqDiff]) | refine wo ?_)
    refine sat_cond rfl (fun hc => ?_) (fun hc => ?_)
    · simp at hc
      repeat (first | refine wa ?_ | refine wb rfl ?_ | refine wc rfl rfl hM ?_ | refine wd rfl hM ?_ | ((first | refine we rfl fun K hK => ?_ | refine wf rfl rfl fun K hK => ?_ | refine wg rfl rfl fun K hK => ?_ | refine wh rfl fun K hK => ?_); (simp only [lo, ld, ↓aop, ↓aCall, hP, hG, Nat.reduceLT, ↓reduceIte, Nat.reduceEqDiff, Nat.reduceAdd, Nat.reduceMul, Nat.reduceLeDiff, reduceCtorEq, D.cs, D.plain, fillD, chop, List.replicate, tk_9, ze_9, sz_9, hc]; repeat (with_reducible refine And.intro ?_ ?_; focus (first | decide | omega | (simp only [ln]; omega)))); try ((first | refine hK _ _ ?_ | refine hK _ ?_); clear hK K; simp only [lp])) | ((first | refine wi ?_ | refine wj ?_ | refine wk ?_ | refine wl ?_ | refine wm ?_ | refine wn ?_); simp only [lt, ↓reduceIte, Nat.reduceEqDiff]) | refine wo ?_)
      refine sat_thru (fr 72 [(32, .v (.bool (dullAt s i))), (4, .v (.int .i64 i)), (3, .v (.int .i64 0)), (2, .v (.str [])), (0, .v (.str s))]) E.H0 ?_ ?_
      · (first | refine wr ?_ | refine wp rfl hM ?_ | refine wq hM ?_); repeat' (first | ((first | refine wx ?_ | refine wy ?_ | refine wz ?_); (simp only [lo, ld, ↓aop, ↓aCall, hP, hG, Nat.reduceLT, ↓reduceIte, Nat.reduceEqDiff, Nat.reduceAdd, Nat.reduceMul, Nat.reduceLeDiff, reduceCtorEq, D.cs, D.plain, fillD, chop, List.replicate, tk_9, ze_9, sz_9, hc]; repeat (with_reducible refine And.intro ?_ ?_; focus (first | decide | omega | (simp only [ln]; omega)))); try ((first | refine hK _ _ ?_ | refine hK _ ?_); clear hK K; simp only [lp])) | refine we rfl fun K hK => ?_ | refine wf rfl rfl fun K hK => ?_ | refine wg rfl rfl fun K hK => ?_ | refine wh rfl fun K hK => ?_ | ((first | refine Xg rfl rfl (by decide) ?_ fun K hK => ?_ | refine Yg rfl rfl (by decide) ?_ fun K hK => ?_ | refine Zg rfl rfl rfl (by decide) ?_ fun K hK => ?_); (focus (simp only [look_cons, ↓reduceIte, Nat.reduceEqDiff, Bool.not_true, Bool.not_false]; done))) | ((first | refine Xn rfl rfl (by decide) ?_ ?_ | refine Yn rfl rfl (by decide) ?_ ?_ | refine Zn rfl rfl rfl (by decide) ?_ ?_); (focus (simp only [look_cons, ↓reduceIte, Nat.reduceEqDiff, Bool.not_true, Bool.not_false]; done)); simp only [lp]) | ((first | refine Xo rfl rfl (by decide) ?_ ?_ | refine Yo rfl rfl (by decide) ?_ ?_ | refine Zo rfl rfl rfl (by decide) ?_ ?_); (focus (simp only [look_cons, ↓reduceIte, Nat.reduceEqDiff, Bool.not_true, Bool.not_false]; done)); simp only [lp]) | ((first | refine Xs rfl rfl (by decide) rfl (fun h K hK => ?_) fun h => ?_ | refine Ys rfl rfl (by decide) rfl (fun h K hK => ?_) fun h => ?_ | refine Zs rfl rfl rfl (by decide) rfl (fun h K hK => ?_) fun h => ?_); rotate_left; (focus (simp only [Bool.not_true, Bool.not_false, lp])); rotate_left) | ((first | refine wi ?_ | refine wj ?_ | refine wk ?_); simp only [lt, ↓reduceIte, Nat.reduceEqDiff]))
        all_goals refine .weakFr ?_
        all_goals simp only [le, ↓reduceIte, Nat.reduceEqDiff, and_true]; repeat' (first | exact trivial | exact D.le_refl _ | exact D.le_any _ | with_reducible refine And.intro ?_ ?_)
        all_goals clear hall
        all_goals refine D.le_eq (congrArg D.v (congrArg V.bool ?_)); (try simp only [Bool.not_eq_eq_eq_not, Bool.not_true, Bool.not_false] at *); simp only [*, List.getD_eq_getElem?_getD, Bool.and_true, Bool.true_and, Bool.and_false, Bool.false_and, Bool.or_true, Bool.true_or, Bool.or_false, Bool.false_or, Bool.not_true, Bool.not_false, Bool.not_not, dullAt]
      refine sat_cond rfl (fun hb2 => ?_) (fun hb2 => ?_)
      · repeat (first | refine wa ?_ | refine wb rfl ?_ | refine wc rfl rfl hM ?_ | refine wd rfl hM ?_ | ((first | refine we rfl fun K hK => ?_ | refine wf rfl rfl fun K hK => ?_ | refine wg rfl rfl fun K hK => ?_ | refine wh rfl fun K hK => ?_); (simp only [lo, ld, ↓aop, ↓aCall, hP, hG, Nat.reduceLT, ↓reduceIte, Nat.reduceEqDiff, Nat.reduceAdd, Nat.reduceMul, Nat.reduceLeDiff, reduceCtorEq, D.cs, D.plain, fillD, chop, List.replicate]; repeat (with_reducible refine And.intro ?_ ?_; focus (first | decide | omega | (simp only [ln]; omega)))); try ((first | refine hK _ _ ?_ | refine hK _ ?_); clear hK K; simp only [lp])) | ((first | refine wi ?_ | refine wj ?_ | refine wk ?_ | refine wl ?_ | refine wm ?_ | refine wn ?_); simp only [lt, ↓reduceIte, Nat.reduceEqDiff]) | refine wo ?_)
        refine Fin.is2 (.v (.str [])) (.v (.int .i64 1)) (by decide) (by decide) rfl rfl ?_
        have : clean s = ([], 1) := by
          have h2 : plainOk s = false := by
            simp only [plainOk, Bool.and_eq_false_iff]
            left
            rw [List.all_eq_false]
            exact ⟨i, by simpa using hc, by simpa using hb2⟩
          simp only [clean, h2]; rfl
        rwa [this] at hK
      · have hw := wrap_succ (i := i) (by omega)
        repeat (first | refine wa ?_ | refine wb rfl ?_ | refine wc rfl rfl hM ?_ | refine wd rfl hM ?_ | ((first | refine we rfl fun K hK => ?_ | refine wf rfl rfl fun K hK => ?_ | refine wg rfl rfl fun K hK => ?_ | refine wh rfl fun K hK => ?_); (simp only [lo, ld, ↓aop, ↓aCall, hP, hG, Nat.reduceLT, ↓reduceIte, Nat.reduceEqDiff, Nat.reduceAdd, Nat.reduceMul, Nat.reduceLeDiff, reduceCtorEq, D.cs, D.plain, fillD, chop, List.replicate, hw]; repeat (with_reducible refine And.intro ?_ ?_; focus (first | decide | omega | (simp only [ln]; omega)))); try ((first | refine hK _ _ ?_ | refine hK _ ?_); clear hK K; simp only [lp])) | ((first | refine wi ?_ | refine wj ?_ | refine wk ?_ | refine wl ?_ | refine wm ?_ | refine wn ?_); simp only [lt, ↓reduceIte, Nat.reduceEqDiff]) | refine wo ?_)
        refine ⟨s.length - (i + 1), _, _, by omega, .weakFr ?_, i + 1, rfl, by omega, fun j hj => ?_, rfl, rfl⟩
        · simp only [le, ↓reduceIte, Nat.reduceEqDiff, and_true]; repeat' (first | exact trivial | exact D.le_refl _ | exact D.le_any _ | with_reducible refine And.intro ?_ ?_)
        · rcases Nat.lt_succ_iff_lt_or_eq.1 hj with h | rfl
          · exact hall j h
          · exact hb2
    · simp at hc
      have hpl : plainOk s = true := by
        have : (List.range s.length).all (fun i => !dullAt s i) = true := by
          simp only [List.all_eq_true, List.mem_range]
          exact fun j hj => by rw [hall j (by omega)]; rfl
        simp only [plainOk, this, Bool.true_and]; simpa using hb
      clear hall hb
      repeat (first | refine wa ?_ | refine wb rfl ?_ | refine wc rfl rfl hM ?_ | refine wd rfl hM ?_ | ((first | refine we rfl fun K hK => ?_ | refine wf rfl rfl fun K hK => ?_ | refine wg rfl rfl fun K hK => ?_ | refine wh rfl fun K hK => ?_); (simp only [lo, ld, ↓aop, ↓aCall, hP, hG, Nat.reduceLT, ↓reduceIte, Nat.reduceEqDiff, Nat.reduceAdd, Nat.reduceMul, Nat.reduceLeDiff, reduceCtorEq, D.cs, D.plain, fillD, chop, List.replicate, tk_9, ze_9, sz_9]; repeat (with_reducible refine And.intro ?_ ?_; focus (first | decide | omega | (simp only [ln]; omega)))); try ((first | refine hK _ _ ?_ | refine hK _ ?_); clear hK K; simp only [lp])) | ((first | refine wi ?_ | refine wj ?_ | refine wk ?_ | refine wl ?_ | refine wm ?_ | refine wn ?_); simp only [lt, ↓reduceIte, Nat.reduceEqDiff]) | refine wo ?_)
      refine spec_rParts s (by omega) _ _ (hK _ _ ?_)
      clear hK K; simp only [lp]
      rw [partsR_eq]
      repeat (first | refine wa ?_ | refine wb rfl ?_ | refine wc rfl rfl hM ?_ | refine wd rfl hM ?_ | ((first | refine we rfl fun K hK => ?_ | refine wf rfl rfl fun K hK => ?_ | refine wg rfl rfl fun K hK => ?_ | refine wh rfl fun K hK => ?_); (simp only [lo, ld, ↓aop, ↓aCall, hP, hG, Nat.reduceLT, ↓reduceIte, Nat.reduceEqDiff, Nat.reduceAdd, Nat.reduceMul, Nat.reduceLeDiff, reduceCtorEq, D.cs, D.plain, fillD, chop, List.replicate, tk_9, ze_9, sz_9, tk_50, ze_50, sz_50]; repeat (with_reducible refine And.intro ?_ ?_; focus (first | decide | omega | (simp only [ln]; omega)))); try ((first | refine hK _ _ ?_ | refine hK _ ?_); clear hK K; simp only [lp])) | ((first | refine wi ?_ | refine wj ?_ | refine wk ?_ | refine wl ?_ | refine wm ?_ | refine wn ?_); simp only [lt, ↓reduceIte, Nat.reduceEqDiff]) | refine wo ?_)
      refine sat_loop_ent (fun n ts H => ∃ (i : Nat) (d : D) (L : List Ob), n = (parts s).length - i ∧ i ≤ (parts s).length ∧ Acs E 1 1 ((((parts s).take i).foldl cleanStep []).map fun s => [.str s]) d L ∧
        ts = fr 72 [(7, .v (.int .i64 i)), (5, .v (strs (parts s))), (6, d), (3, .v (.int .i64 0)), (2, .v (.str []))] ∧ H = E.H0 ++ L) ((parts s).length) (.weakFr ?_) ⟨0, _, [], rfl, Nat.zero_le _, Acs.start 1 1, rfl, (List.append_nil _).symm⟩ ?_
      · simp only [le, ↓reduceIte, Nat.reduceEqDiff, and_true]; repeat' (first | exact trivial | exact D.le_refl _ | exact D.le_any _ | with_reducible refine And.intro ?_ ?_)
      rintro n ts H ⟨i, d, L, rfl, hi, hA, rfl, rfl⟩
      repeat (first | refine wa ?_ | refine wb rfl ?_ | refine wc rfl rfl hM ?_ | refine wd rfl hM ?_ | ((first | refine we rfl fun K hK => ?_ | refine wf rfl rfl fun K hK => ?_ | refine wg rfl rfl fun K hK => ?_ | refine wh rfl fun K hK => ?_); (simp only [lo, ld, ↓aop, ↓aCall, hP, hG, Nat.reduceLT, ↓reduceIte, Nat.reduceEqDiff, Nat.reduceAdd, Nat.reduceMul, Nat.reduceLeDiff, reduceCtorEq, D.cs, D.plain, fillD, chop, List.replicate, strs, tk_9, ze_9, sz_9, tk_50, ze_50, sz_50]; repeat (with_reducible refine And.intro ?_ ?_; focus (first | decide | omega | (simp only [ln]; omega)))); try ((first | refine hK _ _ ?_ | refine hK _ ?_); clear hK K; simp only [lp])) | ((first | refine wi ?_ | refine wj ?_ | refine wk ?_ | refine wl ?_ | refine wm ?_ | refine wn ?_); simp only [lt, ↓reduceIte, Nat.reduceEqDiff]) | refine wo ?_)
      refine sat_cond rfl (fun hc => ?_) (fun hc => ?_)
      · simp at hc
        obtain ⟨x, hx⟩ : ∃ x, (parts s)[i]? = some x := ⟨_, List.getElem?_eq_getElem hc⟩
        have hpl := parts_len s
        have hw := wrap_succ (i := i) (by omega)
        have e2 : ((parts s).take (i + 1)).foldl cleanStep [] = cleanStep (((parts s).take i).foldl cleanStep []) x := by rw [take_snoc hx, List.foldl_append]; rfl
        have hlen : (((parts s).take i).foldl cleanStep []).length ≤ s.length + 1 := Nat.le_trans (tot_len _) (tot_clean s i)
        revert hA
        generalize ((parts s).take i).foldl cleanStep [] = left at hlen e2 ⊢
        intro hA
        rw [← cleanStepR_eq] at e2
        repeat (first | refine wa ?_ | refine wb rfl ?_ | refine wc rfl rfl hM ?_ | refine wd rfl hM ?_ | ((first | refine we rfl fun K hK => ?_ | refine wf rfl rfl fun K hK => ?_ | refine wg rfl rfl fun K hK => ?_ | refine wh rfl fun K hK => ?_); (simp only [lo, ld, ↓aop, ↓aCall, hP, hG, Nat.reduceLT, ↓reduceIte, Nat.reduceEqDiff, Nat.reduceAdd, Nat.reduceMul, Nat.reduceLeDiff, reduceCtorEq, D.cs, D.plain, fillD, chop, List.replicate, strs, tk_9, ze_9, sz_9, tk_50, ze_50, sz_50, hc, hx]; repeat (with_reducible refine And.intro ?_ ?_; focus (first | decide | omega | (simp only [ln]; omega)))); try ((first | refine hK _ _ ?_ | refine hK _ ?_); clear hK K; simp only [lp])) | ((first | refine wi ?_ | refine wj ?_ | refine wk ?_ | refine wl ?_ | refine wm ?_ | refine wn ?_); simp only [lt, ↓reduceIte, Nat.reduceEqDiff]) | refine wo ?_)
        refine sat_cond rfl (fun h1 => ?_) (fun h1 => ?_)
        · have e3 : cleanStepR left x = if left.length > 0 then left.take (left.length - 1) else left := by simp only [cleanStepR, h1, if_true]
          rcases hA with ⟨h0, rfl, rfl⟩ | ⟨ver, zs, hv, hle, hz, rfl, rfl⟩
          · have h0 : left = [] := by simpa using h0
            subst h0
            repeat (first | refine wa ?_ | refine wb rfl ?_ | refine wc rfl rfl hM ?_ | refine wd rfl hM ?_ | ((first | refine we rfl fun K hK => ?_ | refine wf rfl rfl fun K hK => ?_ | refine wg rfl rfl fun K hK => ?_ | refine wh rfl fun K hK => ?_); (simp only [lo, ld, ↓aop, ↓aCall, hP, hG, Nat.reduceLT, ↓reduceIte, Nat.reduceEqDiff, Nat.reduceAdd, Nat.reduceMul, Nat.reduceLeDiff, reduceCtorEq, D.cs, D.plain, fillD, chop, List.replicate, strs, tk_9, ze_9, sz_9, tk_50, ze_50, sz_50, tk_3, ze_3, sz_3]; repeat (with_reducible refine And.intro ?_ ?_; focus (first | decide | omega | (simp only [ln]; omega)))); try ((first | refine hK _ _ ?_ | refine hK _ ?_); clear hK K; simp only [lp])) | ((first | refine wi ?_ | refine wj ?_ | refine wk ?_ | refine wl ?_ | refine wm ?_ | refine wn ?_); simp only [lt, ↓reduceIte, Nat.reduceEqDiff]) | refine wo ?_)
            refine sat_cond rfl (fun h2 => ?_) (fun h2 => ?_)
            · simp at h2
            · repeat (first | refine wa ?_ | refine wb rfl ?_ | refine wc rfl rfl hM ?_ | refine wd rfl hM ?_ | ((first | refine we rfl fun K hK => ?_ | refine wf rfl rfl fun K hK => ?_ | refine wg rfl rfl fun K hK => ?_ | refine wh rfl fun K hK => ?_); (simp only [lo, ld, ↓aop, ↓aCall, hP, hG, Nat.reduceLT, ↓reduceIte, Nat.reduceEqDiff, Nat.reduceAdd, Nat.reduceMul, Nat.reduceLeDiff, reduceCtorEq, D.cs, D.plain, fillD, chop, List.replicate, hw]; repeat (with_reducible refine And.intro ?_ ?_; focus (first | decide | omega | (simp only [ln]; omega)))); try ((first | refine hK _ _ ?_ | refine hK _ ?_); clear hK K; simp only [lp])) | ((first | refine wi ?_ | refine wj ?_ | refine wk ?_ | refine wl ?_ | refine wm ?_ | refine wn ?_); simp only [lt, ↓reduceIte, Nat.reduceEqDiff]) | refine wo ?_)
              refine ⟨(parts s).length - (i + 1), _, _, by omega, .weakFr ?_, i + 1, .nils, [], rfl, by omega, by rw [e2, e3]; exact Acs.start 1 1, rfl, (List.append_nil _).symm⟩
              simp only [le, ↓reduceIte, Nat.reduceEqDiff, and_true]; repeat' (first | exact trivial | exact D.le_refl _ | exact D.le_any _ | with_reducible refine And.intro ?_ ?_)
          · simp only [List.length_map] at hle hz
            repeat (first | refine wa ?_ | refine wb rfl ?_ | refine wc rfl rfl hM ?_ | refine wd rfl hM ?_ | ((first | refine we rfl fun K hK => ?_ | refine wf rfl rfl fun K hK => ?_ | refine wg rfl rfl fun K hK => ?_ | refine wh rfl fun K hK => ?_); (simp only [lo, ld, ↓aop, ↓aCall, hP, hG, Nat.reduceLT, ↓reduceIte, Nat.reduceEqDiff, Nat.reduceAdd, Nat.reduceMul, Nat.reduceLeDiff, reduceCtorEq, D.cs, D.plain, fillD, chop, List.replicate, strs, tk_9, ze_9, sz_9, tk_50, ze_50, sz_50, tk_3, ze_3, sz_3]; repeat (with_reducible refine And.intro ?_ ?_; focus (first | decide | omega | (simp only [ln]; omega)))); try ((first | refine hK _ _ ?_ | refine hK _ ?_); clear hK K; simp only [lp])) | ((first | refine wi ?_ | refine wj ?_ | refine wk ?_ | refine wl ?_ | refine wm ?_ | refine wn ?_); simp only [lt, ↓reduceIte, Nat.reduceEqDiff]) | refine wo ?_)
            refine sat_cond rfl (fun h2 => ?_) (fun h2 => ?_)
            · have hpos : left.length > 0 := by simpa using h2
              have hw2 : IntKind.i64.wrap ((left.length : Int) - 1) = ((left.length - 1 : Nat) : Int) := by rw [IntKind.wrap_i64]; omega
              have hne : left.length - 1 ≤ left.length := by omega
              rw [if_pos hpos] at e3
              repeat (first | refine wa ?_ | refine wb rfl ?_ | refine wc rfl rfl hM ?_ | refine wd rfl hM ?_ | ((first | refine we rfl fun K hK => ?_ | refine wf rfl rfl fun K hK => ?_ | refine wg rfl rfl fun K hK => ?_ | refine wh rfl fun K hK => ?_); (simp only [lo, ld, ↓aop, ↓aCall, hP, hG, Nat.reduceLT, ↓reduceIte, Nat.reduceEqDiff, Nat.reduceAdd, Nat.reduceMul, Nat.reduceLeDiff, reduceCtorEq, D.cs, D.plain, fillD, chop, List.replicate, strs, tk_9, ze_9, sz_9, tk_50, ze_50, sz_50, tk_3, ze_3, sz_3, hw, hw2]; repeat (with_reducible refine And.intro ?_ ?_; focus (first | decide | omega | (simp only [ln]; omega)))); try ((first | refine hK _ _ ?_ | refine hK _ ?_); clear hK K; simp only [lp])) | ((first | refine wi ?_ | refine wj ?_ | refine wk ?_ | refine wl ?_ | refine wm ?_ | refine wn ?_); simp only [lt, ↓reduceIte, Nat.reduceEqDiff]) | refine wo ?_)
              refine ⟨(parts s).length - (i + 1), _, _, by omega, .weakFr ?_, i + 1, .own (E.H0.length + 1) ver (left.length - 1), _, rfl, by omega, .inr ⟨ver, zs, hv, ?_, ?_, ?_, rfl⟩, rfl, rfl⟩
              · simp only [le, ↓reduceIte, Nat.reduceEqDiff, and_true]; repeat' (first | exact trivial | exact D.le_refl _ | exact D.le_any _ | with_reducible refine And.intro ?_ ?_)
              · rw [e2, e3]; simp; omega
              · rw [e2, e3]; exact take_map_take _ _ _ _ hne hz
              · rw [e2, e3, List.length_map, List.length_take, Nat.min_eq_left hne]
            · have hpos : ¬ left.length > 0 := by simpa using h2
              rw [if_neg hpos] at e3
              repeat (first | refine wa ?_ | refine wb rfl ?_ | refine wc rfl rfl hM ?_ | refine wd rfl hM ?_ | ((first | refine we rfl fun K hK => ?_ | refine wf rfl rfl fun K hK => ?_ | refine wg rfl rfl fun K hK => ?_ | refine wh rfl fun K hK => ?_); (simp only [lo, ld, ↓aop, ↓aCall, hP, hG, Nat.reduceLT, ↓reduceIte, Nat.reduceEqDiff, Nat.reduceAdd, Nat.reduceMul, Nat.reduceLeDiff, reduceCtorEq, D.cs, D.plain, fillD, chop, List.replicate, hw]; repeat (with_reducible refine And.intro ?_ ?_; focus (first | decide | omega | (simp only [ln]; omega)))); try ((first | refine hK _ _ ?_ | refine hK _ ?_); clear hK K; simp only [lp])) | ((first | refine wi ?_ | refine wj ?_ | refine wk ?_ | refine wl ?_ | refine wm ?_ | refine wn ?_); simp only [lt, ↓reduceIte, Nat.reduceEqDiff]) | refine wo ?_)
              refine ⟨(parts s).length - (i + 1), _, _, by omega, .weakFr ?_, i + 1, .own (E.H0.length + 1) ver left.length, _, rfl, by omega, .inr ⟨ver, zs, hv, ?_, ?_, ?_, rfl⟩, rfl, rfl⟩
              · simp only [le, ↓reduceIte, Nat.reduceEqDiff, and_true]; repeat' (first | exact trivial | exact D.le_refl _ | exact D.le_any _ | with_reducible refine And.intro ?_ ?_)
                rw [List.length_map]; exact D.le_refl _
              · rw [e2, e3]; simp; omega
              · rw [e2, e3, List.length_map]; exact hz
              · rw [e2, e3, List.length_map]
        · repeat (first | refine wa ?_ | refine wb rfl ?_ | refine wc rfl rfl hM ?_ | refine wd rfl hM ?_ | ((first | refine we rfl fun K hK => ?_ | refine wf rfl rfl fun K hK => ?_ | refine wg rfl rfl fun K hK => ?_ | refine wh rfl fun K hK => ?_); (simp only [lo, ld, ↓aop, ↓aCall, hP, hG, Nat.reduceLT, ↓reduceIte, Nat.reduceEqDiff, Nat.reduceAdd, Nat.reduceMul, Nat.reduceLeDiff, reduceCtorEq, D.cs, D.plain, fillD, chop, List.replicate, strs, tk_9, ze_9, sz_9, tk_50, ze_50, sz_50, hc, hx]; repeat (with_reducible refine And.intro ?_ ?_; focus (first | decide | omega | (simp only [ln]; omega)))); try ((first | refine hK _ _ ?_ | refine hK _ ?_); clear hK K; simp only [lp])) | ((first | refine wi ?_ | refine wj ?_ | refine wk ?_ | refine wl ?_ | refine wm ?_ | refine wn ?_); simp only [lt, ↓reduceIte, Nat.reduceEqDiff]) | refine wo ?_)
          refine sat_cond rfl (fun h2 => ?_) (fun h2 => ?_)
          · have e3 : cleanStepR left x = left ++ [x] := by simp only [cleanStepR, h1, h2, if_true, Bool.false_eq_true, if_false]
            rcases hA with ⟨h0, rfl, rfl⟩ | ⟨ver, zs, hv, hle, hz, rfl, rfl⟩
            · have h0 : left = [] := by simpa using h0
              subst h0
              repeat (first | refine wa ?_ | refine wb rfl ?_ | refine wc rfl rfl hM ?_ | refine wd rfl hM ?_ | ((first | refine we rfl fun K hK => ?_ | refine wf rfl rfl fun K hK => ?_ | refine wg rfl rfl fun K hK => ?_ | refine wh rfl fun K hK => ?_); (simp only [lo, ld, ↓aop, ↓aCall, hP, hG, Nat.reduceLT, ↓reduceIte, Nat.reduceEqDiff, Nat.reduceAdd, Nat.reduceMul, Nat.reduceLeDiff, reduceCtorEq, D.cs, D.plain, fillD, chop, List.replicate, strs, tk_9, ze_9, sz_9, tk_50, ze_50, sz_50, hc, hx, hw]; repeat (with_reducible refine And.intro ?_ ?_; focus (first | decide | omega | (simp only [ln]; omega)))); try ((first | refine hK _ _ ?_ | refine hK _ ?_); clear hK K; simp only [lp])) | ((first | refine wi ?_ | refine wj ?_ | refine wk ?_ | refine wl ?_ | refine wm ?_ | refine wn ?_); simp only [lt, ↓reduceIte, Nat.reduceEqDiff]) | refine wo ?_)
              refine ⟨(parts s).length - (i + 1), _, _, by omega, ?_, i + 1, .own (E.H0.length + 1) 1 1, [.dead, .arr 1 1 [[.v (.str x)]] 0], rfl, by omega, .inr ⟨1, [[.str x]], Nat.le_refl _, by rw [e2, e3]; exact Nat.le_refl _, by rw [e2, e3]; rfl, by rw [e2, e3]; rfl, rfl⟩, rfl, rfl⟩
              refine Ent.trip hE ?_ ?_ ?_ ?_
              · simp only [le, ↓reduceIte, Nat.reduceEqDiff, and_true]; repeat' (first | exact trivial | exact D.le_refl _ | exact D.le_any _ | with_reducible refine And.intro ?_ ?_)
              · simp [leObs_cons, leObs_nil]
              · simp [ltAll, ltObs, Ob.lt, D.lt, D.ltL, or_imp, forall_and]
              · simp [ltAll, ltObs, Ob.lt, D.lt, D.ltL, or_imp, forall_and]
            · simp only [List.length_map] at hle hz
              repeat (first | refine wa ?_ | refine wb rfl ?_ | refine wc rfl rfl hM ?_ | refine wd rfl hM ?_ | ((first | refine we rfl fun K hK => ?_ | refine wf rfl rfl fun K hK => ?_ | refine wg rfl rfl fun K hK => ?_ | refine wh rfl fun K hK => ?_); (simp only [lo, ld, ↓aop, ↓aCall, hP, hG, Nat.reduceLT, ↓reduceIte, Nat.reduceEqDiff, Nat.reduceAdd, Nat.reduceMul, Nat.reduceLeDiff, reduceCtorEq, D.cs, D.plain, fillD, chop, List.replicate, strs, tk_9, ze_9, sz_9, tk_50, ze_50, sz_50, hc, hx, hw]; repeat (with_reducible refine And.intro ?_ ?_; focus (first | decide | omega | (simp only [ln]; omega)))); try ((first | refine hK _ _ ?_ | refine hK _ ?_); clear hK K; simp only [lp])) | ((first | refine wi ?_ | refine wj ?_ | refine wk ?_ | refine wl ?_ | refine wm ?_ | refine wn ?_); simp only [lt, ↓reduceIte, Nat.reduceEqDiff]) | refine wo ?_)
              refine ⟨(parts s).length - (i + 1), _, _, by omega, ?_, i + 1, .own (E.H0.length + 1) (ver + 1) (left.length + 1), [.dead, .arr (ver + 1) 1 (((left ++ [x]).map fun s => [V.str s]).map (·.map .v)) 0], rfl, by omega, .inr ⟨ver + 1, (left ++ [x]).map fun s => [V.str s], by omega, by rw [e2, e3]; exact Nat.le_refl _, by rw [e2, e3]; exact take_len _, by rw [e2, e3]; simp, rfl⟩, rfl, rfl⟩
              refine Ent.trip hE ?_ ?_ ?_ ?_
              · simp only [le, ↓reduceIte, Nat.reduceEqDiff, and_true]; repeat' (first | exact trivial | exact D.le_refl _ | exact D.le_any _ | with_reducible refine And.intro ?_ ?_)
              · simp [leObs_cons, leObs_nil]
                rw [← List.map_take, hz]; simp
              · simp [ltAll, ltObs, Ob.lt, D.lt, D.ltL, or_imp, forall_and]
              · exact ⟨trivial, ltRows _ _, trivial⟩
          · have e3 : cleanStepR left x = left := by simp only [cleanStepR, h1, h2, Bool.false_eq_true, if_false]
            repeat (first | refine wa ?_ | refine wb rfl ?_ | refine wc rfl rfl hM ?_ | refine wd rfl hM ?_ | ((first | refine we rfl fun K hK => ?_ | refine wf rfl rfl fun K hK => ?_ | refine wg rfl rfl fun K hK => ?_ | refine wh rfl fun K hK => ?_); (simp only [lo, ld, ↓aop, ↓aCall, hP, hG, Nat.reduceLT, ↓reduceIte, Nat.reduceEqDiff, Nat.reduceAdd, Nat.reduceMul, Nat.reduceLeDiff, reduceCtorEq, D.cs, D.plain, fillD, chop, List.replicate, hw]; repeat (with_reducible refine And.intro ?_ ?_; focus (first | decide | omega | (simp only [ln]; omega)))); try ((first | refine hK _ _ ?_ | refine hK _ ?_); clear hK K; simp only [lp])) | ((first | refine wi ?_ | refine wj ?_ | refine wk ?_ | refine wl ?_ | refine wm ?_ | refine wn ?_); simp only [lt, ↓reduceIte, Nat.reduceEqDiff]) | refine wo ?_)
            refine ⟨(parts s).length - (i + 1), _, _, by omega, .weakFr ?_, i + 1, d, L, rfl, by omega, by rw [e2, e3]; exact hA, rfl, rfl⟩
            simp only [le, ↓reduceIte, Nat.reduceEqDiff, and_true]; repeat' (first | exact trivial | exact D.le_refl _ | exact D.le_any _ | with_reducible refine And.intro ?_ ?_)
      · simp at hc
        have e : (parts s).take i = parts s := List.take_of_length_le (by omega)
        rw [e] at hA
        refine sat_ent (Ent.acs 6 [(3, .v (.int .i64 0)), (2, .v (.str []))] hE hA rfl ?_ ?_) ?_
        · simp only [le, ↓reduceIte, Nat.reduceEqDiff, and_true]; repeat' (first | exact trivial | exact D.le_refl _ | exact D.le_any _ | with_reducible refine And.intro ?_ ?_)
        · simp [ltAll, ltObs, Ob.lt, D.lt, D.ltL, or_imp, forall_and]
        change Sat E _ (fr 72 [(6, .v (strs (cleanL s))), (3, .v (.int .i64 0)), (2, .v (.str []))]) _ _
        have ht := tot_cleanL s
        repeat (first | refine wa ?_ | refine wb rfl ?_ | refine wc rfl rfl hM ?_ | refine wd rfl hM ?_ | ((first | refine we rfl fun K hK => ?_ | refine wf rfl rfl fun K hK => ?_ | refine wg rfl rfl fun K hK => ?_ | refine wh rfl fun K hK => ?_); (simp only [lo, ld, ↓aop, ↓aCall, hP, hG, Nat.reduceLT, ↓reduceIte, Nat.reduceEqDiff, Nat.reduceAdd, Nat.reduceMul, Nat.reduceLeDiff, reduceCtorEq, D.cs, D.plain, fillD, chop, List.replicate, tk_9, ze_9, sz_9, tk_50, ze_50, sz_50]; repeat (with_reducible refine And.intro ?_ ?_; focus (first | decide | omega | (simp only [ln]; omega)))); try ((first | refine hK _ _ ?_ | refine hK _ ?_); clear hK K; simp only [lp])) | ((first | refine wi ?_ | refine wj ?_ | refine wk ?_ | refine wl ?_ | refine wm ?_ | refine wn ?_); simp only [lt, ↓reduceIte, Nat.reduceEqDiff]) | refine wo ?_)
        refine spec_Joined (cleanL s) (by omega) _ _ (hK _ _ ?_)
        clear hK K; simp only [lp]
        rw [show joinedR (cleanL s) = cleanOut s from joinedR_eq _]
        have hj : (cleanOut s).length ≤ 4294967290 := by have := join_tot (cleanL s); simp only [cleanOut, List.length_cons]; omega
        repeat (first | refine wa ?_ | refine wb rfl ?_ | refine wc rfl rfl hM ?_ | refine wd rfl hM ?_ | ((first | refine we rfl fun K hK => ?_ | refine wf rfl rfl fun K hK => ?_ | refine wg rfl rfl fun K hK => ?_ | refine wh rfl fun K hK => ?_); (simp only [lo, ld, ↓aop, ↓aCall, hP, hG, Nat.reduceLT, ↓reduceIte, Nat.reduceEqDiff, Nat.reduceAdd, Nat.reduceMul, Nat.reduceLeDiff, reduceCtorEq, D.cs, D.plain, fillD, chop, List.replicate, tk_3, ze_3, sz_3, tk_9, ze_9, sz_9, tk_50, ze_50, sz_50]; repeat (with_reducible refine And.intro ?_ ?_; focus (first | decide | omega | (simp only [ln]; omega)))); try ((first | refine hK _ _ ?_ | refine hK _ ?_); clear hK K; simp only [lp])) | ((first | refine wi ?_ | refine wj ?_ | refine wk ?_ | refine wl ?_ | refine wm ?_ | refine wn ?_); simp only [lt, ↓reduceIte, Nat.reduceEqDiff]) | refine wo ?_)
        refine sat_cond rfl (fun h1 => ?_) (fun h1 => ?_)
        · repeat (first | refine wa ?_ | refine wb rfl ?_ | refine wc rfl rfl hM ?_ | refine wd rfl hM ?_ | ((first | refine we rfl fun K hK => ?_ | refine wf rfl rfl fun K hK => ?_ | refine wg rfl rfl fun K hK => ?_ | refine wh rfl fun K hK => ?_); (simp only [lo, ld, ↓aop, ↓aCall, hP, hG, Nat.reduceLT, ↓reduceIte, Nat.reduceEqDiff, Nat.reduceAdd, Nat.reduceMul, Nat.reduceLeDiff, reduceCtorEq, D.cs, D.plain, fillD, chop, List.replicate, tk_9, ze_9, sz_9, tk_24, ze_24, sz_24]; repeat (with_reducible refine And.intro ?_ ?_; focus (first | decide | omega | (simp only [ln]; omega)))); try ((first | refine hK _ _ ?_ | refine hK _ ?_); clear hK K; simp only [lp])) | ((first | refine wi ?_ | refine wj ?_ | refine wk ?_ | refine wl ?_ | refine wm ?_ | refine wn ?_); simp only [lt, ↓reduceIte, Nat.reduceEqDiff]) | refine wo ?_)
          refine Fin.is2 (.v (.str [])) (.v (.int .i64 8)) (by decide) (by decide) rfl rfl ?_
          have : clean s = ([], 8) := by
            simp only [decide_eq_true_eq] at h1
            simp only [clean, hpl, if_true]
            rw [if_pos (by omega)]
          rwa [this] at hK
        · repeat (first | refine wa ?_ | refine wb rfl ?_ | refine wc rfl rfl hM ?_ | refine wd rfl hM ?_ | ((first | refine we rfl fun K hK => ?_ | refine wf rfl rfl fun K hK => ?_ | refine wg rfl rfl fun K hK => ?_ | refine wh rfl fun K hK => ?_); (simp only [lo, ld, ↓aop, ↓aCall, hP, hG, Nat.reduceLT, ↓reduceIte, Nat.reduceEqDiff, Nat.reduceAdd, Nat.reduceMul, Nat.reduceLeDiff, reduceCtorEq, D.cs, D.plain, fillD, chop, List.replicate, tk_9, ze_9, sz_9, tk_24, ze_24, sz_24]; repeat (with_reducible refine And.intro ?_ ?_; focus (first | decide | omega | (simp only [ln]; omega)))); try ((first | refine hK _ _ ?_ | refine hK _ ?_); clear hK K; simp only [lp])) | ((first | refine wi ?_ | refine wj ?_ | refine wk ?_ | refine wl ?_ | refine wm ?_ | refine wn ?_); simp only [lt, ↓reduceIte, Nat.reduceEqDiff]) | refine wo ?_)
          refine Fin.is2 (.v (.str (cleanOut s))) (.v (.int .i64 0)) (by decide) (by decide) rfl rfl ?_
          have : clean s = (cleanOut s, 0) := by
            simp only [decide_eq_false_iff_not] at h1
            simp only [clean, hpl, if_true]
            rw [if_neg (by omega)]
          rwa [this] at hK

theorem spec_rRight (s : Str) (hs : s.length ≤ 1099511627) (H : List Ob) (K : D → List Ob → Prop) (hK : K (.v (.bool (pathRight s))) H) : ACalls Tryd.prog G 39 [.v (.str s)] H K := by
  refine ACalls.go Tryd.f39 _ 17 [2] Tryd.func39 rfl Tryd.ntmps39 (by kernel_rfl) rfl (by simp) (fun E hE hP hG hH => ?_)
  have hM : E.P.follows .mixedOrders = true := hP ▸ mixed
  subst hH
  simp only [args0]
  repeat (first | refine wa ?_ | refine wb rfl ?_ | refine wc rfl rfl hM ?_ | refine wd rfl hM ?_ | ((first | refine we rfl fun K hK => ?_ | refine wf rfl rfl fun K hK => ?_ | refine wg rfl rfl fun K hK => ?_ | refine wh rfl fun K hK => ?_); (simp only [lo, ld, ↓aop, ↓aCall, hP, hG, Nat.reduceLT, ↓reduceIte, Nat.reduceEqDiff, Nat.reduceAdd, Nat.reduceMul, Nat.reduceLeDiff, reduceCtorEq, D.cs, D.plain, fillD, chop, List.replicate, tk_9, ze_9, sz_9]; repeat (with_reducible refine And.intro ?_ ?_; focus (first | decide | omega | (simp only [ln]; omega)))); try ((first | refine hK _ _ ?_ | refine hK _ ?_); clear hK K; simp only [lp])) | ((first | refine wi ?_ | refine wj ?_ | refine wk ?_ | refine wl ?_ | refine wm ?_ | refine wn ?_); simp only [lt, ↓reduceIte, Nat.reduceEqDiff]) | refine wo ?_)
  refine spec_rClean s hs _ _ (hK _ _ ?_)
  clear hK K; simp only [lp]
  repeat (first | refine wa ?_ | refine wb rfl ?_ | refine wc rfl rfl hM ?_ | refine wd rfl hM ?_ | ((first | refine we rfl fun K hK => ?_ | refine wf rfl rfl fun K hK => ?_ | refine wg rfl rfl fun K hK => ?_ | refine wh rfl fun K hK => ?_); (simp only [lo, ld, ↓aop, ↓aCall, hP, hG, Nat.reduceLT, ↓reduceIte, Nat.reduceEqDiff, Nat.reduceAdd, Nat.reduceMul, Nat.reduceLeDiff, reduceCtorEq, D.cs, D.plain, fillD, chop, List.replicate, tk_9, ze_9, sz_9]; repeat (with_reducible refine And.intro ?_ ?_; focus (first | decide | omega | (simp only [ln]; omega)))); try ((first | refine hK _ _ ?_ | refine hK _ ?_); clear hK K; simp only [lp])) | ((first | refine wi ?_ | refine wj ?_ | refine wk ?_ | refine wl ?_ | refine wm ?_ | refine wn ?_); simp only [lt, ↓reduceIte, Nat.reduceEqDiff]) | refine wo ?_)
  refine sat_thru (fr 17 [(2, .v (.bool (pathRight s)))]) E.H0 ?_ ?_
  · (first | refine wr ?_ | refine wp rfl hM ?_ | refine wq hM ?_); repeat' (first | ((first | refine wx ?_ | refine wy ?_ | refine wz ?_); (simp only [lo, ld, ↓aop, ↓aCall, hP, hG, Nat.reduceLT, ↓reduceIte, Nat.reduceEqDiff, Nat.reduceAdd, Nat.reduceMul, Nat.reduceLeDiff, reduceCtorEq, D.cs, D.plain, fillD, chop, List.replicate, tk_3, ze_3, sz_3, tk_4, ze_4, sz_4, tk_9, ze_9, sz_9, tk_24, ze_24, sz_24]; repeat (with_reducible refine And.intro ?_ ?_; focus (first | decide | omega | (simp only [ln]; omega)))); try ((first | refine hK _ _ ?_ | refine hK _ ?_); clear hK K; simp only [lp])) | refine we rfl fun K hK => ?_ | refine wf rfl rfl fun K hK => ?_ | refine wg rfl rfl fun K hK => ?_ | refine wh rfl fun K hK => ?_ | ((first | refine Xg rfl rfl (by decide) ?_ fun K hK => ?_ | refine Yg rfl rfl (by decide) ?_ fun K hK => ?_ | refine Zg rfl rfl rfl (by decide) ?_ fun K hK => ?_); (focus (simp only [look_cons, ↓reduceIte, Nat.reduceEqDiff, Bool.not_true, Bool.not_false]; done))) | ((first | refine Xn rfl rfl (by decide) ?_ ?_ | refine Yn rfl rfl (by decide) ?_ ?_ | refine Zn rfl rfl rfl (by decide) ?_ ?_); (focus (simp only [look_cons, ↓reduceIte, Nat.reduceEqDiff, Bool.not_true, Bool.not_false]; done)); simp only [lp]) | ((first | refine Xo rfl rfl (by decide) ?_ ?_ | refine Yo rfl rfl (by decide) ?_ ?_ | refine Zo rfl rfl rfl (by decide) ?_ ?_); (focus (simp only [look_cons, ↓reduceIte, Nat.reduceEqDiff, Bool.not_true, Bool.not_false]; done)); simp only [lp]) | ((first | refine Xs rfl rfl (by decide) rfl (fun h K hK => ?_) fun h => ?_ | refine Ys rfl rfl (by decide) rfl (fun h K hK => ?_) fun h => ?_ | refine Zs rfl rfl rfl (by decide) rfl (fun h K hK => ?_) fun h => ?_); rotate_left; (focus (simp only [Bool.not_true, Bool.not_false, lp])); rotate_left) | ((first | refine wi ?_ | refine wj ?_ | refine wk ?_); simp only [lt, ↓reduceIte, Nat.reduceEqDiff]))
    all_goals refine .weakFr ?_
    all_goals simp only [le, ↓reduceIte, Nat.reduceEqDiff, and_true]; repeat' (first | exact trivial | exact D.le_refl _ | exact D.le_any _ | with_reducible refine And.intro ?_ ?_)
    all_goals refine D.le_eq (congrArg D.v (congrArg V.bool ?_)); (try simp only [Bool.not_eq_eq_eq_not, Bool.not_true, Bool.not_false] at *); simp only [*, List.getD_eq_getElem?_getD, Bool.and_true, Bool.true_and, Bool.and_false, Bool.false_and, Bool.or_true, Bool.true_or, Bool.or_false, Bool.false_or, Bool.not_true, Bool.not_false, Bool.not_not, pathRight]
  repeat (first | refine wa ?_ | refine wb rfl ?_ | refine wc rfl rfl hM ?_ | refine wd rfl hM ?_ | ((first | refine we rfl fun K hK => ?_ | refine wf rfl rfl fun K hK => ?_ | refine wg rfl rfl fun K hK => ?_ | refine wh rfl fun K hK => ?_); (simp only [lo, ld, ↓aop, ↓aCall, hP, hG, Nat.reduceLT, ↓reduceIte, Nat.reduceEqDiff, Nat.reduceAdd, Nat.reduceMul, Nat.reduceLeDiff, reduceCtorEq, D.cs, D.plain, fillD, chop, List.replicate]; repeat (with_reducible refine And.intro ?_ ?_; focus (first | decide | omega | (simp only [ln]; omega)))); try ((first | refine hK _ _ ?_ | refine hK _ ?_); clear hK K; simp only [lp])) | ((first | refine wi ?_ | refine wj ?_ | refine wk ?_ | refine wl ?_ | refine wm ?_ | refine wn ?_); simp only [lt, ↓reduceIte, Nat.reduceEqDiff]) | refine wo ?_)
  exact Fin.is _ (by decide) rfl hK
end Go.Ag
namespace Go.Ag
open Go Go.Proofs
variable {G : Nat → Option (List V)}
attribute [local irreducible] aops qops Sat aop

theorem spec_rName' (s : Str) (hs : s.length ≤ 1099511627776) (H : List Ob) (K : D → List Ob → Prop) (hK : K (.v (.bool (nameOk s))) H) : ACalls Tryd.prog G 38 [.v (.str s)] H K := spec_rName s hs H K (by rw [nameOkR_eq]; exact hK)

set_option maxHeartbeats 8000000 in
theorem spec_rPrint (l : List Sel) (hl : l.length ≤ 1099511627776) (hs : ∀ x ∈ l, x.1.length ≤ 1099511627 ∧ x.2.2.length ≤ 1099511627) (H : List Ob)
    (K : D → List Ob → Prop) (hK : K (.tup [.v (.str (printS selOk l).1), .v (.int .i64 (printS selOk l).2)]) H) : ACalls Tryd.prog G 16 [.v (sels l)] H K := by
  refine ACalls.go Tryd.f16 _ 55 [2, 3] Tryd.func16 rfl Tryd.ntmps16 (by kernel_rfl) rfl (by simp) (fun E hE hP hG hH => ?_)
  have hM : E.P.follows .mixedOrders = true := hP ▸ mixed
  subst hH
  simp only [args0]
  repeat (first | refine wa ?_ | refine wb rfl ?_ | refine wc rfl rfl hM ?_ | refine wd rfl hM ?_ | ((first | refine we rfl fun K hK => ?_ | refine wf rfl rfl fun K hK => ?_ | refine wg rfl rfl fun K hK => ?_ | refine wh rfl fun K hK => ?_); (simp only [lo, ld, ↓aop, ↓aCall, hP, hG, Nat.reduceLT, ↓reduceIte, Nat.reduceEqDiff, Nat.reduceAdd, Nat.reduceMul, Nat.reduceLeDiff, reduceCtorEq, D.cs, D.plain, fillD, chop, List.replicate, sels, tk_3, ze_3, sz_3, tk_9, ze_9, sz_9, tk_27, ze_27, sz_27, tk_68, ze_68, sz_68, kn_68]; repeat (with_reducible refine And.intro ?_ ?_; focus (first | decide | omega | (simp only [ln]; omega)))); try ((first | refine hK _ _ ?_ | refine hK _ ?_); clear hK K; simp only [lp])) | ((first | refine wi ?_ | refine wj ?_ | refine wk ?_ | refine wl ?_ | refine wm ?_ | refine wn ?_); simp only [lt, ↓reduceIte, Nat.reduceEqDiff]) | refine wo ?_)
  refine sat_cond rfl (fun hb => ?_) (fun hb => ?_)
  · repeat (first | refine wa ?_ | refine wb rfl ?_ | refine wc rfl rfl hM ?_ | refine wd rfl hM ?_ | ((first | refine we rfl fun K hK => ?_ | refine wf rfl rfl fun K hK => ?_ | refine wg rfl rfl fun K hK => ?_ | refine wh rfl fun K hK => ?_); (simp only [lo, ld, ↓aop, ↓aCall, hP, hG, Nat.reduceLT, ↓reduceIte, Nat.reduceEqDiff, Nat.reduceAdd, Nat.reduceMul, Nat.reduceLeDiff, reduceCtorEq, D.cs, D.plain, fillD, chop, List.replicate, tk_9, ze_9, sz_9, tk_3, ze_3, sz_3]; repeat (with_reducible refine And.intro ?_ ?_; focus (first | decide | omega | (simp only [ln]; omega)))); try ((first | refine hK _ _ ?_ | refine hK _ ?_); clear hK K; simp only [lp])) | ((first | refine wi ?_ | refine wj ?_ | refine wk ?_ | refine wl ?_ | refine wm ?_ | refine wn ?_); simp only [lt, ↓reduceIte, Nat.reduceEqDiff]) | refine wo ?_)
    refine Fin.is2 (.v (.str [])) (.v (.int .i64 22)) (by decide) (by decide) rfl rfl ?_
    have : printS selOk l = ([], 22) := by
      simp only [decide_eq_true_eq] at hb
      simp only [printS]; rw [if_pos (by omega)]
    rwa [this] at hK
  have hlen : l.length ≤ 64 := by simp only [decide_eq_false_iff_not] at hb; omega
  repeat (first | refine wa ?_ | refine wb rfl ?_ | refine wc rfl rfl hM ?_ | refine wd rfl hM ?_ | ((first | refine we rfl fun K hK => ?_ | refine wf rfl rfl fun K hK => ?_ | refine wg rfl rfl fun K hK => ?_ | refine wh rfl fun K hK => ?_); (simp only [lo, ld, ↓aop, ↓aCall, hP, hG, Nat.reduceLT, ↓reduceIte, Nat.reduceEqDiff, Nat.reduceAdd, Nat.reduceMul, Nat.reduceLeDiff, reduceCtorEq, D.cs, D.plain, fillD, chop, List.replicate, sels, tk_3, ze_3, sz_3, tk_9, ze_9, sz_9, tk_27, ze_27, sz_27, tk_68, ze_68, sz_68, kn_68]; repeat (with_reducible refine And.intro ?_ ?_; focus (first | decide | omega | (simp only [ln]; omega)))); try ((first | refine hK _ _ ?_ | refine hK _ ?_); clear hK K; simp only [lp])) | ((first | refine wi ?_ | refine wj ?_ | refine wk ?_ | refine wl ?_ | refine wm ?_ | refine wn ?_); simp only [lt, ↓reduceIte, Nat.reduceEqDiff]) | refine wo ?_)
  refine sat_loop_ent (fun n ts H => ∃ (i : Nat), n = l.length - i ∧ i ≤ l.length ∧ (l.take i).all selOk = true ∧
    ts = fr 55 [(5, .v (.int .i64 i)), (4, .v (.str ((l.take i).map selLine).flatten)), (3, .v (.int .i64 0)), (2, .v (.str [])), (0, .v (sels l))] ∧ H = E.H0) (l.length) (.weakFr ?_) ⟨0, rfl, Nat.zero_le _, rfl, rfl, rfl⟩ ?_
  · simp only [le, ↓reduceIte, Nat.reduceEqDiff, and_true]; repeat' (first | exact trivial | exact D.le_refl _ | exact D.le_any _ | with_reducible refine And.intro ?_ ?_)
  rintro n ts H ⟨i, rfl, hi, hall, rfl, rfl⟩
  repeat (first | refine wa ?_ | refine wb rfl ?_ | refine wc rfl rfl hM ?_ | refine wd rfl hM ?_ | ((first | refine we rfl fun K hK => ?_ | refine wf rfl rfl fun K hK => ?_ | refine wg rfl rfl fun K hK => ?_ | refine wh rfl fun K hK => ?_); (simp only [lo, ld, ↓aop, ↓aCall, hP, hG, Nat.reduceLT, ↓reduceIte, Nat.reduceEqDiff, Nat.reduceAdd, Nat.reduceMul, Nat.reduceLeDiff, reduceCtorEq, D.cs, D.plain, fillD, chop, List.replicate, sels, tk_3, ze_3, sz_3, tk_9, ze_9, sz_9, tk_27, ze_27, sz_27, tk_68, ze_68, sz_68, kn_68]; repeat (with_reducible refine And.intro ?_ ?_; focus (first | decide | omega | (simp only [ln]; omega)))); try ((first | refine hK _ _ ?_ | refine hK _ ?_); clear hK K; simp only [lp])) | ((first | refine wi ?_ | refine wj ?_ | refine wk ?_ | refine wl ?_ | refine wm ?_ | refine wn ?_); simp only [lt, ↓reduceIte, Nat.reduceEqDiff]) | refine wo ?_)
  refine sat_cond rfl (fun hc => ?_) (fun hc => ?_)
  · simp at hc
    obtain ⟨x, hx⟩ : ∃ x, l[i]? = some x := ⟨_, List.getElem?_eq_getElem hc⟩
    have hw := wrap_succ (i := i) (by omega)
    have hxl := List.mem_of_getElem? hx
    obtain ⟨hx1, hx2⟩ := hs x hxl
    repeat (first | refine wa ?_ | refine wb rfl ?_ | refine wc rfl rfl hM ?_ | refine wd rfl hM ?_ | ((first | refine we rfl fun K hK => ?_ | refine wf rfl rfl fun K hK => ?_ | refine wg rfl rfl fun K hK => ?_ | refine wh rfl fun K hK => ?_); (simp only [lo, ld, ↓aop, ↓aCall, hP, hG, Nat.reduceLT, ↓reduceIte, Nat.reduceEqDiff, Nat.reduceAdd, Nat.reduceMul, Nat.reduceLeDiff, reduceCtorEq, D.cs, D.plain, fillD, chop, List.replicate]; repeat (with_reducible refine And.intro ?_ ?_; focus (first | decide | omega | (simp only [ln]; omega)))); try ((first | refine hK _ _ ?_ | refine hK _ ?_); clear hK K; simp only [lp])) | ((first | refine wi ?_ | refine wj ?_ | refine wk ?_ | refine wl ?_ | refine wm ?_ | refine wn ?_); simp only [lt, ↓reduceIte, Nat.reduceEqDiff]) | refine wo ?_)
    refine sat_thru (fr 55 [(30, .v (.bool (!selOk x))), (5, .v (.int .i64 i)), (4, .v (.str ((l.take i).map selLine).flatten)), (3, .v (.int .i64 0)), (2, .v (.str [])), (0, .v (sels l))]) E.H0 ?_ ?_
    · (first | refine wr ?_ | refine wp rfl hM ?_ | refine wq hM ?_); repeat' (first | ((first | refine wx ?_ | refine wy ?_ | refine wz ?_); (simp only [lo, ld, ↓aop, ↓aCall, hP, hG, Nat.reduceLT, ↓reduceIte, Nat.reduceEqDiff, Nat.reduceAdd, Nat.reduceMul, Nat.reduceLeDiff, reduceCtorEq, D.cs, D.plain, fillD, chop, List.replicate, sels, tk_3, ze_3, sz_3, tk_9, ze_9, sz_9, tk_27, ze_27, sz_27, tk_68, ze_68, sz_68, kn_68, hc, hx, selV]; repeat (with_reducible refine And.intro ?_ ?_; focus (first | decide | omega | (simp only [ln]; omega)))); try ((first | refine hK _ _ ?_ | refine hK _ ?_); clear hK K; simp only [lp])) | refine we rfl fun K hK => ?_ | refine wf rfl rfl fun K hK => ?_ | refine wg rfl rfl fun K hK => ?_ | refine wh rfl fun K hK => ?_ | ((first | refine Xg rfl rfl (by decide) ?_ fun K hK => ?_ | refine Yg rfl rfl (by decide) ?_ fun K hK => ?_ | refine Zg rfl rfl rfl (by decide) ?_ fun K hK => ?_); (focus (simp only [look_cons, ↓reduceIte, Nat.reduceEqDiff, Bool.not_true, Bool.not_false]; done))) | ((first | refine Xn rfl rfl (by decide) ?_ ?_ | refine Yn rfl rfl (by decide) ?_ ?_ | refine Zn rfl rfl rfl (by decide) ?_ ?_); (focus (simp only [look_cons, ↓reduceIte, Nat.reduceEqDiff, Bool.not_true, Bool.not_false]; done)); simp only [lp]) | ((first | refine Xo rfl rfl (by decide) ?_ ?_ | refine Yo rfl rfl (by decide) ?_ ?_ | refine Zo rfl rfl rfl (by decide) ?_ ?_); (focus (simp only [look_cons, ↓reduceIte, Nat.reduceEqDiff, Bool.not_true, Bool.not_false]; done)); simp only [lp]) | ((first | refine Xs rfl rfl (by decide) rfl (fun h K hK => ?_) fun h => ?_ | refine Ys rfl rfl (by decide) rfl (fun h K hK => ?_) fun h => ?_ | refine Zs rfl rfl rfl (by decide) rfl (fun h K hK => ?_) fun h => ?_); rotate_left; (focus (simp only [Bool.not_true, Bool.not_false, lp])); rotate_left) | ((first | refine wi ?_ | refine wj ?_ | refine wk ?_); simp only [lt, ↓reduceIte, Nat.reduceEqDiff]))
      refine spec_rName' _ (by omega) _ _ (hK _ _ ?_)
      clear hK K; simp only [lp]
      repeat' (first | ((first | refine wx ?_ | refine wy ?_ | refine wz ?_); (simp only [lo, ld, ↓aop, ↓aCall, hP, hG, Nat.reduceLT, ↓reduceIte, Nat.reduceEqDiff, Nat.reduceAdd, Nat.reduceMul, Nat.reduceLeDiff, reduceCtorEq, D.cs, D.plain, fillD, chop, List.replicate, sels, tk_3, ze_3, sz_3, tk_9, ze_9, sz_9, tk_27, ze_27, sz_27, tk_68, ze_68, sz_68, kn_68, hc, hx, selV]; repeat (with_reducible refine And.intro ?_ ?_; focus (first | decide | omega | (simp only [ln]; omega)))); try ((first | refine hK _ _ ?_ | refine hK _ ?_); clear hK K; simp only [lp])) | refine we rfl fun K hK => ?_ | refine wf rfl rfl fun K hK => ?_ | refine wg rfl rfl fun K hK => ?_ | refine wh rfl fun K hK => ?_ | ((first | refine Xg rfl rfl (by decide) ?_ fun K hK => ?_ | refine Yg rfl rfl (by decide) ?_ fun K hK => ?_ | refine Zg rfl rfl rfl (by decide) ?_ fun K hK => ?_); (focus (simp only [look_cons, ↓reduceIte, Nat.reduceEqDiff, Bool.not_true, Bool.not_false]; done))) | ((first | refine Xn rfl rfl (by decide) ?_ ?_ | refine Yn rfl rfl (by decide) ?_ ?_ | refine Zn rfl rfl rfl (by decide) ?_ ?_); (focus (simp only [look_cons, ↓reduceIte, Nat.reduceEqDiff, Bool.not_true, Bool.not_false]; done)); simp only [lp]) | ((first | refine Xo rfl rfl (by decide) ?_ ?_ | refine Yo rfl rfl (by decide) ?_ ?_ | refine Zo rfl rfl rfl (by decide) ?_ ?_); (focus (simp only [look_cons, ↓reduceIte, Nat.reduceEqDiff, Bool.not_true, Bool.not_false]; done)); simp only [lp]) | ((first | refine Xs rfl rfl (by decide) rfl (fun h K hK => ?_) fun h => ?_ | refine Ys rfl rfl (by decide) rfl (fun h K hK => ?_) fun h => ?_ | refine Zs rfl rfl rfl (by decide) rfl (fun h K hK => ?_) fun h => ?_); rotate_left; (focus (simp only [Bool.not_true, Bool.not_false, lp])); rotate_left) | ((first | refine wi ?_ | refine wj ?_ | refine wk ?_); simp only [lt, ↓reduceIte, Nat.reduceEqDiff]))
      · refine spec_rRight _ hx2 _ _ (hK _ _ ?_)
        clear hK K; simp only [lp]
        repeat' (first | ((first | refine wx ?_ | refine wy ?_ | refine wz ?_); (simp only [lo, ld, ↓aop, ↓aCall, hP, hG, Nat.reduceLT, ↓reduceIte, Nat.reduceEqDiff, Nat.reduceAdd, Nat.reduceMul, Nat.reduceLeDiff, reduceCtorEq, D.cs, D.plain, fillD, chop, List.replicate, sels, tk_3, ze_3, sz_3, tk_9, ze_9, sz_9, tk_27, ze_27, sz_27, tk_68, ze_68, sz_68, kn_68, hc, hx, selV]; repeat (with_reducible refine And.intro ?_ ?_; focus (first | decide | omega | (simp only [ln]; omega)))); try ((first | refine hK _ _ ?_ | refine hK _ ?_); clear hK K; simp only [lp])) | refine we rfl fun K hK => ?_ | refine wf rfl rfl fun K hK => ?_ | refine wg rfl rfl fun K hK => ?_ | refine wh rfl fun K hK => ?_ | ((first | refine Xg rfl rfl (by decide) ?_ fun K hK => ?_ | refine Yg rfl rfl (by decide) ?_ fun K hK => ?_ | refine Zg rfl rfl rfl (by decide) ?_ fun K hK => ?_); (focus (simp only [look_cons, ↓reduceIte, Nat.reduceEqDiff, Bool.not_true, Bool.not_false]; done))) | ((first | refine Xn rfl rfl (by decide) ?_ ?_ | refine Yn rfl rfl (by decide) ?_ ?_ | refine Zn rfl rfl rfl (by decide) ?_ ?_); (focus (simp only [look_cons, ↓reduceIte, Nat.reduceEqDiff, Bool.not_true, Bool.not_false]; done)); simp only [lp]) | ((first | refine Xo rfl rfl (by decide) ?_ ?_ | refine Yo rfl rfl (by decide) ?_ ?_ | refine Zo rfl rfl rfl (by decide) ?_ ?_); (focus (simp only [look_cons, ↓reduceIte, Nat.reduceEqDiff, Bool.not_true, Bool.not_false]; done)); simp only [lp]) | ((first | refine Xs rfl rfl (by decide) rfl (fun h K hK => ?_) fun h => ?_ | refine Ys rfl rfl (by decide) rfl (fun h K hK => ?_) fun h => ?_ | refine Zs rfl rfl rfl (by decide) rfl (fun h K hK => ?_) fun h => ?_); rotate_left; (focus (simp only [Bool.not_true, Bool.not_false, lp])); rotate_left) | ((first | refine wi ?_ | refine wj ?_ | refine wk ?_); simp only [lt, ↓reduceIte, Nat.reduceEqDiff]))
        refine .weakFr ?_
        simp only [le, ↓reduceIte, Nat.reduceEqDiff, and_true]; repeat' (first | exact trivial | exact D.le_refl _ | exact D.le_any _ | with_reducible refine And.intro ?_ ?_)
        all_goals refine D.le_eq (congrArg D.v (congrArg V.bool ?_)); (try simp only [Bool.not_eq_eq_eq_not, Bool.not_true, Bool.not_false] at *); simp only [*, List.getD_eq_getElem?_getD, Bool.and_true, Bool.true_and, Bool.and_false, Bool.false_and, Bool.or_true, Bool.true_or, Bool.or_false, Bool.false_or, Bool.not_true, Bool.not_false, Bool.not_not, selOk]
      · refine .weakFr ?_
        simp only [le, ↓reduceIte, Nat.reduceEqDiff, and_true]; repeat' (first | exact trivial | exact D.le_refl _ | exact D.le_any _ | with_reducible refine And.intro ?_ ?_)
        all_goals refine D.le_eq (congrArg D.v (congrArg V.bool ?_)); (try simp only [Bool.not_eq_eq_eq_not, Bool.not_true, Bool.not_false] at *); simp only [*, List.getD_eq_getElem?_getD, Bool.and_true, Bool.true_and, Bool.and_false, Bool.false_and, Bool.or_true, Bool.true_or, Bool.or_false, Bool.false_or, Bool.not_true, Bool.not_false, Bool.not_not, selOk]
    refine sat_cond rfl (fun hb => ?_) (fun hb => ?_)
    · repeat (first | refine wa ?_ | refine wb rfl ?_ | refine wc rfl rfl hM ?_ | refine wd rfl hM ?_ | ((first | refine we rfl fun K hK => ?_ | refine wf rfl rfl fun K hK => ?_ | refine wg rfl rfl fun K hK => ?_ | refine wh rfl fun K hK => ?_); (simp only [lo, ld, ↓aop, ↓aCall, hP, hG, Nat.reduceLT, ↓reduceIte, Nat.reduceEqDiff, Nat.reduceAdd, Nat.reduceMul, Nat.reduceLeDiff, reduceCtorEq, D.cs, D.plain, fillD, chop, List.replicate, tk_9, ze_9, sz_9, tk_24, ze_24, sz_24]; repeat (with_reducible refine And.intro ?_ ?_; focus (first | decide | omega | (simp only [ln]; omega)))); try ((first | refine hK _ _ ?_ | refine hK _ ?_); clear hK K; simp only [lp])) | ((first | refine wi ?_ | refine wj ?_ | refine wk ?_ | refine wl ?_ | refine wm ?_ | refine wn ?_); simp only [lt, ↓reduceIte, Nat.reduceEqDiff]) | refine wo ?_)
      refine Fin.is2 (.v (.str [])) (.v (.int .i64 1)) (by decide) (by decide) rfl rfl ?_
      have : printS selOk l = ([], 1) := by
        have : l.all selOk = false := by
          rw [List.all_eq_false]
          exact ⟨x, hxl, by simpa using hb⟩
        simp only [printS, this]; rw [if_neg (by omega)]; rfl
      rwa [this] at hK
    · have hfl : ((l.take i).map selLine).flatten.length ≤ 140737488355328 := by
        have := flat_le 2199023264 (l.take i) (fun x hx => by have := line_len x; have := hs x (List.mem_of_mem_take hx); omega)
        have h2 : (l.take i).length ≤ 64 := by simp; omega
        have h3 : (l.take i).length * 2199023264 ≤ 64 * 2199023264 := Nat.mul_le_mul_right _ h2
        omega
      have hm : (modeW x.2.1).length ≤ 6 := by cases x.2.1 <;> decide
      repeat (first | refine wa ?_ | refine wb rfl ?_ | refine wc rfl rfl hM ?_ | refine wd rfl hM ?_ | ((first | refine we rfl fun K hK => ?_ | refine wf rfl rfl fun K hK => ?_ | refine wg rfl rfl fun K hK => ?_ | refine wh rfl fun K hK => ?_); (simp only [lo, ld, ↓aop, ↓aCall, hP, hG, Nat.reduceLT, ↓reduceIte, Nat.reduceEqDiff, Nat.reduceAdd, Nat.reduceMul, Nat.reduceLeDiff, reduceCtorEq, D.cs, D.plain, fillD, chop, List.replicate, sels, tk_3, ze_3, sz_3, tk_4, ze_4, sz_4, tk_9, ze_9, sz_9, tk_27, ze_27, sz_27, tk_68, ze_68, sz_68, kn_68, hc, hx, selV]; repeat (with_reducible refine And.intro ?_ ?_; focus (first | decide | omega | (simp only [ln]; omega)))); try ((first | refine hK _ _ ?_ | refine hK _ ?_); clear hK K; simp only [lp])) | ((first | refine wi ?_ | refine wj ?_ | refine wk ?_ | refine wl ?_ | refine wm ?_ | refine wn ?_); simp only [lt, ↓reduceIte, Nat.reduceEqDiff]) | refine wo ?_)
      refine ⟨_, spec_word _ _ _ ⟨rfl, rfl⟩, hK _ ?_⟩
      clear hK K; simp only [lp]
      repeat (first | refine wa ?_ | refine wb rfl ?_ | refine wc rfl rfl hM ?_ | refine wd rfl hM ?_ | ((first | refine we rfl fun K hK => ?_ | refine wf rfl rfl fun K hK => ?_ | refine wg rfl rfl fun K hK => ?_ | refine wh rfl fun K hK => ?_); (simp only [lo, ld, ↓aop, ↓aCall, hP, hG, Nat.reduceLT, ↓reduceIte, Nat.reduceEqDiff, Nat.reduceAdd, Nat.reduceMul, Nat.reduceLeDiff, reduceCtorEq, D.cs, D.plain, fillD, chop, List.replicate, sels, tk_3, ze_3, sz_3, tk_4, ze_4, sz_4, tk_9, ze_9, sz_9, tk_27, ze_27, sz_27, tk_68, ze_68, sz_68, kn_68, hc, hx, selV, hw]; repeat (with_reducible refine And.intro ?_ ?_; focus (first | decide | omega | (simp only [ln]; omega)))); try ((first | refine hK _ _ ?_ | refine hK _ ?_); clear hK K; simp only [lp])) | ((first | refine wi ?_ | refine wj ?_ | refine wk ?_ | refine wl ?_ | refine wm ?_ | refine wn ?_); simp only [lt, ↓reduceIte, Nat.reduceEqDiff]) | refine wo ?_)
      have e : ((l.take (i + 1)).map selLine).flatten = (((((((l.take i).map selLine).flatten ++ x.1) ++ [32]) ++ modeW x.2.1) ++ [32]) ++ x.2.2) ++ [10] := by
        rw [take_snoc hx]; simp [selLine, selBody]
      refine ⟨l.length - (i + 1), _, _, by omega, .weakFr ?_, i + 1, rfl, by omega, ?_, rfl, rfl⟩
      · rw [e]
        simp only [le, ↓reduceIte, Nat.reduceEqDiff, and_true]; repeat' (first | exact trivial | exact D.le_refl _ | exact D.le_any _ | with_reducible refine And.intro ?_ ?_)
      · rw [List.take_add_one, hx, List.all_append, hall]; simpa using hb
  · simp at hc
    have e : l.take i = l := List.take_of_length_le (by omega)
    rw [e] at hall
    rw [e]
    repeat (first | refine wa ?_ | refine wb rfl ?_ | refine wc rfl rfl hM ?_ | refine wd rfl hM ?_ | ((first | refine we rfl fun K hK => ?_ | refine wf rfl rfl fun K hK => ?_ | refine wg rfl rfl fun K hK => ?_ | refine wh rfl fun K hK => ?_); (simp only [lo, ld, ↓aop, ↓aCall, hP, hG, Nat.reduceLT, ↓reduceIte, Nat.reduceEqDiff, Nat.reduceAdd, Nat.reduceMul, Nat.reduceLeDiff, reduceCtorEq, D.cs, D.plain, fillD, chop, List.replicate, tk_3, ze_3, sz_3, tk_9, ze_9, sz_9, tk_24, ze_24, sz_24, tk_50, ze_50, sz_50, tk_23, ze_23, sz_23, tk_59, ze_59, sz_59, kn_59]; repeat (with_reducible refine And.intro ?_ ?_; focus (first | decide | omega | (simp only [ln]; omega)))); try ((first | refine hK _ _ ?_ | refine hK _ ?_); clear hK K; simp only [lp])) | ((first | refine wi ?_ | refine wj ?_ | refine wk ?_ | refine wl ?_ | refine wm ?_ | refine wn ?_); simp only [lt, ↓reduceIte, Nat.reduceEqDiff]) | refine wo ?_)
    refine Fin.is2 _ _ (by decide) (by decide) rfl rfl ?_
    have : printS selOk l = ((l.map selLine).flatten, 0) := by
      simp only [printS, hall, if_true]; rw [if_neg (by omega)]
    rwa [this] at hK
end Go.Ag
namespace Go.Ag
open Go Go.Proofs
variable {G : Nat → Option (List V)}
attribute [local irreducible] aops qops Sat aop

theorem wordsL_mem {s x : Str} (h : x ∈ wordsL s) : x.length ≤ s.length := split_mem (List.mem_filter.1 h).1
theorem selR_len {l : Str} {x : Sel} (h : selR l = some x) : x.1.length ≤ l.length ∧ x.2.2.length ≤ l.length := by
  unfold selR at h
  split at h
  · cases h
  · rename_i h3
    obtain ⟨a, b, c, habc⟩ := len3 (l := wordsL l) (by simpa using h3)
    have ha : a ∈ wordsL l := by rw [habc]; simp
    have hc : c ∈ wordsL l := by rw [habc]; simp
    rw [habc] at h
    simp at h
    subst h
    exact ⟨wordsL_mem ha, wordsL_mem hc⟩

set_option maxHeartbeats 8000000 in
theorem spec_rParse (s : Str) (hs : s.length ≤ 1099511627) (H : List Ob)
    (K : D → List Ob → Prop) (hK : K (.tup [.v (sels ((parseR selOk s).getD [])), .v (.bool (parseR selOk s).isSome)]) H) : ACalls Tryd.prog G 10 [.v (.str s)] H K := by
  refine ACalls.go Tryd.f10 _ 61 [2, 3] Tryd.func10 rfl Tryd.ntmps10 (by kernel_rfl) rfl (by simp) (fun E hE hP hG hH => ?_)
  have hM : E.P.follows .mixedOrders = true := hP ▸ mixed
  subst hH
  simp only [args0]
  repeat (first | refine wa ?_ | refine wb rfl ?_ | refine wc rfl rfl hM ?_ | refine wd rfl hM ?_ | ((first | refine we rfl fun K hK => ?_ | refine wf rfl rfl fun K hK => ?_ | refine wg rfl rfl fun K hK => ?_ | refine wh rfl fun K hK => ?_); (simp only [lo, ld, ↓aop, ↓aCall, hP, hG, Nat.reduceLT, ↓reduceIte, Nat.reduceEqDiff, Nat.reduceAdd, Nat.reduceMul, Nat.reduceLeDiff, reduceCtorEq, D.cs, D.plain, fillD, chop, List.replicate, tk_3, ze_3, sz_3, tk_9, ze_9, sz_9, tk_50, ze_50, sz_50, tk_27, ze_27, sz_27]; repeat (with_reducible refine And.intro ?_ ?_; focus (first | decide | omega | (simp only [ln]; omega)))); try ((first | refine hK _ _ ?_ | refine hK _ ?_); clear hK K; simp only [lp])) | ((first | refine wi ?_ | refine wj ?_ | refine wk ?_ | refine wl ?_ | refine wm ?_ | refine wn ?_); simp only [lt, ↓reduceIte, Nat.reduceEqDiff]) | refine wo ?_)
  refine spec_rLines s (by omega) _ _ (hK _ _ ?_)
  clear hK K; simp only [lp]
  have hll : ∀ x ∈ (linesR s).1, x.length ≤ s.length := fun x hx => split_mem (List.mem_of_mem_take hx)
  have hln : (linesR s).1.length ≤ s.length + 1 := by have := splitC_len 10 s; simp only [linesR, List.length_take]; omega
  have hpR : parseR selOk s = match (linesR s).1.mapM selR with
    | none => none
    | some out => if !(linesR s).2 || (printS selOk out).2 != 0 || (printS selOk out).1 != s then none else some out := rfl
  rw [hpR] at hK
  clear hpR
  revert hK hll hln
  generalize (linesR s).1 = ls
  generalize (linesR s).2 = ok
  intro hK hll hln
  repeat (first | refine wa ?_ | refine wb rfl ?_ | refine wc rfl rfl hM ?_ | refine wd rfl hM ?_ | ((first | refine we rfl fun K hK => ?_ | refine wf rfl rfl fun K hK => ?_ | refine wg rfl rfl fun K hK => ?_ | refine wh rfl fun K hK => ?_); (simp only [lo, ld, ↓aop, ↓aCall, hP, hG, Nat.reduceLT, ↓reduceIte, Nat.reduceEqDiff, Nat.reduceAdd, Nat.reduceMul, Nat.reduceLeDiff, reduceCtorEq, D.cs, D.plain, fillD, chop, List.replicate, strs, tk_3, ze_3, sz_3, tk_9, ze_9, sz_9, tk_50, ze_50, sz_50, tk_27, ze_27, sz_27]; repeat (with_reducible refine And.intro ?_ ?_; focus (first | decide | omega | (simp only [ln]; omega)))); try ((first | refine hK _ _ ?_ | refine hK _ ?_); clear hK K; simp only [lp])) | ((first | refine wi ?_ | refine wj ?_ | refine wk ?_ | refine wl ?_ | refine wm ?_ | refine wn ?_); simp only [lt, ↓reduceIte, Nat.reduceEqDiff]) | refine wo ?_)
  refine sat_loop_ent (fun n ts H => ∃ (i : Nat) (out : List Sel) (d : D) (L : List Ob), n = ls.length - i ∧ i ≤ ls.length ∧ (ls.take i).mapM selR = some out ∧ Acs E 1 3 (out.map selV) d L ∧
    ts = fr 61 [(7, .v (.int .i64 i)), (6, .v (.bool ok)), (5, .v (strs ls)), (4, d), (3, .v (.bool false)), (2, .nils), (0, .v (.str s))] ∧ H = E.H0 ++ L) (ls.length) (.weakFr ?_) ⟨0, [], _, [], rfl, Nat.zero_le _, rfl, Acs.start 1 3, rfl, (List.append_nil _).symm⟩ ?_
  · simp only [le, ↓reduceIte, Nat.reduceEqDiff, and_true]; repeat' (first | exact trivial | exact D.le_refl _ | exact D.le_any _ | with_reducible refine And.intro ?_ ?_)
  rintro n ts H ⟨i, out, d, L, rfl, hi, hout, hA, rfl, rfl⟩
  repeat (first | refine wa ?_ | refine wb rfl ?_ | refine wc rfl rfl hM ?_ | refine wd rfl hM ?_ | ((first | refine we rfl fun K hK => ?_ | refine wf rfl rfl fun K hK => ?_ | refine wg rfl rfl fun K hK => ?_ | refine wh rfl fun K hK => ?_); (simp only [lo, ld, ↓aop, ↓aCall, hP, hG, Nat.reduceLT, ↓reduceIte, Nat.reduceEqDiff, Nat.reduceAdd, Nat.reduceMul, Nat.reduceLeDiff, reduceCtorEq, D.cs, D.plain, fillD, chop, List.replicate, strs, tk_3, ze_3, sz_3, tk_9, ze_9, sz_9, tk_50, ze_50, sz_50]; repeat (with_reducible refine And.intro ?_ ?_; focus (first | decide | omega | (simp only [ln]; omega)))); try ((first | refine hK _ _ ?_ | refine hK _ ?_); clear hK K; simp only [lp])) | ((first | refine wi ?_ | refine wj ?_ | refine wk ?_ | refine wl ?_ | refine wm ?_ | refine wn ?_); simp only [lt, ↓reduceIte, Nat.reduceEqDiff]) | refine wo ?_)
  refine sat_cond rfl (fun hc => ?_) (fun hc => ?_)
  · simp at hc
    obtain ⟨x, hx⟩ : ∃ x, ls[i]? = some x := ⟨_, List.getElem?_eq_getElem hc⟩
    have hw := wrap_succ (i := i) (by omega)
    have hxl := hll x (List.mem_of_getElem? hx)
    have hxs := mapM_take hx hout
    have hlen : out.length = i := by have := mapM_len hout; simpa [Nat.min_eq_left hi] using this
    repeat (first | refine wa ?_ | refine wb rfl ?_ | refine wc rfl rfl hM ?_ | refine wd rfl hM ?_ | ((first | refine we rfl fun K hK => ?_ | refine wf rfl rfl fun K hK => ?_ | refine wg rfl rfl fun K hK => ?_ | refine wh rfl fun K hK => ?_); (simp only [lo, ld, ↓aop, ↓aCall, hP, hG, Nat.reduceLT, ↓reduceIte, Nat.reduceEqDiff, Nat.reduceAdd, Nat.reduceMul, Nat.reduceLeDiff, reduceCtorEq, D.cs, D.plain, fillD, chop, List.replicate, strs, tk_3, ze_3, sz_3, tk_9, ze_9, sz_9, tk_50, ze_50, sz_50, hc, hx]; repeat (with_reducible refine And.intro ?_ ?_; focus (first | decide | omega | (simp only [ln]; omega)))); try ((first | refine hK _ _ ?_ | refine hK _ ?_); clear hK K; simp only [lp])) | ((first | refine wi ?_ | refine wj ?_ | refine wk ?_ | refine wl ?_ | refine wm ?_ | refine wn ?_); simp only [lt, ↓reduceIte, Nat.reduceEqDiff]) | refine wo ?_)
    refine spec_rWords x (by omega) _ _ (hK _ _ ?_)
    clear hK K; simp only [lp]
    by_cases h3 : (wordsL x).length = 3
    · obtain ⟨a, b, c, habc⟩ := len3 h3
      have g3 : (((wordsL x).length : Int) == 3) = true := by rw [h3]; rfl
      have g0 : (wordsL x)[0]? = some a := by rw [habc]; rfl
      have g1 : (wordsL x)[1]? = some b := by rw [habc]; rfl
      have g2 : (wordsL x)[2]? = some c := by rw [habc]; rfl
      have g4 : ((wordsL x).length == 3) = true := by rw [h3]; rfl
      have e0 : selR x = some (a, b == wManual, c) := by
        simp only [selR, g4, List.getD_eq_getElem?_getD, g0, g1, g2, Option.getD_some, Bool.not_true, Bool.false_eq_true, if_false]
      rw [e0] at hxs
      change _ = some (out ++ [(a, b == wManual, c)]) at hxs
      repeat (first | refine wa ?_ | refine wb rfl ?_ | refine wc rfl rfl hM ?_ | refine wd rfl hM ?_ | ((first | refine we rfl fun K hK => ?_ | refine wf rfl rfl fun K hK => ?_ | refine wg rfl rfl fun K hK => ?_ | refine wh rfl fun K hK => ?_); (simp only [lo, ld, ↓aop, ↓aCall, hP, hG, Nat.reduceLT, ↓reduceIte, Nat.reduceEqDiff, Nat.reduceAdd, Nat.reduceMul, Nat.reduceLeDiff, reduceCtorEq, D.cs, D.plain, fillD, chop, List.replicate, strs, tk_3, ze_3, sz_3, tk_9, ze_9, sz_9, tk_50, ze_50, sz_50, g3]; repeat (with_reducible refine And.intro ?_ ?_; focus (first | decide | omega | (simp only [ln]; omega)))); try ((first | refine hK _ _ ?_ | refine hK _ ?_); clear hK K; simp only [lp])) | ((first | refine wi ?_ | refine wj ?_ | refine wk ?_ | refine wl ?_ | refine wm ?_ | refine wn ?_); simp only [lt, ↓reduceIte, Nat.reduceEqDiff]) | refine wo ?_)
      refine sat_cond rfl (fun hb => ?_) (fun hb => ?_)
      · exact absurd hb (by decide)
      rcases hA with ⟨h0, rfl, rfl⟩ | ⟨ver, zs, hv, hle, hz, rfl, rfl⟩
      · have h0 : out = [] := by simpa using h0
        subst h0
        repeat (first | refine wa ?_ | refine wb rfl ?_ | refine wc rfl rfl hM ?_ | refine wd rfl hM ?_ | ((first | refine we rfl fun K hK => ?_ | refine wf rfl rfl fun K hK => ?_ | refine wg rfl rfl fun K hK => ?_ | refine wh rfl fun K hK => ?_); (simp only [lo, ld, ↓aop, ↓aCall, hP, hG, Nat.reduceLT, ↓reduceIte, Nat.reduceEqDiff, Nat.reduceAdd, Nat.reduceMul, Nat.reduceLeDiff, reduceCtorEq, D.cs, D.plain, fillD, chop, List.replicate, strs, tk_3, ze_3, sz_3, tk_4, ze_4, sz_4, tk_9, ze_9, sz_9, tk_50, ze_50, sz_50, tk_68, ze_68, sz_68, kn_68, tk_27, ze_27, sz_27, g0, g1, g2, Int.reduceToNat, hw]; repeat (with_reducible refine And.intro ?_ ?_; focus (first | decide | omega | (simp only [ln]; omega)))); try ((first | refine hK _ _ ?_ | refine hK _ ?_); clear hK K; simp only [lp])) | ((first | refine wi ?_ | refine wj ?_ | refine wk ?_ | refine wl ?_ | refine wm ?_ | refine wn ?_); simp only [lt, ↓reduceIte, Nat.reduceEqDiff]) | refine wo ?_)
        refine ⟨ls.length - (i + 1), _, _, by omega, ?_, i + 1, [(a, b == wManual, c)], .own (E.H0.length + 1) 1 1, [.dead, .arr 1 3 [(selV (a, b == wManual, c)).map .v] 0], rfl, by omega, hxs, .inr ⟨1, [selV (a, b == wManual, c)], Nat.le_refl _, Nat.le_refl _, rfl, rfl, rfl⟩, rfl, rfl⟩
        refine Ent.trip hE ?_ ?_ ?_ ?_
        · simp only [le, ↓reduceIte, Nat.reduceEqDiff, and_true]; repeat' (first | exact trivial | exact D.le_refl _ | exact D.le_any _ | with_reducible refine And.intro ?_ ?_)
        · simp [leObs_cons, leObs_nil, selV, wManual]
        · simp [ltAll, ltObs, Ob.lt, D.lt, D.ltL, or_imp, forall_and]
        · exact ⟨trivial, ltRows _ [selV (a, b == wManual, c)], trivial⟩
      · simp only [List.length_map] at hle hz
        repeat (first | refine wa ?_ | refine wb rfl ?_ | refine wc rfl rfl hM ?_ | refine wd rfl hM ?_ | ((first | refine we rfl fun K hK => ?_ | refine wf rfl rfl fun K hK => ?_ | refine wg rfl rfl fun K hK => ?_ | refine wh rfl fun K hK => ?_); (simp only [lo, ld, ↓aop, ↓aCall, hP, hG, Nat.reduceLT, ↓reduceIte, Nat.reduceEqDiff, Nat.reduceAdd, Nat.reduceMul, Nat.reduceLeDiff, reduceCtorEq, D.cs, D.plain, fillD, chop, List.replicate, strs, tk_3, ze_3, sz_3, tk_4, ze_4, sz_4, tk_9, ze_9, sz_9, tk_50, ze_50, sz_50, tk_68, ze_68, sz_68, kn_68, tk_27, ze_27, sz_27, g0, g1, g2, Int.reduceToNat, hw]; repeat (with_reducible refine And.intro ?_ ?_; focus (first | decide | omega | (simp only [ln]; omega)))); try ((first | refine hK _ _ ?_ | refine hK _ ?_); clear hK K; simp only [lp])) | ((first | refine wi ?_ | refine wj ?_ | refine wk ?_ | refine wl ?_ | refine wm ?_ | refine wn ?_); simp only [lt, ↓reduceIte, Nat.reduceEqDiff]) | refine wo ?_)
        refine ⟨ls.length - (i + 1), _, _, by omega, ?_, i + 1, out ++ [(a, b == wManual, c)], .own (E.H0.length + 1) (ver + 1) (out.length + 1), [.dead, .arr (ver + 1) 3 (((out ++ [(a, b == wManual, c)]).map selV).map (·.map .v)) 0], rfl, by omega, hxs, .inr ⟨ver + 1, (out ++ [(a, b == wManual, c)]).map selV, by omega, Nat.le_refl _, take_len _, by simp, rfl⟩, rfl, rfl⟩
        refine Ent.trip hE ?_ ?_ ?_ ?_
        · simp only [le, ↓reduceIte, Nat.reduceEqDiff, and_true]; repeat' (first | exact trivial | exact D.le_refl _ | exact D.le_any _ | with_reducible refine And.intro ?_ ?_)
        · simp [leObs_cons, leObs_nil]
          refine ⟨?_, rfl⟩
          rw [← List.map_take, hz]; simp
        · simp [ltAll, ltObs, Ob.lt, D.lt, D.ltL, or_imp, forall_and]
        · exact ⟨trivial, ltRows _ _, trivial⟩
    · have g3 : (((wordsL x).length : Int) == 3) = false := by
        rw [beq_eq_false_iff_ne]; omega
      repeat (first | refine wa ?_ | refine wb rfl ?_ | refine wc rfl rfl hM ?_ | refine wd rfl hM ?_ | ((first | refine we rfl fun K hK => ?_ | refine wf rfl rfl fun K hK => ?_ | refine wg rfl rfl fun K hK => ?_ | refine wh rfl fun K hK => ?_); (simp only [lo, ld, ↓aop, ↓aCall, hP, hG, Nat.reduceLT, ↓reduceIte, Nat.reduceEqDiff, Nat.reduceAdd, Nat.reduceMul, Nat.reduceLeDiff, reduceCtorEq, D.cs, D.plain, fillD, chop, List.replicate, strs, tk_3, ze_3, sz_3, tk_9, ze_9, sz_9, tk_50, ze_50, sz_50, g3]; repeat (with_reducible refine And.intro ?_ ?_; focus (first | decide | omega | (simp only [ln]; omega)))); try ((first | refine hK _ _ ?_ | refine hK _ ?_); clear hK K; simp only [lp])) | ((first | refine wi ?_ | refine wj ?_ | refine wk ?_ | refine wl ?_ | refine wm ?_ | refine wn ?_); simp only [lt, ↓reduceIte, Nat.reduceEqDiff]) | refine wo ?_)
      refine sat_cond rfl (fun hb => ?_) (fun hb => ?_)
      · repeat (first | refine wa ?_ | refine wb rfl ?_ | refine wc rfl rfl hM ?_ | refine wd rfl hM ?_ | ((first | refine we rfl fun K hK => ?_ | refine wf rfl rfl fun K hK => ?_ | refine wg rfl rfl fun K hK => ?_ | refine wh rfl fun K hK => ?_); (simp only [lo, ld, ↓aop, ↓aCall, hP, hG, Nat.reduceLT, ↓reduceIte, Nat.reduceEqDiff, Nat.reduceAdd, Nat.reduceMul, Nat.reduceLeDiff, reduceCtorEq, D.cs, D.plain, fillD, chop, List.replicate, tk_9, ze_9, sz_9, tk_24, ze_24, sz_24, tk_50, ze_50, sz_50, tk_23, ze_23, sz_23]; repeat (with_reducible refine And.intro ?_ ?_; focus (first | decide | omega | (simp only [ln]; omega)))); try ((first | refine hK _ _ ?_ | refine hK _ ?_); clear hK K; simp only [lp])) | ((first | refine wi ?_ | refine wj ?_ | refine wk ?_ | refine wl ?_ | refine wm ?_ | refine wn ?_); simp only [lt, ↓reduceIte, Nat.reduceEqDiff]) | refine wo ?_)
        refine Fin.gcle2 (.v (sels [])) (.v (.bool false)) hE (by decide) (by decide) (by decide) (D.le_nils 3) (D.le_refl _) (by simp only [D.lt]) (by simp only [D.lt]) ?_
        have e1 : selR x = none := by
          have : ((wordsL x).length == 3) = false := by simpa using h3
          simp only [selR, this, Bool.not_false, if_true]
        rw [e1] at hxs
        simp only [mapM_none _ hxs] at hK
        exact hK
      · exact absurd hb (by decide)
  · simp at hc
    have e : ls.take i = ls := List.take_of_length_le (by omega)
    rw [e] at hout
    have hlen : out.length = ls.length := mapM_len hout
    have hsz : ∀ x ∈ out, x.1.length ≤ 1099511627 ∧ x.2.2.length ≤ 1099511627 := mapM_all (fun x => x.1.length ≤ 1099511627 ∧ x.2.2.length ≤ 1099511627) hout (fun x hx y hy => by
      have h1 := selR_len hy
      have h2 := hll x hx
      omega)
    simp only [hout] at hK
    refine sat_ent (Ent.acs 4 [(6, .v (.bool ok)), (3, .v (.bool false)), (2, .nils), (0, .v (.str s))] hE hA rfl ?_ ?_) ?_
    · simp only [le, ↓reduceIte, Nat.reduceEqDiff, and_true]; repeat' (first | exact trivial | exact D.le_refl _ | exact D.le_any _ | with_reducible refine And.intro ?_ ?_)
    · simp [ltAll, ltObs, Ob.lt, D.lt, D.ltL, or_imp, forall_and]
    change Sat E _ (fr 61 [(4, .v (sels out)), (6, .v (.bool ok)), (3, .v (.bool false)), (2, .nils), (0, .v (.str s))]) _ _
    repeat (first | refine wa ?_ | refine wb rfl ?_ | refine wc rfl rfl hM ?_ | refine wd rfl hM ?_ | ((first | refine we rfl fun K hK => ?_ | refine wf rfl rfl fun K hK => ?_ | refine wg rfl rfl fun K hK => ?_ | refine wh rfl fun K hK => ?_); (simp only [lo, ld, ↓aop, ↓aCall, hP, hG, Nat.reduceLT, ↓reduceIte, Nat.reduceEqDiff, Nat.reduceAdd, Nat.reduceMul, Nat.reduceLeDiff, reduceCtorEq, D.cs, D.plain, fillD, chop, List.replicate, tk_9, ze_9, sz_9, tk_24, ze_24, sz_24, tk_50, ze_50, sz_50, tk_23, ze_23, sz_23]; repeat (with_reducible refine And.intro ?_ ?_; focus (first | decide | omega | (simp only [ln]; omega)))); try ((first | refine hK _ _ ?_ | refine hK _ ?_); clear hK K; simp only [lp])) | ((first | refine wi ?_ | refine wj ?_ | refine wk ?_ | refine wl ?_ | refine wm ?_ | refine wn ?_); simp only [lt, ↓reduceIte, Nat.reduceEqDiff]) | refine wo ?_)
    refine spec_rPrint out (by omega) hsz _ _ (hK _ _ ?_)
    clear hK K; simp only [lp]
    repeat (first | refine wa ?_ | refine wb rfl ?_ | refine wc rfl rfl hM ?_ | refine wd rfl hM ?_ | ((first | refine we rfl fun K hK => ?_ | refine wf rfl rfl fun K hK => ?_ | refine wg rfl rfl fun K hK => ?_ | refine wh rfl fun K hK => ?_); (simp only [lo, ld, ↓aop, ↓aCall, hP, hG, Nat.reduceLT, ↓reduceIte, Nat.reduceEqDiff, Nat.reduceAdd, Nat.reduceMul, Nat.reduceLeDiff, reduceCtorEq, D.cs, D.plain, fillD, chop, List.replicate, tk_9, ze_9, sz_9, tk_24, ze_24, sz_24, tk_50, ze_50, sz_50, tk_23, ze_23, sz_23]; repeat (with_reducible refine And.intro ?_ ?_; focus (first | decide | omega | (simp only [ln]; omega)))); try ((first | refine hK _ _ ?_ | refine hK _ ?_); clear hK K; simp only [lp])) | ((first | refine wi ?_ | refine wj ?_ | refine wk ?_ | refine wl ?_ | refine wm ?_ | refine wn ?_); simp only [lt, ↓reduceIte, Nat.reduceEqDiff]) | refine wo ?_)
    refine sat_thru (fr 61 [(59, .v (.bool (!ok || (printS selOk out).2 != 0 || (printS selOk out).1 != s))), (4, .v (sels out)), (3, .v (.bool false)), (2, .nils)]) E.H0 ?_ ?_
    · (first | refine wr ?_ | refine wp rfl hM ?_ | refine wq hM ?_); repeat' (first | ((first | refine wx ?_ | refine wy ?_ | refine wz ?_); (simp only [lo, ld, ↓aop, ↓aCall, hP, hG, Nat.reduceLT, ↓reduceIte, Nat.reduceEqDiff, Nat.reduceAdd, Nat.reduceMul, Nat.reduceLeDiff, reduceCtorEq, D.cs, D.plain, fillD, chop, List.replicate, tk_3, ze_3, sz_3, tk_9, ze_9, sz_9]; repeat (with_reducible refine And.intro ?_ ?_; focus (first | decide | omega | (simp only [ln]; omega)))); try ((first | refine hK _ _ ?_ | refine hK _ ?_); clear hK K; simp only [lp])) | refine we rfl fun K hK => ?_ | refine wf rfl rfl fun K hK => ?_ | refine wg rfl rfl fun K hK => ?_ | refine wh rfl fun K hK => ?_ | ((first | refine Xg rfl rfl (by decide) ?_ fun K hK => ?_ | refine Yg rfl rfl (by decide) ?_ fun K hK => ?_ | refine Zg rfl rfl rfl (by decide) ?_ fun K hK => ?_); (focus (simp only [look_cons, ↓reduceIte, Nat.reduceEqDiff, Bool.not_true, Bool.not_false]; done))) | ((first | refine Xn rfl rfl (by decide) ?_ ?_ | refine Yn rfl rfl (by decide) ?_ ?_ | refine Zn rfl rfl rfl (by decide) ?_ ?_); (focus (simp only [look_cons, ↓reduceIte, Nat.reduceEqDiff, Bool.not_true, Bool.not_false]; done)); simp only [lp]) | ((first | refine Xo rfl rfl (by decide) ?_ ?_ | refine Yo rfl rfl (by decide) ?_ ?_ | refine Zo rfl rfl rfl (by decide) ?_ ?_); (focus (simp only [look_cons, ↓reduceIte, Nat.reduceEqDiff, Bool.not_true, Bool.not_false]; done)); simp only [lp]) | ((first | refine Xs rfl rfl (by decide) rfl (fun h K hK => ?_) fun h => ?_ | refine Ys rfl rfl (by decide) rfl (fun h K hK => ?_) fun h => ?_ | refine Zs rfl rfl rfl (by decide) rfl (fun h K hK => ?_) fun h => ?_); rotate_left; (focus (simp only [Bool.not_true, Bool.not_false, lp])); rotate_left) | ((first | refine wi ?_ | refine wj ?_ | refine wk ?_); simp only [lt, ↓reduceIte, Nat.reduceEqDiff]))
      all_goals refine .weakFr ?_
      all_goals simp only [le, ↓reduceIte, Nat.reduceEqDiff, and_true]; repeat' (first | exact trivial | exact D.le_refl _ | exact D.le_any _ | with_reducible refine And.intro ?_ ?_)
      all_goals clear hK
      all_goals refine D.le_eq (congrArg D.v (congrArg V.bool ?_)); (try simp only [Bool.not_eq_eq_eq_not, Bool.not_true, Bool.not_false] at *); simp only [*, List.getD_eq_getElem?_getD, Bool.and_true, Bool.true_and, Bool.and_false, Bool.false_and, Bool.or_true, Bool.true_or, Bool.or_false, Bool.false_or, Bool.not_true, Bool.not_false, Bool.not_not, bne]
    refine sat_cond rfl (fun hb => ?_) (fun hb => ?_)
    · repeat (first | refine wa ?_ | refine wb rfl ?_ | refine wc rfl rfl hM ?_ | refine wd rfl hM ?_ | ((first | refine we rfl fun K hK => ?_ | refine wf rfl rfl fun K hK => ?_ | refine wg rfl rfl fun K hK => ?_ | refine wh rfl fun K hK => ?_); (simp only [lo, ld, ↓aop, ↓aCall, hP, hG, Nat.reduceLT, ↓reduceIte, Nat.reduceEqDiff, Nat.reduceAdd, Nat.reduceMul, Nat.reduceLeDiff, reduceCtorEq, D.cs, D.plain, fillD, chop, List.replicate, tk_9, ze_9, sz_9, tk_24, ze_24, sz_24, tk_50, ze_50, sz_50, tk_23, ze_23, sz_23]; repeat (with_reducible refine And.intro ?_ ?_; focus (first | decide | omega | (simp only [ln]; omega)))); try ((first | refine hK _ _ ?_ | refine hK _ ?_); clear hK K; simp only [lp])) | ((first | refine wi ?_ | refine wj ?_ | refine wk ?_ | refine wl ?_ | refine wm ?_ | refine wn ?_); simp only [lt, ↓reduceIte, Nat.reduceEqDiff]) | refine wo ?_)
      refine Fin.le2 (.v (sels [])) (.v (.bool false)) (by decide) (by decide) (by decide) (D.le_nils 3) (D.le_refl _) ?_
      rw [if_pos hb] at hK
      exact hK
    · repeat (first | refine wa ?_ | refine wb rfl ?_ | refine wc rfl rfl hM ?_ | refine wd rfl hM ?_ | ((first | refine we rfl fun K hK => ?_ | refine wf rfl rfl fun K hK => ?_ | refine wg rfl rfl fun K hK => ?_ | refine wh rfl fun K hK => ?_); (simp only [lo, ld, ↓aop, ↓aCall, hP, hG, Nat.reduceLT, ↓reduceIte, Nat.reduceEqDiff, Nat.reduceAdd, Nat.reduceMul, Nat.reduceLeDiff, reduceCtorEq, D.cs, D.plain, fillD, chop, List.replicate, tk_9, ze_9, sz_9, tk_24, ze_24, sz_24, tk_50, ze_50, sz_50, tk_23, ze_23, sz_23]; repeat (with_reducible refine And.intro ?_ ?_; focus (first | decide | omega | (simp only [ln]; omega)))); try ((first | refine hK _ _ ?_ | refine hK _ ?_); clear hK K; simp only [lp])) | ((first | refine wi ?_ | refine wj ?_ | refine wk ?_ | refine wl ?_ | refine wm ?_ | refine wn ?_); simp only [lt, ↓reduceIte, Nat.reduceEqDiff]) | refine wo ?_)
      refine Fin.is2 _ _ (by decide) (by decide) rfl rfl ?_
      rw [if_neg (by rw [hb]; decide)] at hK
      exact hK
end Go.Ag
