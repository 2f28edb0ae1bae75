import Derived.Test.YtgnojlbihhnphaaGreatDoorAgPd
import Derived.Lib.Overlaps
set_option linter.all false
namespace Go.Ag
open Go Go.Proofs
variable {G : Nat → Option (List V)}
attribute [local irreducible] aops qops Sat aop

set_option maxHeartbeats 4000000 in
theorem spec_IndexFuncO (l : List Alt) (b ver : Nat) (f : FuncId) (caps : List D) (q : Alt → Bool) (hl : l.length ≤ 1099511627776) (H : List Ob) (hb : H[b]? = some (.arr ver 6 (rowsA l) 0))
    (hq : ∀ c ∈ l, ∀ (K : D → List Ob → Prop), K (.v (.bool (q c))) H → ACalls Tryz.prog G f (altd c :: caps) H K)
    (K : D → List Ob → Prop) (hK : K (.v (.int .i64 (idxA l q))) H) : ACalls Tryz.prog G 30 [.own b ver l.length, .fn f caps] H K := by
  refine ACalls.go Tryz.f30 _ 19 [4] Tryz.func30 rfl Tryz.ntmps30 (by kernel_rfl) rfl (by simp) (fun E hE hP hG hH => ?_)
  have hM : E.P.follows .mixedOrders = true := hP ▸ mixed
  subst hH
  simp only [args0]
  repeat (first | refine wa ?_ | refine wb rfl ?_ | refine wc rfl rfl hM ?_ | refine wd rfl hM ?_ | ((first | refine we rfl fun K hK => ?_ | refine wf rfl rfl fun K hK => ?_ | refine wg rfl rfl fun K hK => ?_ | refine wh rfl fun K hK => ?_); (simp only [lo, ld, ↓aop, ↓aCall, hP, hG, Nat.reduceLT, ↓reduceIte, Nat.reduceEqDiff, Nat.reduceAdd, Nat.reduceMul, Nat.reduceLeDiff, reduceCtorEq, D.cs, D.plain, fillD, chop, List.replicate, tk_3, ze_3, sz_3, tk_9, ze_9, sz_9, tk_22, ze_22, sz_22, tk_26, ze_26, sz_26, kn_26, hb]; repeat (with_reducible refine And.intro ?_ ?_; focus (first | decide | omega | (simp only [ln]; omega)))); try ((first | refine hK _ _ ?_ | refine hK _ ?_); clear hK K; simp only [lp])) | ((first | refine wi ?_ | refine wj ?_ | refine wk ?_ | refine wl ?_ | refine wm ?_ | refine wn ?_); simp only [lt, ↓reduceIte, Nat.reduceEqDiff]) | refine wo ?_)
  refine sat_loop_ent (fun n ts H => ∃ (i : Nat), n = l.length - i ∧ i ≤ l.length ∧ (l.take i).any q = false ∧
    ts = fr 19 [(8, .v (.int .i64 i)), (7, .v (.int .i64 l.length)), (1, .fn f caps), (0, .own b ver l.length)] ∧ H = E.H0) (l.length) (.weakFr ?_) ⟨0, rfl, Nat.zero_le _, rfl, rfl, rfl⟩ ?_
  · simp only [le, ↓reduceIte, Nat.reduceEqDiff, and_true]; repeat' (first | exact trivial | exact D.le_refl _ | exact D.le_any _ | with_reducible refine And.intro ?_ ?_)
  rintro n ts H ⟨i, rfl, hi, hall, rfl, rfl⟩
  repeat (first | refine wa ?_ | refine wb rfl ?_ | refine wc rfl rfl hM ?_ | refine wd rfl hM ?_ | ((first | refine we rfl fun K hK => ?_ | refine wf rfl rfl fun K hK => ?_ | refine wg rfl rfl fun K hK => ?_ | refine wh rfl fun K hK => ?_); (simp only [lo, ld, ↓aop, ↓aCall, hP, hG, Nat.reduceLT, ↓reduceIte, Nat.reduceEqDiff, Nat.reduceAdd, Nat.reduceMul, Nat.reduceLeDiff, reduceCtorEq, D.cs, D.plain, fillD, chop, List.replicate, tk_3, ze_3, sz_3, tk_9, ze_9, sz_9, tk_22, ze_22, sz_22, tk_26, ze_26, sz_26, kn_26, hb]; repeat (with_reducible refine And.intro ?_ ?_; focus (first | decide | omega | (simp only [ln]; omega)))); try ((first | refine hK _ _ ?_ | refine hK _ ?_); clear hK K; simp only [lp])) | ((first | refine wi ?_ | refine wj ?_ | refine wk ?_ | refine wl ?_ | refine wm ?_ | refine wn ?_); simp only [lt, ↓reduceIte, Nat.reduceEqDiff]) | refine wo ?_)
  refine sat_cond rfl (fun hc => ?_) (fun hc => ?_)
  · simp at hc
    obtain ⟨x, hx⟩ : ∃ x, l[i]? = some x := ⟨_, List.getElem?_eq_getElem hc⟩
    have hw := wrap_succ (i := i) (by omega)
    have hr : (rowsA l)[i]? = some ((altV x).map .v) := by simp [rowsA, hx]
    repeat (first | refine wa ?_ | refine wb rfl ?_ | refine wc rfl rfl hM ?_ | refine wd rfl hM ?_ | ((first | refine we rfl fun K hK => ?_ | refine wf rfl rfl fun K hK => ?_ | refine wg rfl rfl fun K hK => ?_ | refine wh rfl fun K hK => ?_); (simp only [lo, ld, ↓aop, ↓aCall, hP, hG, Nat.reduceLT, ↓reduceIte, Nat.reduceEqDiff, Nat.reduceAdd, Nat.reduceMul, Nat.reduceLeDiff, reduceCtorEq, D.cs, D.plain, fillD, chop, List.replicate, altV, tk_3, ze_3, sz_3, tk_9, ze_9, sz_9, tk_22, ze_22, sz_22, tk_26, ze_26, sz_26, kn_26, hb, hc, hr]; repeat (with_reducible refine And.intro ?_ ?_; focus (first | decide | omega | (simp only [ln]; omega)))); try ((first | refine hK _ _ ?_ | refine hK _ ?_); clear hK K; simp only [lp])) | ((first | refine wi ?_ | refine wj ?_ | refine wk ?_ | refine wl ?_ | refine wm ?_ | refine wn ?_); simp only [lt, ↓reduceIte, Nat.reduceEqDiff]) | refine wo ?_)
    refine hq x (List.mem_of_getElem? hx) _ (hK _ _ ?_)
    clear hK K; simp only [lp]
    repeat (first | refine wa ?_ | refine wb rfl ?_ | refine wc rfl rfl hM ?_ | refine wd rfl hM ?_ | ((first | refine we rfl fun K hK => ?_ | refine wf rfl rfl fun K hK => ?_ | refine wg rfl rfl fun K hK => ?_ | refine wh rfl fun K hK => ?_); (simp only [lo, ld, ↓aop, ↓aCall, hP, hG, Nat.reduceLT, ↓reduceIte, Nat.reduceEqDiff, Nat.reduceAdd, Nat.reduceMul, Nat.reduceLeDiff, reduceCtorEq, D.cs, D.plain, fillD, chop, List.replicate]; repeat (with_reducible refine And.intro ?_ ?_; focus (first | decide | omega | (simp only [ln]; omega)))); try ((first | refine hK _ _ ?_ | refine hK _ ?_); clear hK K; simp only [lp])) | ((first | refine wi ?_ | refine wj ?_ | refine wk ?_ | refine wl ?_ | refine wm ?_ | refine wn ?_); simp only [lt, ↓reduceIte, Nat.reduceEqDiff]) | refine wo ?_)
    refine sat_cond rfl (fun hb => ?_) (fun hb => ?_)
    · repeat (first | refine wa ?_ | refine wb rfl ?_ | refine wc rfl rfl hM ?_ | refine wd rfl hM ?_ | ((first | refine we rfl fun K hK => ?_ | refine wf rfl rfl fun K hK => ?_ | refine wg rfl rfl fun K hK => ?_ | refine wh rfl fun K hK => ?_); (simp only [lo, ld, ↓aop, ↓aCall, hP, hG, Nat.reduceLT, ↓reduceIte, Nat.reduceEqDiff, Nat.reduceAdd, Nat.reduceMul, Nat.reduceLeDiff, reduceCtorEq, D.cs, D.plain, fillD, chop, List.replicate]; repeat (with_reducible refine And.intro ?_ ?_; focus (first | decide | omega | (simp only [ln]; omega)))); try ((first | refine hK _ _ ?_ | refine hK _ ?_); clear hK K; simp only [lp])) | ((first | refine wi ?_ | refine wj ?_ | refine wk ?_ | refine wl ?_ | refine wm ?_ | refine wn ?_); simp only [lt, ↓reduceIte, Nat.reduceEqDiff]) | refine wo ?_)
      refine Fin.is (.v (.int .i64 i)) (by decide) rfl ?_
      rwa [idxA, findIdx_hit hx hb hall] at hK
    · repeat (first | refine wa ?_ | refine wb rfl ?_ | refine wc rfl rfl hM ?_ | refine wd rfl hM ?_ | ((first | refine we rfl fun K hK => ?_ | refine wf rfl rfl fun K hK => ?_ | refine wg rfl rfl fun K hK => ?_ | refine wh rfl fun K hK => ?_); (simp only [lo, ld, ↓aop, ↓aCall, hP, hG, Nat.reduceLT, ↓reduceIte, Nat.reduceEqDiff, Nat.reduceAdd, Nat.reduceMul, Nat.reduceLeDiff, reduceCtorEq, D.cs, D.plain, fillD, chop, List.replicate, hw]; repeat (with_reducible refine And.intro ?_ ?_; focus (first | decide | omega | (simp only [ln]; omega)))); try ((first | refine hK _ _ ?_ | refine hK _ ?_); clear hK K; simp only [lp])) | ((first | refine wi ?_ | refine wj ?_ | refine wk ?_ | refine wl ?_ | refine wm ?_ | refine wn ?_); simp only [lt, ↓reduceIte, Nat.reduceEqDiff]) | refine wo ?_)
      refine ⟨l.length - (i + 1), _, _, by omega, .weakFr ?_, i + 1, rfl, by omega, ?_, rfl, rfl⟩
      · simp only [le, ↓reduceIte, Nat.reduceEqDiff, and_true]; repeat' (first | exact trivial | exact D.le_refl _ | exact D.le_any _ | with_reducible refine And.intro ?_ ?_)
      · rw [take_snoc hx, List.any_append, hall]; simp [hb]
  · simp at hc
    have e : l.take i = l := List.take_of_length_le (by omega)
    rw [e] at hall
    repeat (first | refine wa ?_ | refine wb rfl ?_ | refine wc rfl rfl hM ?_ | refine wd rfl hM ?_ | ((first | refine we rfl fun K hK => ?_ | refine wf rfl rfl fun K hK => ?_ | refine wg rfl rfl fun K hK => ?_ | refine wh rfl fun K hK => ?_); (simp only [lo, ld, ↓aop, ↓aCall, hP, hG, Nat.reduceLT, ↓reduceIte, Nat.reduceEqDiff, Nat.reduceAdd, Nat.reduceMul, Nat.reduceLeDiff, reduceCtorEq, D.cs, D.plain, fillD, chop, List.replicate]; repeat (with_reducible refine And.intro ?_ ?_; focus (first | decide | omega | (simp only [ln]; omega)))); try ((first | refine hK _ _ ?_ | refine hK _ ?_); clear hK K; simp only [lp])) | ((first | refine wi ?_ | refine wj ?_ | refine wk ?_ | refine wl ?_ | refine wm ?_ | refine wn ?_); simp only [lt, ↓reduceIte, Nat.reduceEqDiff]) | refine wo ?_)
    refine Fin.is (.v (.int .i64 (-1))) (by decide) rfl ?_
    rwa [idxA, findIdx_miss hall] at hK

end Go.Ag
namespace Go.Ag
open Go Go.Proofs
variable {G : Nat → Option (List V)}
attribute [local irreducible] aops qops Sat aop

theorem rowsA_set (l : List Alt) (i : Nat) (x : Alt) : (rowsA l).set i ((altV x).map .v) = rowsA (l.set i x) := by simp [rowsA, List.map_set]
theorem rowsA_lt (n v : Nat) (l : List Alt) : Ob.lt n (.arr v 6 (rowsA l) 0) := by
  rw [rowsA_v]; exact ltRows n _
/-- Garbage goes, where an object of the caller's was changed. -/
theorem Ent.gcSet {E : Env} {n b : Nat} {l l' : List (Nat × D)} {o : Ob} (G : List Ob) (hE : E.Closed) (ho : o.lt E.H0.length) (h1 : leAll l l') (h2 : ltAll E.H0.length l') : Ent E (fr n l) (E.H0.set b o ++ G) (fr n l') (E.H0.set b o) := by
  refine (Ent.weakFr h1).trans ?_
  have h := Ent.gc (E := E) (ts := fr n l') (H := E.H0.set b o ++ G) E.H0.length hE (Nat.le_refl _) (ltL_fr h2) (fun i o' hi ho' => by
    rw [List.getElem?_append_left (by simpa using hi)] at ho'
    by_cases e : b = i
    · subst e
      rw [List.getElem?_set_self hi] at ho'; cases ho'
      exact .inr ho
    · rw [List.getElem?_set_ne e] at ho'
      exact .inl ho')
  have e : (E.H0.set b o ++ G).take E.H0.length = E.H0.set b o := by
    rw [List.take_append_of_le_length (by simp)]
    exact List.take_of_length_le (by simp)
  rwa [e] at h
theorem idx_split {l : List Alt} {q : Alt → Bool} {i : Nat} (h : l.findIdx? q = some i) : i < l.length ∧ l.take i = (l.take (i + 1)).filter (fun x => !q x) := by
  rw [List.findIdx?_eq_some_iff_getElem] at h
  obtain ⟨hi, hq, hno⟩ := h
  refine ⟨hi, ?_⟩
  rw [List.take_succ_eq_append_getElem hi, List.filter_append]
  have e1 : (l.take i).filter (fun x => !q x) = l.take i := by
    rw [List.filter_eq_self]
    intro x hx
    obtain ⟨j, hj, rfl⟩ := List.getElem_of_mem hx
    rw [List.getElem_take]
    have := hno j (by simp at hj; omega)
    simpa using this
  rw [e1]; simp [hq]
set_option maxRecDepth 20000 in
set_option maxHeartbeats 16000000 in
theorem spec_DeleteFunc (l : List Alt) (b ver : Nat) (f : FuncId) (caps : List D) (q : Alt → Bool) (hl : l.length ≤ 1099511627) (H : List Ob) (hb : H[b]? = some (.arr ver 6 (rowsA l) 0))
    (hq : ∀ c ∈ l, ∀ (H' : List Ob) (K : D → List Ob → Prop), (∀ j, j < H.length → j ≠ b → H'[j]? = H[j]?) → K (.v (.bool (q c))) H' → ACalls Tryz.prog G f (altd c :: caps) H' K)
    (hcaps : D.ltL H.length caps) (K : D → List Ob → Prop) (hK : ∀ H', H'.length = H.length → (∀ j, j ≠ b → H'[j]? = H[j]?) → K (.v (altsV (l.filter fun x => !q x))) H') : ACalls Tryz.prog G 33 [.own b ver l.length, .fn f caps] H K := by
  have hlt := (List.getElem?_eq_some_iff.1 hb).1
  refine ACalls.go Tryz.f33 _ 42 [4] Tryz.func33 rfl Tryz.ntmps33 (by kernel_rfl) rfl (by simp) (fun E hE hP hG hH => ?_)
  have hM : E.P.follows .mixedOrders = true := hP ▸ mixed
  subst hH
  simp only [args0]
  repeat (first | refine wa ?_ | refine wb rfl ?_ | refine wc rfl rfl hM ?_ | refine wd rfl hM ?_ | ((first | refine we rfl fun K hK => ?_ | refine wf rfl rfl fun K hK => ?_ | refine wg rfl rfl fun K hK => ?_ | refine wh rfl fun K hK => ?_); (simp only [lo, ld, ↓aop, ↓aCall, hP, hG, Nat.reduceLT, ↓reduceIte, Nat.reduceEqDiff, Nat.reduceAdd, Nat.reduceMul, Nat.reduceLeDiff, reduceCtorEq, D.cs, D.plain, fillD, chop, List.replicate, tk_3, ze_3, sz_3, tk_9, ze_9, sz_9, tk_22, ze_22, sz_22, tk_26, ze_26, sz_26, kn_26]; repeat (with_reducible refine And.intro ?_ ?_; focus (first | decide | omega | (simp only [ln]; omega)))); try ((first | refine hK _ _ ?_ | refine hK _ ?_); clear hK K; simp only [lp])) | ((first | refine wi ?_ | refine wj ?_ | refine wk ?_ | refine wl ?_ | refine wm ?_ | refine wn ?_); simp only [lt, ↓reduceIte, Nat.reduceEqDiff]) | refine wo ?_)
  refine spec_IndexFuncO l b ver f caps q (by omega) _ hb (fun c hc K hK => hq c hc _ _ (fun j _ _ => rfl) hK) _ (hK _ _ ?_)
  clear hK K; simp only [lp]
  repeat (first | refine wa ?_ | refine wb rfl ?_ | refine wc rfl rfl hM ?_ | refine wd rfl hM ?_ | ((first | refine we rfl fun K hK => ?_ | refine wf rfl rfl fun K hK => ?_ | refine wg rfl rfl fun K hK => ?_ | refine wh rfl fun K hK => ?_); (simp only [lo, ld, ↓aop, ↓aCall, hP, hG, Nat.reduceLT, ↓reduceIte, Nat.reduceEqDiff, Nat.reduceAdd, Nat.reduceMul, Nat.reduceLeDiff, reduceCtorEq, D.cs, D.plain, fillD, chop, List.replicate, tk_3, ze_3, sz_3, tk_9, ze_9, sz_9, tk_22, ze_22, sz_22, tk_26, ze_26, sz_26, kn_26]; repeat (with_reducible refine And.intro ?_ ?_; focus (first | decide | omega | (simp only [ln]; omega)))); try ((first | refine hK _ _ ?_ | refine hK _ ?_); clear hK K; simp only [lp])) | ((first | refine wi ?_ | refine wj ?_ | refine wk ?_ | refine wl ?_ | refine wm ?_ | refine wn ?_); simp only [lt, ↓reduceIte, Nat.reduceEqDiff]) | refine wo ?_)
  cases hx : l.findIdx? q with
  | none =>
    have e0 : idxA l q = -1 := by simp [idxA, hx]
    have e1 : l.filter (fun x => !q x) = l := by
      rw [List.filter_eq_self]
      intro x hxl
      have := List.findIdx?_eq_none_iff.1 hx x hxl
      simpa using this
    rw [e0]
    refine sat_cond rfl (fun hc => ?_) (fun hc => ?_)
    · repeat (first | refine wa ?_ | refine wb rfl ?_ | refine wc rfl rfl hM ?_ | refine wd rfl hM ?_ | ((first | refine we rfl fun K hK => ?_ | refine wf rfl rfl fun K hK => ?_ | refine wg rfl rfl fun K hK => ?_ | refine wh rfl fun K hK => ?_); (simp only [lo, ld, ↓aop, ↓aCall, hP, hG, Nat.reduceLT, ↓reduceIte, Nat.reduceEqDiff, Nat.reduceAdd, Nat.reduceMul, Nat.reduceLeDiff, reduceCtorEq, D.cs, D.plain, fillD, chop, List.replicate]; repeat (with_reducible refine And.intro ?_ ?_; focus (first | decide | omega | (simp only [ln]; omega)))); try ((first | refine hK _ _ ?_ | refine hK _ ?_); clear hK K; simp only [lp])) | ((first | refine wi ?_ | refine wj ?_ | refine wk ?_ | refine wl ?_ | refine wm ?_ | refine wn ?_); simp only [lt, ↓reduceIte, Nat.reduceEqDiff]) | refine wo ?_)
      rw [e1] at hK
      exact Fin.pubAt b ver 6 l.length (l.map altV) (by decide) rfl hb (by rw [← rowsA_v, List.take_of_length_le (by rw [rowsA_len]; exact Nat.le_refl _)]) (by simp) hK
    · exact absurd hc (by decide)
  | some i0 =>
    have e0 : idxA l q = i0 := by simp [idxA, hx]
    obtain ⟨hi0, hsp⟩ := idx_split hx
    rw [e0]
    refine sat_cond rfl (fun hc => ?_) (fun hc => ?_)
    · simp at hc
    have hw := wrap_succ (i := i0) (by omega)
    repeat (first | refine wa ?_ | refine wb rfl ?_ | refine wc rfl rfl hM ?_ | refine wd rfl hM ?_ | ((first | refine we rfl fun K hK => ?_ | refine wf rfl rfl fun K hK => ?_ | refine wg rfl rfl fun K hK => ?_ | refine wh rfl fun K hK => ?_); (simp only [lo, ld, ↓aop, ↓aCall, hP, hG, Nat.reduceLT, ↓reduceIte, Nat.reduceEqDiff, Nat.reduceAdd, Nat.reduceMul, Nat.reduceLeDiff, reduceCtorEq, D.cs, D.plain, fillD, chop, List.replicate, tk_3, ze_3, sz_3, hw]; repeat (with_reducible refine And.intro ?_ ?_; focus (first | decide | omega | (simp only [ln]; omega)))); try ((first | refine hK _ _ ?_ | refine hK _ ?_); clear hK K; simp only [lp])) | ((first | refine wi ?_ | refine wj ?_ | refine wk ?_ | refine wl ?_ | refine wm ?_ | refine wn ?_); simp only [lt, ↓reduceIte, Nat.reduceEqDiff]) | refine wo ?_)
    refine sat_loop_ent (fun n ts H => ∃ (i j : Nat) (xs : List Alt), n = l.length - j ∧ j ≤ l.length ∧ i < j ∧ xs.length = l.length ∧ xs.take i = (l.take j).filter (fun x => !q x) ∧ xs.drop j = l.drop j ∧
      ts = fr 42 [(6, .v (.int .i64 j)), (5, .v (.int .i64 i)), (1, .fn f caps), (0, .own b ver l.length)] ∧ H = E.H0.set b (.arr ver 6 (rowsA xs) 0)) (l.length - (i0 + 1)) (ts0 := fr 42 [(6, .v (.int .i64 (i0 + 1 : Nat))), (5, .v (.int .i64 i0)), (1, .fn f caps), (0, .own b ver l.length)]) (H0 := E.H0) (.weakFr ?_) ⟨i0, i0 + 1, l, rfl, by omega, by omega, rfl, hsp, rfl, rfl, (set_same hb).symm⟩ ?_
    · simp only [le, ↓reduceIte, Nat.reduceEqDiff, and_true]; repeat' (first | exact trivial | exact D.le_refl _ | exact D.le_any _ | with_reducible refine And.intro ?_ ?_)
    rintro n ts H ⟨i, j, xs, rfl, hj, hij, hxl, hxt, hxd, rfl, hHH⟩
    have hl1 : H.length = E.H0.length := by rw [hHH]; simp
    have hb1 : H[b]? = some (.arr ver 6 (rowsA xs) 0) := by rw [hHH]; exact List.getElem?_set_self hlt
    have hoth : ∀ k, k ≠ b → H[k]? = E.H0[k]? := fun k hk => by rw [hHH, List.getElem?_set_ne (fun e => hk e.symm)]
    have hbA : ∀ L, (H ++ L)[b]? = some (.arr ver 6 (rowsA xs) 0) := fun L => by rw [List.getElem?_append_left (by omega)]; exact hb1
    have hbS : ∀ L o, (H ++ L).set b o = H.set b o ++ L := fun L o => List.set_append_left _ _ (by omega)
    repeat (first | refine wa ?_ | refine wb rfl ?_ | refine wc rfl rfl hM ?_ | refine wd rfl hM ?_ | ((first | refine we rfl fun K hK => ?_ | refine wf rfl rfl fun K hK => ?_ | refine wg rfl rfl fun K hK => ?_ | refine wh rfl fun K hK => ?_); (simp only [lo, ld, ↓aop, ↓aCall, hP, hG, Nat.reduceLT, ↓reduceIte, Nat.reduceEqDiff, Nat.reduceAdd, Nat.reduceMul, Nat.reduceLeDiff, reduceCtorEq, D.cs, D.plain, fillD, chop, List.replicate, tk_3, ze_3, sz_3, tk_22, ze_22, sz_22, hb1]; repeat (with_reducible refine And.intro ?_ ?_; focus (first | decide | omega | (simp only [ln]; omega)))); try ((first | refine hK _ _ ?_ | refine hK _ ?_); clear hK K; simp only [lp])) | ((first | refine wi ?_ | refine wj ?_ | refine wk ?_ | refine wl ?_ | refine wm ?_ | refine wn ?_); simp only [lt, ↓reduceIte, Nat.reduceEqDiff]) | refine wo ?_)
    refine sat_cond rfl (fun hd => ?_) (fun hd => ?_)
    · simp at hd
      obtain ⟨x, hxj⟩ : ∃ x, l[j]? = some x := ⟨_, List.getElem?_eq_getElem hd⟩
      have hxx : xs[j]? = some x := by
        have := congrArg (fun l => l[0]?) hxd
        simpa [List.getElem?_drop, hxj] using this
      have hr : (rowsA xs)[j]? = some ((altV x).map .v) := by simp [rowsA, hxx]
      have hwj := wrap_succ (i := j) (by omega)
      have hwi := wrap_succ (i := i) (by omega)
      repeat (first | refine wa ?_ | refine wb rfl ?_ | refine wc rfl rfl hM ?_ | refine wd rfl hM ?_ | ((first | refine we rfl fun K hK => ?_ | refine wf rfl rfl fun K hK => ?_ | refine wg rfl rfl fun K hK => ?_ | refine wh rfl fun K hK => ?_); (simp only [lo, ld, ↓aop, ↓aCall, hP, hG, Nat.reduceLT, ↓reduceIte, Nat.reduceEqDiff, Nat.reduceAdd, Nat.reduceMul, Nat.reduceLeDiff, reduceCtorEq, D.cs, D.plain, fillD, chop, List.replicate, altV, tk_3, ze_3, sz_3, tk_9, ze_9, sz_9, tk_22, ze_22, sz_22, tk_26, ze_26, sz_26, kn_26, hb1, hbA, hd, hr]; repeat (with_reducible refine And.intro ?_ ?_; focus (first | decide | omega | (simp only [ln]; omega)))); try ((first | refine hK _ _ ?_ | refine hK _ ?_); clear hK K; simp only [lp])) | ((first | refine wi ?_ | refine wj ?_ | refine wk ?_ | refine wl ?_ | refine wm ?_ | refine wn ?_); simp only [lt, ↓reduceIte, Nat.reduceEqDiff]) | refine wo ?_)
      refine hq x (List.mem_of_getElem? hxj) _ _ (fun k hk hkb => by rw [List.getElem?_append_left (by omega)]; exact hoth k hkb) (hK _ _ ?_)
      clear hK K; simp only [lp]
      repeat (first | refine wa ?_ | refine wb rfl ?_ | refine wc rfl rfl hM ?_ | refine wd rfl hM ?_ | ((first | refine we rfl fun K hK => ?_ | refine wf rfl rfl fun K hK => ?_ | refine wg rfl rfl fun K hK => ?_ | refine wh rfl fun K hK => ?_); (simp only [lo, ld, ↓aop, ↓aCall, hP, hG, Nat.reduceLT, ↓reduceIte, Nat.reduceEqDiff, Nat.reduceAdd, Nat.reduceMul, Nat.reduceLeDiff, reduceCtorEq, D.cs, D.plain, fillD, chop, List.replicate]; repeat (with_reducible refine And.intro ?_ ?_; focus (first | decide | omega | (simp only [ln]; omega)))); try ((first | refine hK _ _ ?_ | refine hK _ ?_); clear hK K; simp only [lp])) | ((first | refine wi ?_ | refine wj ?_ | refine wk ?_ | refine wl ?_ | refine wm ?_ | refine wn ?_); simp only [lt, ↓reduceIte, Nat.reduceEqDiff]) | refine wo ?_)
      have et : l.take (j + 1) = l.take j ++ [x] := take_snoc hxj
      refine sat_cond rfl (fun hb' => ?_) (fun hb' => ?_)
      · obtain ⟨y, hy⟩ : ∃ y, xs[i]? = some y := ⟨_, List.getElem?_eq_getElem (by omega)⟩
        have hil : i < l.length := by omega
        have hri : (rowsA xs)[i]? = some ((altV y).map .v) := by simp [rowsA, hy]
        repeat (first | refine wa ?_ | refine wb rfl ?_ | refine wc rfl rfl hM ?_ | refine wd rfl hM ?_ | ((first | refine we rfl fun K hK => ?_ | refine wf rfl rfl fun K hK => ?_ | refine wg rfl rfl fun K hK => ?_ | refine wh rfl fun K hK => ?_); (simp only [lo, ld, ↓aop, ↓aCall, hP, hG, Nat.reduceLT, ↓reduceIte, Nat.reduceEqDiff, Nat.reduceAdd, Nat.reduceMul, Nat.reduceLeDiff, reduceCtorEq, D.cs, D.plain, fillD, chop, List.replicate, altV, tk_3, ze_3, sz_3, tk_9, ze_9, sz_9, tk_22, ze_22, sz_22, tk_26, ze_26, sz_26, kn_26, hbA, hil, hri, hbS, hwi, hwj]; repeat (with_reducible refine And.intro ?_ ?_; focus (first | decide | omega | (simp only [ln]; omega)))); try ((first | refine hK _ _ ?_ | refine hK _ ?_); clear hK K; simp only [lp])) | ((first | refine wi ?_ | refine wj ?_ | refine wk ?_ | refine wl ?_ | refine wm ?_ | refine wn ?_); simp only [lt, ↓reduceIte, Nat.reduceEqDiff]) | refine wo ?_)
        refine ⟨l.length - (j + 1), _, _, by omega, ?_, i + 1, j + 1, xs.set i x, rfl, by omega, by omega, by simp [hxl], ?_, ?_, rfl, rfl⟩
        · have e1 : (rowsA xs).set i [D.v (.str x.name), .v (.str x.link), .v (.bool x.manual), .v (.str x.cur), .v (slvs x.slaves), .v (chos x.choices)] = rowsA (xs.set i x) := rowsA_set xs i x
          rw [e1, hHH, List.set_set]
          refine Ent.gcSet _ hE (rowsA_lt _ _ _) ?_ ?_
          · simp only [le, ↓reduceIte, Nat.reduceEqDiff, and_true]; repeat' (first | exact trivial | exact D.le_refl _ | exact D.le_any _ | with_reducible refine And.intro ?_ ?_)
          · exact ⟨by simp only [D.lt], by simp only [D.lt], by simp only [D.lt]; exact hcaps, by simp only [D.lt]; exact hlt, trivial⟩
        · have e2 : (xs.set i x).take (i + 1) = xs.take i ++ [x] := by
            apply List.ext_getElem?
            intro k
            rw [List.getElem?_take]
            by_cases hk : k < i
            · rw [if_pos (by omega), List.getElem?_set_ne (by omega), List.getElem?_append_left (by simp; omega), List.getElem?_take_of_lt hk]
            · rw [List.getElem?_append_right (by simp; omega)]
              by_cases hk2 : k = i
              · subst hk2
                rw [if_pos (by omega), List.getElem?_set_self (by omega)]
                have : k - (xs.take k).length = 0 := by simp; omega
                rw [this]; rfl
              · rw [if_neg (by omega)]
                rw [List.getElem?_eq_none]
                simp; omega
          rw [e2, hxt, et, List.filter_append]
          simp [hb']
        · rw [List.drop_set_of_lt (by omega)]
          have := congrArg (List.drop 1) hxd
          simpa [List.drop_drop, Nat.add_comm] using this
      · repeat (first | refine wa ?_ | refine wb rfl ?_ | refine wc rfl rfl hM ?_ | refine wd rfl hM ?_ | ((first | refine we rfl fun K hK => ?_ | refine wf rfl rfl fun K hK => ?_ | refine wg rfl rfl fun K hK => ?_ | refine wh rfl fun K hK => ?_); (simp only [lo, ld, ↓aop, ↓aCall, hP, hG, Nat.reduceLT, ↓reduceIte, Nat.reduceEqDiff, Nat.reduceAdd, Nat.reduceMul, Nat.reduceLeDiff, reduceCtorEq, D.cs, D.plain, fillD, chop, List.replicate, tk_3, ze_3, sz_3, tk_22, ze_22, sz_22, tk_26, ze_26, sz_26, kn_26, hwj]; repeat (with_reducible refine And.intro ?_ ?_; focus (first | decide | omega | (simp only [ln]; omega)))); try ((first | refine hK _ _ ?_ | refine hK _ ?_); clear hK K; simp only [lp])) | ((first | refine wi ?_ | refine wj ?_ | refine wk ?_ | refine wl ?_ | refine wm ?_ | refine wn ?_); simp only [lt, ↓reduceIte, Nat.reduceEqDiff]) | refine wo ?_)
        refine ⟨l.length - (j + 1), _, _, by omega, ?_, i, j + 1, xs, rfl, by omega, by omega, hxl, ?_, ?_, rfl, hHH⟩
        · rw [hHH]
          refine Ent.gcSet _ hE (rowsA_lt _ _ _) ?_ ?_
          · simp only [le, ↓reduceIte, Nat.reduceEqDiff, and_true]; repeat' (first | exact trivial | exact D.le_refl _ | exact D.le_any _ | with_reducible refine And.intro ?_ ?_)
          · exact ⟨by simp only [D.lt], by simp only [D.lt], by simp only [D.lt]; exact hcaps, by simp only [D.lt]; exact hlt, trivial⟩
        · rw [et, List.filter_append, hxt]
          simp at hb'
          simp [hb']
        · have := congrArg (List.drop 1) hxd
          simpa [List.drop_drop, Nat.add_comm] using this
    simp at hd
    obtain rfl : j = l.length := by omega
    rw [List.take_length] at hxt
    have hlen : i = (l.filter fun x => !q x).length := by rw [← hxt]; simp; omega
    have hdone : ∀ (xs' : List (List D)), xs'.take i = ((l.filter fun x => !q x).map altV).map (·.map .v) → ∀ ts, look ts 4 = .own b ver i → Fin E (fr 42 ts) (H.set b (.arr ver 6 xs' 0)) [4] K := fun xs' hx' ts hts => by
      refine Fin.pubAt b ver 6 i ((l.filter fun x => !q x).map altV) (by decide) hts (List.getElem?_set_self (by omega)) hx' (by rw [List.length_map, ← hlen]) (fun H' h1 h2 => hK H' (by rw [h1]; simp [hl1]) (fun k hk => by rw [h2 k hk, List.getElem?_set_ne (fun e => hk e.symm)]; exact hoth k hk))
    have hrt : (rowsA xs).take i = ((l.filter fun x => !q x).map altV).map (·.map .v) := by
      rw [← hxt, ← rowsA_v, rowsA, rowsA, List.map_take]
    have gs : ∀ o, (H.set b o)[b]? = some o := fun o => List.getElem?_set_self (by omega)
    have hsg : ∀ rows : List (List D), (seg (rowsA xs) i rows).take i = (rowsA xs).take i := fun rows => by
      rw [seg, List.append_assoc, List.take_append_of_le_length (by simp [rowsA_len]; omega), List.take_take, Nat.min_self]
    by_cases hi1 : i = 0
    · repeat (first | refine wa ?_ | refine wb rfl ?_ | refine wc rfl rfl hM ?_ | refine wd rfl hM ?_ | ((first | refine we rfl fun K hK => ?_ | refine wf rfl rfl fun K hK => ?_ | refine wg rfl rfl fun K hK => ?_ | refine wh rfl fun K hK => ?_); (simp only [lo, ld, ↓aop, ↓aCall, hP, hG, Nat.reduceLT, ↓reduceIte, Nat.reduceEqDiff, Nat.reduceAdd, Nat.reduceMul, Nat.reduceLeDiff, reduceCtorEq, D.cs, D.plain, fillD, chop, List.replicate, tk_3, ze_3, sz_3, tk_22, ze_22, sz_22, tk_26, ze_26, sz_26, kn_26, hb1]; repeat (with_reducible refine And.intro ?_ ?_; focus (first | decide | omega | (simp only [ln]; omega)))); try ((first | refine hK _ _ ?_ | refine hK _ ?_); clear hK K; simp only [lp])) | ((first | refine wi ?_ | refine wj ?_ | refine wk ?_ | refine wl ?_ | refine wm ?_ | refine wn ?_); simp only [lt, ↓reduceIte, Nat.reduceEqDiff]) | refine wo ?_)
      rw [if_pos (by omega)]
      unfold aClear
      simp only [tk_22, ze_26, hb1]
      refine ⟨rfl, rfl, trivial, trivial, trivial, by rw [rowsA_len]; omega, hK _ _ ?_⟩
      clear hK K; simp only [lp]
      repeat (first | refine wa ?_ | refine wb rfl ?_ | refine wc rfl rfl hM ?_ | refine wd rfl hM ?_ | ((first | refine we rfl fun K hK => ?_ | refine wf rfl rfl fun K hK => ?_ | refine wg rfl rfl fun K hK => ?_ | refine wh rfl fun K hK => ?_); (simp only [lo, ld, ↓aop, ↓aCall, hP, hG, Nat.reduceLT, ↓reduceIte, Nat.reduceEqDiff, Nat.reduceAdd, Nat.reduceMul, Nat.reduceLeDiff, reduceCtorEq, D.cs, D.plain, fillD, chop, List.replicate, tk_3, ze_3, sz_3, tk_22, ze_22, sz_22, tk_26, ze_26, sz_26, kn_26, gs]; repeat (with_reducible refine And.intro ?_ ?_; focus (first | decide | omega | (simp only [ln]; omega)))); try ((first | refine hK _ _ ?_ | refine hK _ ?_); clear hK K; simp only [lp])) | ((first | refine wi ?_ | refine wj ?_ | refine wk ?_ | refine wl ?_ | refine wm ?_ | refine wn ?_); simp only [lt, ↓reduceIte, Nat.reduceEqDiff]) | refine wo ?_)
      rw [hi1] at hsg hdone ⊢
      exact hdone _ (by rw [hsg]; rw [hi1] at hrt; exact hrt) _ rfl
    · repeat (first | refine wa ?_ | refine wb rfl ?_ | refine wc rfl rfl hM ?_ | refine wd rfl hM ?_ | ((first | refine we rfl fun K hK => ?_ | refine wf rfl rfl fun K hK => ?_ | refine wg rfl rfl fun K hK => ?_ | refine wh rfl fun K hK => ?_); (simp only [lo, ld, ↓aop, ↓aCall, hP, hG, Nat.reduceLT, ↓reduceIte, Nat.reduceEqDiff, Nat.reduceAdd, Nat.reduceMul, Nat.reduceLeDiff, reduceCtorEq, D.cs, D.plain, fillD, chop, List.replicate, tk_3, ze_3, sz_3, tk_22, ze_22, sz_22, tk_26, ze_26, sz_26, kn_26, hb1]; repeat (with_reducible refine And.intro ?_ ?_; focus (first | decide | omega | (simp only [ln]; omega)))); try ((first | refine hK _ _ ?_ | refine hK _ ?_); clear hK K; simp only [lp])) | ((first | refine wi ?_ | refine wj ?_ | refine wk ?_ | refine wl ?_ | refine wm ?_ | refine wn ?_); simp only [lt, ↓reduceIte, Nat.reduceEqDiff]) | refine wo ?_)
      rw [if_neg (by omega)]
      unfold aClear
      simp only [tk_22, ze_26, hb1]
      refine ⟨rfl, rfl, trivial, trivial, trivial, Nat.zero_le _, by rw [rowsA_len]; omega, hK _ _ ?_⟩
      clear hK K; simp only [lp]
      repeat (first | refine wa ?_ | refine wb rfl ?_ | refine wc rfl rfl hM ?_ | refine wd rfl hM ?_ | ((first | refine we rfl fun K hK => ?_ | refine wf rfl rfl fun K hK => ?_ | refine wg rfl rfl fun K hK => ?_ | refine wh rfl fun K hK => ?_); (simp only [lo, ld, ↓aop, ↓aCall, hP, hG, Nat.reduceLT, ↓reduceIte, Nat.reduceEqDiff, Nat.reduceAdd, Nat.reduceMul, Nat.reduceLeDiff, reduceCtorEq, D.cs, D.plain, fillD, chop, List.replicate, tk_3, ze_3, sz_3, tk_22, ze_22, sz_22, tk_26, ze_26, sz_26, kn_26, gs]; repeat (with_reducible refine And.intro ?_ ?_; focus (first | decide | omega | (simp only [ln]; omega)))); try ((first | refine hK _ _ ?_ | refine hK _ ?_); clear hK K; simp only [lp])) | ((first | refine wi ?_ | refine wj ?_ | refine wk ?_ | refine wl ?_ | refine wm ?_ | refine wn ?_); simp only [lt, ↓reduceIte, Nat.reduceEqDiff]) | refine wo ?_)
      exact hdone _ (by rw [hsg]; exact hrt) _ rfl
end Go.Ag
namespace Go.Ag
open Go Go.Proofs
variable {G : Nat → Option (List V)}
attribute [local irreducible] aops qops Sat aop

theorem ck73 : ckOf Tryz.prog 20 37 = some [.s, .s] := by kernel_rfl
theorem eg73 : Tryz.prog.eqGuardType Tryz.prog.depth 37 = false := by kernel_rfl
theorem ft73 (x : Slv) : fits [.s, .s] [.str x.name, .str x.link] = true := rfl
theorem ev73 (x : Slv) : eqVs [.str x.name, .str x.link] [.str x.name, .str x.link] = true := by simp [eqVs, eqV]

set_option maxHeartbeats 16000000 in
theorem spec_SameOne (x : Alt) (hs : x.slaves.length ≤ 1099511627776) (hl : x.choices.length ≤ 1099511627776) (hk : ∀ c ∈ x.choices, c.slaves.length ≤ 1099511627776) (H : List Ob) (K : D → List Ob → Prop) (hK : K (.v (.bool true)) H) : ACalls Tryz.prog G 27 [altd x, altd x] H K := by
  refine ACalls.go Tryz.f27 _ 120 [4] Tryz.func27 rfl Tryz.ntmps27 (by kernel_rfl) rfl (by simp) (fun E hE hP hG hH => ?_)
  have hM : E.P.follows .mixedOrders = true := hP ▸ mixed
  subst hH
  simp only [args0, altd]
  repeat (first | refine wa ?_ | refine wb rfl ?_ | refine wc rfl rfl hM ?_ | refine wd rfl hM ?_ | ((first | refine we rfl fun K hK => ?_ | refine wf rfl rfl fun K hK => ?_ | refine wg rfl rfl fun K hK => ?_ | refine wh rfl fun K hK => ?_); (simp only [lo, ld, ↓aop, ↓aCall, hP, hG, Nat.reduceLT, ↓reduceIte, Nat.reduceEqDiff, Nat.reduceAdd, Nat.reduceMul, Nat.reduceLeDiff, reduceCtorEq, D.cs, D.plain, fillD, chop, List.replicate, altB, altV, tk_3, ze_3, sz_3, tk_4, ze_4, sz_4, tk_9, ze_9, sz_9, tk_26, ze_26, sz_26, kn_26, tk_23, ze_23, sz_23, tk_24, ze_24, sz_24]; repeat (with_reducible refine And.intro ?_ ?_; focus (first | decide | omega | (simp only [ln]; omega)))); try ((first | refine hK _ _ ?_ | refine hK _ ?_); clear hK K; simp only [lp])) | ((first | refine wi ?_ | refine wj ?_ | refine wk ?_ | refine wl ?_ | refine wm ?_ | refine wn ?_); simp only [lt, ↓reduceIte, Nat.reduceEqDiff]) | refine wo ?_)
  refine sat_thru (fr 120 [(50, .v (.bool false)), (4, .v (.bool false)), (3, .ptr (E.H0.length + 1) 0), (2, .ptr E.H0.length 0)]) (E.H0 ++ [altB x, altB x]) ?_ ?_
  · (first | refine wr ?_ | refine wp rfl hM ?_ | refine wq hM ?_); repeat' (first | ((first | refine wx ?_ | refine wy ?_ | refine wz ?_); (simp only [lo, ld, ↓aop, ↓aCall, hP, hG, Nat.reduceLT, ↓reduceIte, Nat.reduceEqDiff, Nat.reduceAdd, Nat.reduceMul, Nat.reduceLeDiff, reduceCtorEq, D.cs, D.plain, fillD, chop, List.replicate, altB, altV, slvs, chos, tk_3, ze_3, sz_3, tk_4, ze_4, sz_4, tk_9, ze_9, sz_9, tk_26, ze_26, sz_26, kn_26, tk_23, ze_23, sz_23, tk_24, ze_24, sz_24, bne_self_eq_false]; repeat (with_reducible refine And.intro ?_ ?_; focus (first | decide | omega | (simp only [ln]; omega)))); try ((first | refine hK _ _ ?_ | refine hK _ ?_); clear hK K; simp only [lp])) | refine we rfl fun K hK => ?_ | refine wf rfl rfl fun K hK => ?_ | refine wg rfl rfl fun K hK => ?_ | refine wh rfl fun K hK => ?_ | ((first | refine Xg rfl rfl (by decide) ?_ fun K hK => ?_ | refine Yg rfl rfl (by decide) ?_ fun K hK => ?_ | refine Zg rfl rfl rfl (by decide) ?_ fun K hK => ?_); (focus (simp only [look_cons, ↓reduceIte, Nat.reduceEqDiff, Bool.not_true, Bool.not_false]; done))) | ((first | refine Xn rfl rfl (by decide) ?_ ?_ | refine Yn rfl rfl (by decide) ?_ ?_ | refine Zn rfl rfl rfl (by decide) ?_ ?_); (focus (simp only [look_cons, ↓reduceIte, Nat.reduceEqDiff, Bool.not_true, Bool.not_false]; done)); simp only [lp]) | ((first | refine Xo rfl rfl (by decide) ?_ ?_ | refine Yo rfl rfl (by decide) ?_ ?_ | refine Zo rfl rfl rfl (by decide) ?_ ?_); (focus (simp only [look_cons, ↓reduceIte, Nat.reduceEqDiff, Bool.not_true, Bool.not_false]; done)); simp only [lp]) | ((first | refine Xs rfl rfl (by decide) rfl (fun h K hK => ?_) fun h => ?_ | refine Ys rfl rfl (by decide) rfl (fun h K hK => ?_) fun h => ?_ | refine Zs rfl rfl rfl (by decide) rfl (fun h K hK => ?_) fun h => ?_); rotate_left; (focus (simp only [Bool.not_true, Bool.not_false, lp])); rotate_left) | ((first | refine wi ?_ | refine wj ?_ | refine wk ?_); simp only [lt, ↓reduceIte, Nat.reduceEqDiff]))
    refine .weakFr ?_
    simp only [le, ↓reduceIte, Nat.reduceEqDiff, and_true]; repeat' (first | exact trivial | exact D.le_refl _ | exact D.le_any _ | with_reducible refine And.intro ?_ ?_)
  refine sat_cond rfl (fun hb => ?_) (fun hb => ?_)
  · exact absurd hb (by decide)
  repeat (first | refine wa ?_ | refine wb rfl ?_ | refine wc rfl rfl hM ?_ | refine wd rfl hM ?_ | ((first | refine we rfl fun K hK => ?_ | refine wf rfl rfl fun K hK => ?_ | refine wg rfl rfl fun K hK => ?_ | refine wh rfl fun K hK => ?_); (simp only [lo, ld, ↓aop, ↓aCall, hP, hG, Nat.reduceLT, ↓reduceIte, Nat.reduceEqDiff, Nat.reduceAdd, Nat.reduceMul, Nat.reduceLeDiff, reduceCtorEq, D.cs, D.plain, fillD, chop, List.replicate, altB, altV, tk_3, ze_3, sz_3, tk_4, ze_4, sz_4, tk_9, ze_9, sz_9, tk_26, ze_26, sz_26, kn_26, tk_23, ze_23, sz_23, tk_24, ze_24, sz_24]; repeat (with_reducible refine And.intro ?_ ?_; focus (first | decide | omega | (simp only [ln]; omega)))); try ((first | refine hK _ _ ?_ | refine hK _ ?_); clear hK K; simp only [lp])) | ((first | refine wi ?_ | refine wj ?_ | refine wk ?_ | refine wl ?_ | refine wm ?_ | refine wn ?_); simp only [lt, ↓reduceIte, Nat.reduceEqDiff]) | refine wo ?_)
  refine sat_loop_ent (fun n ts H => ∃ (i : Nat), n = x.slaves.length - i ∧ i ≤ x.slaves.length ∧
    ts = fr 120 [(5, .v (.int .i64 i)), (4, .v (.bool false)), (3, .ptr (E.H0.length + 1) 0), (2, .ptr E.H0.length 0)] ∧ H = E.H0 ++ [altB x, altB x]) (x.slaves.length) (.weakFr ?_) ⟨0, rfl, Nat.zero_le _, rfl, rfl⟩ ?_
  · simp only [le, ↓reduceIte, Nat.reduceEqDiff, and_true]; repeat' (first | exact trivial | exact D.le_refl _ | exact D.le_any _ | with_reducible refine And.intro ?_ ?_)
  rintro n ts H ⟨i, rfl, hi, rfl, rfl⟩
  repeat (first | refine wa ?_ | refine wb rfl ?_ | refine wc rfl rfl hM ?_ | refine wd rfl hM ?_ | ((first | refine we rfl fun K hK => ?_ | refine wf rfl rfl fun K hK => ?_ | refine wg rfl rfl fun K hK => ?_ | refine wh rfl fun K hK => ?_); (simp only [lo, ld, ↓aop, ↓aCall, hP, hG, Nat.reduceLT, ↓reduceIte, Nat.reduceEqDiff, Nat.reduceAdd, Nat.reduceMul, Nat.reduceLeDiff, reduceCtorEq, D.cs, D.plain, fillD, chop, List.replicate, altB, altV, slvs, tk_3, ze_3, sz_3, tk_4, ze_4, sz_4, tk_9, ze_9, sz_9, tk_26, ze_26, sz_26, kn_26, tk_23, ze_23, sz_23, tk_24, ze_24, sz_24]; repeat (with_reducible refine And.intro ?_ ?_; focus (first | decide | omega | (simp only [ln]; omega)))); try ((first | refine hK _ _ ?_ | refine hK _ ?_); clear hK K; simp only [lp])) | ((first | refine wi ?_ | refine wj ?_ | refine wk ?_ | refine wl ?_ | refine wm ?_ | refine wn ?_); simp only [lt, ↓reduceIte, Nat.reduceEqDiff]) | refine wo ?_)
  refine sat_cond rfl (fun hc => ?_) (fun hc => ?_)
  · simp at hc
    obtain ⟨s, hx⟩ : ∃ s, x.slaves[i]? = some s := ⟨_, List.getElem?_eq_getElem hc⟩
    have hw := wrap_succ (i := i) (by omega)
    repeat (first | refine wa ?_ | refine wb rfl ?_ | refine wc rfl rfl hM ?_ | refine wd rfl hM ?_ | ((first | refine we rfl fun K hK => ?_ | refine wf rfl rfl fun K hK => ?_ | refine wg rfl rfl fun K hK => ?_ | refine wh rfl fun K hK => ?_); (simp only [lo, ld, ↓aop, ↓aCall, hP, hG, Nat.reduceLT, ↓reduceIte, Nat.reduceEqDiff, Nat.reduceAdd, Nat.reduceMul, Nat.reduceLeDiff, reduceCtorEq, D.cs, D.plain, fillD, chop, List.replicate, altB, altV, slvs, tk_3, ze_3, sz_3, tk_9, ze_9, sz_9, tk_26, ze_26, sz_26, kn_26, tk_23, ze_23, sz_23, tk_37, ze_37, sz_37, kn_37, hc, hx, aEq, ck73, eg73, ft73, ev73, Option.isSome_some]; repeat (with_reducible refine And.intro ?_ ?_; focus (first | decide | omega | (simp only [ln]; omega)))); try ((first | refine hK _ _ ?_ | refine hK _ ?_); clear hK K; simp only [lp])) | ((first | refine wi ?_ | refine wj ?_ | refine wk ?_ | refine wl ?_ | refine wm ?_ | refine wn ?_); simp only [lt, ↓reduceIte, Nat.reduceEqDiff]) | refine wo ?_)
    refine sat_cond rfl (fun hb => ?_) (fun hb => ?_)
    · exact absurd hb (by decide)
    repeat (first | refine wa ?_ | refine wb rfl ?_ | refine wc rfl rfl hM ?_ | refine wd rfl hM ?_ | ((first | refine we rfl fun K hK => ?_ | refine wf rfl rfl fun K hK => ?_ | refine wg rfl rfl fun K hK => ?_ | refine wh rfl fun K hK => ?_); (simp only [lo, ld, ↓aop, ↓aCall, hP, hG, Nat.reduceLT, ↓reduceIte, Nat.reduceEqDiff, Nat.reduceAdd, Nat.reduceMul, Nat.reduceLeDiff, reduceCtorEq, D.cs, D.plain, fillD, chop, List.replicate, hw]; repeat (with_reducible refine And.intro ?_ ?_; focus (first | decide | omega | (simp only [ln]; omega)))); try ((first | refine hK _ _ ?_ | refine hK _ ?_); clear hK K; simp only [lp])) | ((first | refine wi ?_ | refine wj ?_ | refine wk ?_ | refine wl ?_ | refine wm ?_ | refine wn ?_); simp only [lt, ↓reduceIte, Nat.reduceEqDiff]) | refine wo ?_)
    refine ⟨x.slaves.length - (i + 1), _, _, by omega, .weakFr ?_, i + 1, rfl, by omega, rfl, rfl⟩
    simp only [le, ↓reduceIte, Nat.reduceEqDiff, and_true]; repeat' (first | exact trivial | exact D.le_refl _ | exact D.le_any _ | with_reducible refine And.intro ?_ ?_)
  repeat (first | refine wa ?_ | refine wb rfl ?_ | refine wc rfl rfl hM ?_ | refine wd rfl hM ?_ | ((first | refine we rfl fun K hK => ?_ | refine wf rfl rfl fun K hK => ?_ | refine wg rfl rfl fun K hK => ?_ | refine wh rfl fun K hK => ?_); (simp only [lo, ld, ↓aop, ↓aCall, hP, hG, Nat.reduceLT, ↓reduceIte, Nat.reduceEqDiff, Nat.reduceAdd, Nat.reduceMul, Nat.reduceLeDiff, reduceCtorEq, D.cs, D.plain, fillD, chop, List.replicate, altB, altV, chos, tk_3, ze_3, sz_3, tk_4, ze_4, sz_4, tk_9, ze_9, sz_9, tk_26, ze_26, sz_26, kn_26, tk_23, ze_23, sz_23, tk_24, ze_24, sz_24]; repeat (with_reducible refine And.intro ?_ ?_; focus (first | decide | omega | (simp only [ln]; omega)))); try ((first | refine hK _ _ ?_ | refine hK _ ?_); clear hK K; simp only [lp])) | ((first | refine wi ?_ | refine wj ?_ | refine wk ?_ | refine wl ?_ | refine wm ?_ | refine wn ?_); simp only [lt, ↓reduceIte, Nat.reduceEqDiff]) | refine wo ?_)
  refine sat_loop_ent (fun n ts H => ∃ (i : Nat), n = x.choices.length - i ∧ i ≤ x.choices.length ∧
    ts = fr 120 [(6, .v (.int .i64 i)), (4, .v (.bool false)), (3, .ptr (E.H0.length + 1) 0), (2, .ptr E.H0.length 0)] ∧ H = E.H0 ++ [altB x, altB x]) (x.choices.length) (.weakFr ?_) ⟨0, rfl, Nat.zero_le _, rfl, rfl⟩ ?_
  · simp only [le, ↓reduceIte, Nat.reduceEqDiff, and_true]; repeat' (first | exact trivial | exact D.le_refl _ | exact D.le_any _ | with_reducible refine And.intro ?_ ?_)
  rintro n ts H ⟨i, rfl, hi, rfl, rfl⟩
  repeat (first | refine wa ?_ | refine wb rfl ?_ | refine wc rfl rfl hM ?_ | refine wd rfl hM ?_ | ((first | refine we rfl fun K hK => ?_ | refine wf rfl rfl fun K hK => ?_ | refine wg rfl rfl fun K hK => ?_ | refine wh rfl fun K hK => ?_); (simp only [lo, ld, ↓aop, ↓aCall, hP, hG, Nat.reduceLT, ↓reduceIte, Nat.reduceEqDiff, Nat.reduceAdd, Nat.reduceMul, Nat.reduceLeDiff, reduceCtorEq, D.cs, D.plain, fillD, chop, List.replicate, altB, altV, chos, tk_3, ze_3, sz_3, tk_4, ze_4, sz_4, tk_9, ze_9, sz_9, tk_26, ze_26, sz_26, kn_26, tk_23, ze_23, sz_23, tk_24, ze_24, sz_24]; repeat (with_reducible refine And.intro ?_ ?_; focus (first | decide | omega | (simp only [ln]; omega)))); try ((first | refine hK _ _ ?_ | refine hK _ ?_); clear hK K; simp only [lp])) | ((first | refine wi ?_ | refine wj ?_ | refine wk ?_ | refine wl ?_ | refine wm ?_ | refine wn ?_); simp only [lt, ↓reduceIte, Nat.reduceEqDiff]) | refine wo ?_)
  refine sat_cond rfl (fun hc => ?_) (fun hc => ?_)
  · simp at hc
    obtain ⟨c, hx⟩ : ∃ s, x.choices[i]? = some s := ⟨_, List.getElem?_eq_getElem hc⟩
    have hw := wrap_succ (i := i) (by omega)
    have hcs := hk c (List.mem_of_getElem? hx)
    repeat (first | refine wa ?_ | refine wb rfl ?_ | refine wc rfl rfl hM ?_ | refine wd rfl hM ?_ | ((first | refine we rfl fun K hK => ?_ | refine wf rfl rfl fun K hK => ?_ | refine wg rfl rfl fun K hK => ?_ | refine wh rfl fun K hK => ?_); (simp only [lo, ld, ↓aop, ↓aCall, hP, hG, Nat.reduceLT, ↓reduceIte, Nat.reduceEqDiff, Nat.reduceAdd, Nat.reduceMul, Nat.reduceLeDiff, reduceCtorEq, D.cs, D.plain, fillD, chop, List.replicate]; repeat (with_reducible refine And.intro ?_ ?_; focus (first | decide | omega | (simp only [ln]; omega)))); try ((first | refine hK _ _ ?_ | refine hK _ ?_); clear hK K; simp only [lp])) | ((first | refine wi ?_ | refine wj ?_ | refine wk ?_ | refine wl ?_ | refine wm ?_ | refine wn ?_); simp only [lt, ↓reduceIte, Nat.reduceEqDiff]) | refine wo ?_)
    refine sat_thru (fr 120 [(119, .v (.bool false)), (6, .v (.int .i64 i)), (4, .v (.bool false)), (3, .ptr (E.H0.length + 1) 0), (2, .ptr E.H0.length 0)]) (E.H0 ++ [altB x, altB x]) ?_ ?_
    · (first | refine wr ?_ | refine wp rfl hM ?_ | refine wq hM ?_); repeat' (first | ((first | refine wx ?_ | refine wy ?_ | refine wz ?_); (simp only [lo, ld, ↓aop, ↓aCall, hP, hG, Nat.reduceLT, ↓reduceIte, Nat.reduceEqDiff, Nat.reduceAdd, Nat.reduceMul, Nat.reduceLeDiff, reduceCtorEq, D.cs, D.plain, fillD, chop, List.replicate, altB, altV, chos, strs, tk_3, ze_3, sz_3, tk_4, ze_4, sz_4, tk_9, ze_9, sz_9, tk_26, ze_26, sz_26, kn_26, tk_24, ze_24, sz_24, tk_46, ze_46, sz_46, kn_46, tk_44, ze_44, sz_44, bne_self_eq_false, hc, hx]; repeat (with_reducible refine And.intro ?_ ?_; focus (first | decide | omega | (simp only [ln]; omega)))); try ((first | refine hK _ _ ?_ | refine hK _ ?_); clear hK K; simp only [lp])) | refine we rfl fun K hK => ?_ | refine wf rfl rfl fun K hK => ?_ | refine wg rfl rfl fun K hK => ?_ | refine wh rfl fun K hK => ?_ | ((first | refine Xg rfl rfl (by decide) ?_ fun K hK => ?_ | refine Yg rfl rfl (by decide) ?_ fun K hK => ?_ | refine Zg rfl rfl rfl (by decide) ?_ fun K hK => ?_); (focus (simp only [look_cons, ↓reduceIte, Nat.reduceEqDiff, Bool.not_true, Bool.not_false]; done))) | ((first | refine Xn rfl rfl (by decide) ?_ ?_ | refine Yn rfl rfl (by decide) ?_ ?_ | refine Zn rfl rfl rfl (by decide) ?_ ?_); (focus (simp only [look_cons, ↓reduceIte, Nat.reduceEqDiff, Bool.not_true, Bool.not_false]; done)); simp only [lp]) | ((first | refine Xo rfl rfl (by decide) ?_ ?_ | refine Yo rfl rfl (by decide) ?_ ?_ | refine Zo rfl rfl rfl (by decide) ?_ ?_); (focus (simp only [look_cons, ↓reduceIte, Nat.reduceEqDiff, Bool.not_true, Bool.not_false]; done)); simp only [lp]) | ((first | refine Xs rfl rfl (by decide) rfl (fun h K hK => ?_) fun h => ?_ | refine Ys rfl rfl (by decide) rfl (fun h K hK => ?_) fun h => ?_ | refine Zs rfl rfl rfl (by decide) rfl (fun h K hK => ?_) fun h => ?_); rotate_left; (focus (simp only [Bool.not_true, Bool.not_false, lp])); rotate_left) | ((first | refine wi ?_ | refine wj ?_ | refine wk ?_); simp only [lt, ↓reduceIte, Nat.reduceEqDiff]))
      refine ⟨_, spec_Same2 c.slaves c.slaves hcs _ _ ⟨rfl, rfl⟩, hK _ ?_⟩
      clear hK K; simp only [lp]
      repeat' (first | ((first | refine wx ?_ | refine wy ?_ | refine wz ?_); (simp only [lo, ld, ↓aop, ↓aCall, hP, hG, Nat.reduceLT, ↓reduceIte, Nat.reduceEqDiff, Nat.reduceAdd, Nat.reduceMul, Nat.reduceLeDiff, reduceCtorEq, D.cs, D.plain, fillD, chop, List.replicate, altB, altV, chos, tk_3, ze_3, sz_3, tk_4, ze_4, sz_4, tk_9, ze_9, sz_9, tk_26, ze_26, sz_26, kn_26, tk_24, ze_24, sz_24, tk_46, ze_46, sz_46, kn_46, tk_44, ze_44, sz_44, beq_self_eq_true]; repeat (with_reducible refine And.intro ?_ ?_; focus (first | decide | omega | (simp only [ln]; omega)))); try ((first | refine hK _ _ ?_ | refine hK _ ?_); clear hK K; simp only [lp])) | refine we rfl fun K hK => ?_ | refine wf rfl rfl fun K hK => ?_ | refine wg rfl rfl fun K hK => ?_ | refine wh rfl fun K hK => ?_ | ((first | refine Xg rfl rfl (by decide) ?_ fun K hK => ?_ | refine Yg rfl rfl (by decide) ?_ fun K hK => ?_ | refine Zg rfl rfl rfl (by decide) ?_ fun K hK => ?_); (focus (simp only [look_cons, ↓reduceIte, Nat.reduceEqDiff, Bool.not_true, Bool.not_false]; done))) | ((first | refine Xn rfl rfl (by decide) ?_ ?_ | refine Yn rfl rfl (by decide) ?_ ?_ | refine Zn rfl rfl rfl (by decide) ?_ ?_); (focus (simp only [look_cons, ↓reduceIte, Nat.reduceEqDiff, Bool.not_true, Bool.not_false]; done)); simp only [lp]) | ((first | refine Xo rfl rfl (by decide) ?_ ?_ | refine Yo rfl rfl (by decide) ?_ ?_ | refine Zo rfl rfl rfl (by decide) ?_ ?_); (focus (simp only [look_cons, ↓reduceIte, Nat.reduceEqDiff, Bool.not_true, Bool.not_false]; done)); simp only [lp]) | ((first | refine Xs rfl rfl (by decide) rfl (fun h K hK => ?_) fun h => ?_ | refine Ys rfl rfl (by decide) rfl (fun h K hK => ?_) fun h => ?_ | refine Zs rfl rfl rfl (by decide) rfl (fun h K hK => ?_) fun h => ?_); rotate_left; (focus (simp only [Bool.not_true, Bool.not_false, lp])); rotate_left) | ((first | refine wi ?_ | refine wj ?_ | refine wk ?_); simp only [lt, ↓reduceIte, Nat.reduceEqDiff]))
      refine .weakFr ?_
      simp only [le, ↓reduceIte, Nat.reduceEqDiff, and_true]; repeat' (first | exact trivial | exact D.le_refl _ | exact D.le_any _ | with_reducible refine And.intro ?_ ?_)
    refine sat_cond rfl (fun hb => ?_) (fun hb => ?_)
    · exact absurd hb (by decide)
    repeat (first | refine wa ?_ | refine wb rfl ?_ | refine wc rfl rfl hM ?_ | refine wd rfl hM ?_ | ((first | refine we rfl fun K hK => ?_ | refine wf rfl rfl fun K hK => ?_ | refine wg rfl rfl fun K hK => ?_ | refine wh rfl fun K hK => ?_); (simp only [lo, ld, ↓aop, ↓aCall, hP, hG, Nat.reduceLT, ↓reduceIte, Nat.reduceEqDiff, Nat.reduceAdd, Nat.reduceMul, Nat.reduceLeDiff, reduceCtorEq, D.cs, D.plain, fillD, chop, List.replicate, hw]; repeat (with_reducible refine And.intro ?_ ?_; focus (first | decide | omega | (simp only [ln]; omega)))); try ((first | refine hK _ _ ?_ | refine hK _ ?_); clear hK K; simp only [lp])) | ((first | refine wi ?_ | refine wj ?_ | refine wk ?_ | refine wl ?_ | refine wm ?_ | refine wn ?_); simp only [lt, ↓reduceIte, Nat.reduceEqDiff]) | refine wo ?_)
    refine ⟨x.choices.length - (i + 1), _, _, by omega, .weakFr ?_, i + 1, rfl, by omega, rfl, rfl⟩
    simp only [le, ↓reduceIte, Nat.reduceEqDiff, and_true]; repeat' (first | exact trivial | exact D.le_refl _ | exact D.le_any _ | with_reducible refine And.intro ?_ ?_)
  repeat (first | refine wa ?_ | refine wb rfl ?_ | refine wc rfl rfl hM ?_ | refine wd rfl hM ?_ | ((first | refine we rfl fun K hK => ?_ | refine wf rfl rfl fun K hK => ?_ | refine wg rfl rfl fun K hK => ?_ | refine wh rfl fun K hK => ?_); (simp only [lo, ld, ↓aop, ↓aCall, hP, hG, Nat.reduceLT, ↓reduceIte, Nat.reduceEqDiff, Nat.reduceAdd, Nat.reduceMul, Nat.reduceLeDiff, reduceCtorEq, D.cs, D.plain, fillD, chop, List.replicate]; repeat (with_reducible refine And.intro ?_ ?_; focus (first | decide | omega | (simp only [ln]; omega)))); try ((first | refine hK _ _ ?_ | refine hK _ ?_); clear hK K; simp only [lp])) | ((first | refine wi ?_ | refine wj ?_ | refine wk ?_ | refine wl ?_ | refine wm ?_ | refine wn ?_); simp only [lt, ↓reduceIte, Nat.reduceEqDiff]) | refine wo ?_)
  exact Fin.gc _ hE (by decide) rfl trivial hK
end Go.Ag
namespace Go.Ag
open Go Go.Proofs
variable {G : Nat → Option (List V)}
attribute [local irreducible] aops qops Sat aop

set_option maxHeartbeats 4000000 in
theorem spec_DeleteFuncN (f : FuncId) (caps : List D) (H : List Ob) (K : D → List Ob → Prop) (hK : K .nils H) : ACalls Tryz.prog G 33 [.nils, .fn f caps] H K := by
  refine ACalls.go Tryz.f33 _ 42 [4] Tryz.func33 rfl Tryz.ntmps33 (by kernel_rfl) rfl (by simp) (fun E hE hP hG hH => ?_)
  have hM : E.P.follows .mixedOrders = true := hP ▸ mixed
  subst hH
  simp only [args0]
  repeat (first | refine wa ?_ | refine wb rfl ?_ | refine wc rfl rfl hM ?_ | refine wd rfl hM ?_ | ((first | refine we rfl fun K hK => ?_ | refine wf rfl rfl fun K hK => ?_ | refine wg rfl rfl fun K hK => ?_ | refine wh rfl fun K hK => ?_); (simp only [lo, ld, ↓aop, ↓aCall, hP, hG, Nat.reduceLT, ↓reduceIte, Nat.reduceEqDiff, Nat.reduceAdd, Nat.reduceMul, Nat.reduceLeDiff, reduceCtorEq, D.cs, D.plain, fillD, chop, List.replicate, tk_3, ze_3, sz_3, tk_9, ze_9, sz_9, tk_22, ze_22, sz_22, tk_26, ze_26, sz_26, kn_26]; repeat (with_reducible refine And.intro ?_ ?_; focus (first | decide | omega | (simp only [ln]; omega)))); try ((first | refine hK _ _ ?_ | refine hK _ ?_); clear hK K; simp only [lp])) | ((first | refine wi ?_ | refine wj ?_ | refine wk ?_ | refine wl ?_ | refine wm ?_ | refine wn ?_); simp only [lt, ↓reduceIte, Nat.reduceEqDiff]) | refine wo ?_)
  refine ACalls.ent (args' := [.v (altsV []), .fn f caps]) (fun E' => Ent.weak ⟨D.le_nils 6, D.le_refl _, trivial⟩) (spec_IndexFuncA [] f caps (fun _ => false) (by decide) _ (fun c hc => by cases hc) _ (hK _ _ ?_))
  clear hK K; simp only [lp]
  have e0 : idxA [] (fun _ => false) = -1 := rfl
  rw [e0]
  repeat (first | refine wa ?_ | refine wb rfl ?_ | refine wc rfl rfl hM ?_ | refine wd rfl hM ?_ | ((first | refine we rfl fun K hK => ?_ | refine wf rfl rfl fun K hK => ?_ | refine wg rfl rfl fun K hK => ?_ | refine wh rfl fun K hK => ?_); (simp only [lo, ld, ↓aop, ↓aCall, hP, hG, Nat.reduceLT, ↓reduceIte, Nat.reduceEqDiff, Nat.reduceAdd, Nat.reduceMul, Nat.reduceLeDiff, reduceCtorEq, D.cs, D.plain, fillD, chop, List.replicate, tk_3, ze_3, sz_3, tk_9, ze_9, sz_9, tk_22, ze_22, sz_22, tk_26, ze_26, sz_26, kn_26]; repeat (with_reducible refine And.intro ?_ ?_; focus (first | decide | omega | (simp only [ln]; omega)))); try ((first | refine hK _ _ ?_ | refine hK _ ?_); clear hK K; simp only [lp])) | ((first | refine wi ?_ | refine wj ?_ | refine wk ?_ | refine wl ?_ | refine wm ?_ | refine wn ?_); simp only [lt, ↓reduceIte, Nat.reduceEqDiff]) | refine wo ?_)
  refine sat_cond rfl (fun hc => ?_) (fun hc => ?_)
  · repeat (first | refine wa ?_ | refine wb rfl ?_ | refine wc rfl rfl hM ?_ | refine wd rfl hM ?_ | ((first | refine we rfl fun K hK => ?_ | refine wf rfl rfl fun K hK => ?_ | refine wg rfl rfl fun K hK => ?_ | refine wh rfl fun K hK => ?_); (simp only [lo, ld, ↓aop, ↓aCall, hP, hG, Nat.reduceLT, ↓reduceIte, Nat.reduceEqDiff, Nat.reduceAdd, Nat.reduceMul, Nat.reduceLeDiff, reduceCtorEq, D.cs, D.plain, fillD, chop, List.replicate]; repeat (with_reducible refine And.intro ?_ ?_; focus (first | decide | omega | (simp only [ln]; omega)))); try ((first | refine hK _ _ ?_ | refine hK _ ?_); clear hK K; simp only [lp])) | ((first | refine wi ?_ | refine wj ?_ | refine wk ?_ | refine wl ?_ | refine wm ?_ | refine wn ?_); simp only [lt, ↓reduceIte, Nat.reduceEqDiff]) | refine wo ?_)
    exact Fin.is .nils (by decide) rfl hK
  · exact absurd hc (by decide)
def dropA (l : List Alt) (p : Str) : List Alt := l.filter fun x => !(x.name == p)
set_option maxHeartbeats 8000000 in
theorem spec_Drop (l : List Alt) (p : Str) (hl : l.length ≤ 1000000) (H : List Ob) (K : D → List Ob → Prop) (hK : K (.v (altsV (dropA l p))) H) : ACalls Tryz.prog G 10 [.v (altsV l), .v (.str p)] H K := by
  refine ACalls.go Tryz.f10 _ 9 [4] Tryz.func10 rfl Tryz.ntmps10 (by kernel_rfl) rfl (by simp) (fun E hE hP hG hH => ?_)
  have hM : E.P.follows .mixedOrders = true := hP ▸ mixed
  subst hH
  simp only [args0]
  repeat (first | refine wa ?_ | refine wb rfl ?_ | refine wc rfl rfl hM ?_ | refine wd rfl hM ?_ | ((first | refine we rfl fun K hK => ?_ | refine wf rfl rfl fun K hK => ?_ | refine wg rfl rfl fun K hK => ?_ | refine wh rfl fun K hK => ?_); (simp only [lo, ld, ↓aop, ↓aCall, hP, hG, Nat.reduceLT, ↓reduceIte, Nat.reduceEqDiff, Nat.reduceAdd, Nat.reduceMul, Nat.reduceLeDiff, reduceCtorEq, D.cs, D.plain, fillD, chop, List.replicate, tk_9, ze_9, sz_9, tk_22, ze_22, sz_22]; repeat (with_reducible refine And.intro ?_ ?_; focus (first | decide | omega | (simp only [ln]; omega)))); try ((first | refine hK _ _ ?_ | refine hK _ ?_); clear hK K; simp only [lp])) | ((first | refine wi ?_ | refine wj ?_ | refine wk ?_ | refine wl ?_ | refine wm ?_ | refine wn ?_); simp only [lt, ↓reduceIte, Nat.reduceEqDiff]) | refine wo ?_)
  refine spec_CloneA l hl _ _ (fun d L hd => hK _ _ ?_)
  clear hK K; simp only [lp]
  rcases hd with ⟨rfl, rfl, rfl⟩ | ⟨ver, hv, rfl, rfl⟩
  · repeat (first | refine wa ?_ | refine wb rfl ?_ | refine wc rfl rfl hM ?_ | refine wd rfl hM ?_ | ((first | refine we rfl fun K hK => ?_ | refine wf rfl rfl fun K hK => ?_ | refine wg rfl rfl fun K hK => ?_ | refine wh rfl fun K hK => ?_); (simp only [lo, ld, ↓aop, ↓aCall, hP, hG, Nat.reduceLT, ↓reduceIte, Nat.reduceEqDiff, Nat.reduceAdd, Nat.reduceMul, Nat.reduceLeDiff, reduceCtorEq, D.cs, D.plain, fillD, chop, List.replicate, tk_9, ze_9, sz_9, tk_22, ze_22, sz_22]; repeat (with_reducible refine And.intro ?_ ?_; focus (first | decide | omega | (simp only [ln]; omega)))); try ((first | refine hK _ _ ?_ | refine hK _ ?_); clear hK K; simp only [lp])) | ((first | refine wi ?_ | refine wj ?_ | refine wk ?_ | refine wl ?_ | refine wm ?_ | refine wn ?_); simp only [lt, ↓reduceIte, Nat.reduceEqDiff]) | refine wo ?_)
    refine spec_DeleteFuncN 34 _ _ _ (hK _ _ ?_)
    clear hK K; simp only [lp]
    repeat (first | refine wa ?_ | refine wb rfl ?_ | refine wc rfl rfl hM ?_ | refine wd rfl hM ?_ | ((first | refine we rfl fun K hK => ?_ | refine wf rfl rfl fun K hK => ?_ | refine wg rfl rfl fun K hK => ?_ | refine wh rfl fun K hK => ?_); (simp only [lo, ld, ↓aop, ↓aCall, hP, hG, Nat.reduceLT, ↓reduceIte, Nat.reduceEqDiff, Nat.reduceAdd, Nat.reduceMul, Nat.reduceLeDiff, reduceCtorEq, D.cs, D.plain, fillD, chop, List.replicate]; repeat (with_reducible refine And.intro ?_ ?_; focus (first | decide | omega | (simp only [ln]; omega)))); try ((first | refine hK _ _ ?_ | refine hK _ ?_); clear hK K; simp only [lp])) | ((first | refine wi ?_ | refine wj ?_ | refine wk ?_ | refine wl ?_ | refine wm ?_ | refine wn ?_); simp only [lt, ↓reduceIte, Nat.reduceEqDiff]) | refine wo ?_)
    exact Fin.gcle (.v (altsV [])) hE (by decide) (D.le_nils 6) (by simp only [D.lt]) hK
  · repeat (first | refine wa ?_ | refine wb rfl ?_ | refine wc rfl rfl hM ?_ | refine wd rfl hM ?_ | ((first | refine we rfl fun K hK => ?_ | refine wf rfl rfl fun K hK => ?_ | refine wg rfl rfl fun K hK => ?_ | refine wh rfl fun K hK => ?_); (simp only [lo, ld, ↓aop, ↓aCall, hP, hG, Nat.reduceLT, ↓reduceIte, Nat.reduceEqDiff, Nat.reduceAdd, Nat.reduceMul, Nat.reduceLeDiff, reduceCtorEq, D.cs, D.plain, fillD, chop, List.replicate, tk_9, ze_9, sz_9, tk_22, ze_22, sz_22]; repeat (with_reducible refine And.intro ?_ ?_; focus (first | decide | omega | (simp only [ln]; omega)))); try ((first | refine hK _ _ ?_ | refine hK _ ?_); clear hK K; simp only [lp])) | ((first | refine wi ?_ | refine wj ?_ | refine wk ?_ | refine wl ?_ | refine wm ?_ | refine wn ?_); simp only [lt, ↓reduceIte, Nat.reduceEqDiff]) | refine wo ?_)
    refine spec_DeleteFunc l (E.H0.length + 1) ver 34 [.ptr E.H0.length 0] (fun c => c.name == p) (by omega) _ (by rw [hp_get]; rfl) (fun c hc H' K hfr hK => spec_dropIs c p _ _ (by rw [hfr E.H0.length (by simp) (by omega), hp_get0]; rfl) K hK) (by simp [D.ltL, D.lt]) _ (fun H' h1 h2 => hK _ _ ?_)
    clear hK K; simp only [lp]
    repeat (first | refine wa ?_ | refine wb rfl ?_ | refine wc rfl rfl hM ?_ | refine wd rfl hM ?_ | ((first | refine we rfl fun K hK => ?_ | refine wf rfl rfl fun K hK => ?_ | refine wg rfl rfl fun K hK => ?_ | refine wh rfl fun K hK => ?_); (simp only [lo, ld, ↓aop, ↓aCall, hP, hG, Nat.reduceLT, ↓reduceIte, Nat.reduceEqDiff, Nat.reduceAdd, Nat.reduceMul, Nat.reduceLeDiff, reduceCtorEq, D.cs, D.plain, fillD, chop, List.replicate]; repeat (with_reducible refine And.intro ?_ ?_; focus (first | decide | omega | (simp only [ln]; omega)))); try ((first | refine hK _ _ ?_ | refine hK _ ?_); clear hK K; simp only [lp])) | ((first | refine wi ?_ | refine wj ?_ | refine wk ?_ | refine wl ?_ | refine wm ?_ | refine wn ?_); simp only [lt, ↓reduceIte, Nat.reduceEqDiff]) | refine wo ?_)
    exact Fin.gcAny (.v (altsV (dropA l p))) hE (by decide) rfl (by simp only [D.lt]) (by rw [h1]; simp) (fun i hi => by rw [h2 i (by omega), List.getElem?_append_left hi]) hK

set_option maxHeartbeats 8000000 in
theorem spec_rSameA (l : List Alt) (hl : l.length ≤ 1099511627) (hs : ∀ x ∈ l, x.slaves.length ≤ 1099511627776 ∧ x.choices.length ≤ 1099511627776 ∧ ∀ c ∈ x.choices, c.slaves.length ≤ 1099511627776) (H : List Ob) (K : D → List Ob → Prop) (hK : K (.v (.bool true)) H) : ACalls Tryz.prog G 11 [.v (altsV l), .v (altsV l)] H K := by
  refine ACalls.go Tryz.f11 _ 27 [4] Tryz.func11 rfl Tryz.ntmps11 (by kernel_rfl) rfl (by simp) (fun E hE hP hG hH => ?_)
  have hM : E.P.follows .mixedOrders = true := hP ▸ mixed
  subst hH
  simp only [args0]
  repeat (first | refine wa ?_ | refine wb rfl ?_ | refine wc rfl rfl hM ?_ | refine wd rfl hM ?_ | ((first | refine we rfl fun K hK => ?_ | refine wf rfl rfl fun K hK => ?_ | refine wg rfl rfl fun K hK => ?_ | refine wh rfl fun K hK => ?_); (simp only [lo, ld, ↓aop, ↓aCall, hP, hG, Nat.reduceLT, ↓reduceIte, Nat.reduceEqDiff, Nat.reduceAdd, Nat.reduceMul, Nat.reduceLeDiff, reduceCtorEq, D.cs, D.plain, fillD, chop, List.replicate, altsV, tk_3, ze_3, sz_3, tk_9, ze_9, sz_9, tk_22, ze_22, sz_22, bne_self_eq_false]; repeat (with_reducible refine And.intro ?_ ?_; focus (first | decide | omega | (simp only [ln]; omega)))); try ((first | refine hK _ _ ?_ | refine hK _ ?_); clear hK K; simp only [lp])) | ((first | refine wi ?_ | refine wj ?_ | refine wk ?_ | refine wl ?_ | refine wm ?_ | refine wn ?_); simp only [lt, ↓reduceIte, Nat.reduceEqDiff]) | refine wo ?_)
  refine sat_cond rfl (fun hc => ?_) (fun hc => ?_)
  · exact absurd hc (by decide)
  repeat (first | refine wa ?_ | refine wb rfl ?_ | refine wc rfl rfl hM ?_ | refine wd rfl hM ?_ | ((first | refine we rfl fun K hK => ?_ | refine wf rfl rfl fun K hK => ?_ | refine wg rfl rfl fun K hK => ?_ | refine wh rfl fun K hK => ?_); (simp only [lo, ld, ↓aop, ↓aCall, hP, hG, Nat.reduceLT, ↓reduceIte, Nat.reduceEqDiff, Nat.reduceAdd, Nat.reduceMul, Nat.reduceLeDiff, reduceCtorEq, D.cs, D.plain, fillD, chop, List.replicate]; repeat (with_reducible refine And.intro ?_ ?_; focus (first | decide | omega | (simp only [ln]; omega)))); try ((first | refine hK _ _ ?_ | refine hK _ ?_); clear hK K; simp only [lp])) | ((first | refine wi ?_ | refine wj ?_ | refine wk ?_ | refine wl ?_ | refine wm ?_ | refine wn ?_); simp only [lt, ↓reduceIte, Nat.reduceEqDiff]) | refine wo ?_)
  refine sat_loop_ent (fun n ts H => ∃ (i : Nat), n = l.length - i ∧ i ≤ l.length ∧
    ts = fr 27 [(5, .v (.int .i64 i)), (4, .v (.bool false)), (1, .v (altsV l)), (0, .v (altsV l))] ∧ H = E.H0) (l.length) (.weakFr ?_) ⟨0, rfl, Nat.zero_le _, rfl, rfl⟩ ?_
  · simp only [le, ↓reduceIte, Nat.reduceEqDiff, and_true]; repeat' (first | exact trivial | exact D.le_refl _ | exact D.le_any _ | with_reducible refine And.intro ?_ ?_)
  rintro n ts H ⟨i, rfl, hi, rfl, rfl⟩
  repeat (first | refine wa ?_ | refine wb rfl ?_ | refine wc rfl rfl hM ?_ | refine wd rfl hM ?_ | ((first | refine we rfl fun K hK => ?_ | refine wf rfl rfl fun K hK => ?_ | refine wg rfl rfl fun K hK => ?_ | refine wh rfl fun K hK => ?_); (simp only [lo, ld, ↓aop, ↓aCall, hP, hG, Nat.reduceLT, ↓reduceIte, Nat.reduceEqDiff, Nat.reduceAdd, Nat.reduceMul, Nat.reduceLeDiff, reduceCtorEq, D.cs, D.plain, fillD, chop, List.replicate, altsV, tk_3, ze_3, sz_3, tk_9, ze_9, sz_9, tk_22, ze_22, sz_22]; repeat (with_reducible refine And.intro ?_ ?_; focus (first | decide | omega | (simp only [ln]; omega)))); try ((first | refine hK _ _ ?_ | refine hK _ ?_); clear hK K; simp only [lp])) | ((first | refine wi ?_ | refine wj ?_ | refine wk ?_ | refine wl ?_ | refine wm ?_ | refine wn ?_); simp only [lt, ↓reduceIte, Nat.reduceEqDiff]) | refine wo ?_)
  refine sat_cond rfl (fun hc => ?_) (fun hc => ?_)
  · simp at hc
    obtain ⟨x, hx⟩ : ∃ x, l[i]? = some x := ⟨_, List.getElem?_eq_getElem hc⟩
    obtain ⟨s1, s2, s3⟩ := hs x (List.mem_of_getElem? hx)
    have hw := wrap_succ (i := i) (by omega)
    repeat (first | refine wa ?_ | refine wb rfl ?_ | refine wc rfl rfl hM ?_ | refine wd rfl hM ?_ | ((first | refine we rfl fun K hK => ?_ | refine wf rfl rfl fun K hK => ?_ | refine wg rfl rfl fun K hK => ?_ | refine wh rfl fun K hK => ?_); (simp only [lo, ld, ↓aop, ↓aCall, hP, hG, Nat.reduceLT, ↓reduceIte, Nat.reduceEqDiff, Nat.reduceAdd, Nat.reduceMul, Nat.reduceLeDiff, reduceCtorEq, D.cs, D.plain, fillD, chop, List.replicate, altsV, altV, tk_3, ze_3, sz_3, tk_9, ze_9, sz_9, tk_22, ze_22, sz_22, tk_26, ze_26, sz_26, kn_26, hc, hx]; repeat (with_reducible refine And.intro ?_ ?_; focus (first | decide | omega | (simp only [ln]; omega)))); try ((first | refine hK _ _ ?_ | refine hK _ ?_); clear hK K; simp only [lp])) | ((first | refine wi ?_ | refine wj ?_ | refine wk ?_ | refine wl ?_ | refine wm ?_ | refine wn ?_); simp only [lt, ↓reduceIte, Nat.reduceEqDiff]) | refine wo ?_)
    refine ⟨_, spec_SameOne x s1 s2 s3 _ _ ⟨rfl, rfl⟩, hK _ ?_⟩
    clear hK K; simp only [lp]
    repeat (first | refine wa ?_ | refine wb rfl ?_ | refine wc rfl rfl hM ?_ | refine wd rfl hM ?_ | ((first | refine we rfl fun K hK => ?_ | refine wf rfl rfl fun K hK => ?_ | refine wg rfl rfl fun K hK => ?_ | refine wh rfl fun K hK => ?_); (simp only [lo, ld, ↓aop, ↓aCall, hP, hG, Nat.reduceLT, ↓reduceIte, Nat.reduceEqDiff, Nat.reduceAdd, Nat.reduceMul, Nat.reduceLeDiff, reduceCtorEq, D.cs, D.plain, fillD, chop, List.replicate]; repeat (with_reducible refine And.intro ?_ ?_; focus (first | decide | omega | (simp only [ln]; omega)))); try ((first | refine hK _ _ ?_ | refine hK _ ?_); clear hK K; simp only [lp])) | ((first | refine wi ?_ | refine wj ?_ | refine wk ?_ | refine wl ?_ | refine wm ?_ | refine wn ?_); simp only [lt, ↓reduceIte, Nat.reduceEqDiff]) | refine wo ?_)
    refine sat_cond rfl (fun hb => ?_) (fun hb => ?_)
    · exact absurd hb (by decide)
    repeat (first | refine wa ?_ | refine wb rfl ?_ | refine wc rfl rfl hM ?_ | refine wd rfl hM ?_ | ((first | refine we rfl fun K hK => ?_ | refine wf rfl rfl fun K hK => ?_ | refine wg rfl rfl fun K hK => ?_ | refine wh rfl fun K hK => ?_); (simp only [lo, ld, ↓aop, ↓aCall, hP, hG, Nat.reduceLT, ↓reduceIte, Nat.reduceEqDiff, Nat.reduceAdd, Nat.reduceMul, Nat.reduceLeDiff, reduceCtorEq, D.cs, D.plain, fillD, chop, List.replicate, tk_3, ze_3, sz_3, hw]; repeat (with_reducible refine And.intro ?_ ?_; focus (first | decide | omega | (simp only [ln]; omega)))); try ((first | refine hK _ _ ?_ | refine hK _ ?_); clear hK K; simp only [lp])) | ((first | refine wi ?_ | refine wj ?_ | refine wk ?_ | refine wl ?_ | refine wm ?_ | refine wn ?_); simp only [lt, ↓reduceIte, Nat.reduceEqDiff]) | refine wo ?_)
    refine ⟨l.length - (i + 1), _, _, by omega, .weakFr ?_, i + 1, rfl, by omega, rfl, rfl⟩
    simp only [le, ↓reduceIte, Nat.reduceEqDiff, and_true]; repeat' (first | exact trivial | exact D.le_refl _ | exact D.le_any _ | with_reducible refine And.intro ?_ ?_)
  repeat (first | refine wa ?_ | refine wb rfl ?_ | refine wc rfl rfl hM ?_ | refine wd rfl hM ?_ | ((first | refine we rfl fun K hK => ?_ | refine wf rfl rfl fun K hK => ?_ | refine wg rfl rfl fun K hK => ?_ | refine wh rfl fun K hK => ?_); (simp only [lo, ld, ↓aop, ↓aCall, hP, hG, Nat.reduceLT, ↓reduceIte, Nat.reduceEqDiff, Nat.reduceAdd, Nat.reduceMul, Nat.reduceLeDiff, reduceCtorEq, D.cs, D.plain, fillD, chop, List.replicate]; repeat (with_reducible refine And.intro ?_ ?_; focus (first | decide | omega | (simp only [ln]; omega)))); try ((first | refine hK _ _ ?_ | refine hK _ ?_); clear hK K; simp only [lp])) | ((first | refine wi ?_ | refine wj ?_ | refine wk ?_ | refine wl ?_ | refine wm ?_ | refine wn ?_); simp only [lt, ↓reduceIte, Nat.reduceEqDiff]) | refine wo ?_)
  exact Fin.is _ (by decide) rfl hK

set_option maxHeartbeats 8000000 in
theorem spec_rDrop (l : List Alt) (p : Str) (hl : l.length ≤ 1000000) (H : List Ob) (K : D → List Ob → Prop) (hK : K (.v (altsV (dropA l p))) H) : ACalls Tryz.prog G 13 [.v (altsV l), .v (.str p)] H K := by
  refine ACalls.go Tryz.f13 _ 28 [4] Tryz.func13 rfl Tryz.ntmps13 (by kernel_rfl) rfl (by simp) (fun E hE hP hG hH => ?_)
  have hM : E.P.follows .mixedOrders = true := hP ▸ mixed
  subst hH
  simp only [args0]
  repeat (first | refine wa ?_ | refine wb rfl ?_ | refine wc rfl rfl hM ?_ | refine wd rfl hM ?_ | ((first | refine we rfl fun K hK => ?_ | refine wf rfl rfl fun K hK => ?_ | refine wg rfl rfl fun K hK => ?_ | refine wh rfl fun K hK => ?_); (simp only [lo, ld, ↓aop, ↓aCall, hP, hG, Nat.reduceLT, ↓reduceIte, Nat.reduceEqDiff, Nat.reduceAdd, Nat.reduceMul, Nat.reduceLeDiff, reduceCtorEq, D.cs, D.plain, fillD, chop, List.replicate, altsV, tk_3, ze_3, sz_3, tk_9, ze_9, sz_9, tk_22, ze_22, sz_22]; repeat (with_reducible refine And.intro ?_ ?_; focus (first | decide | omega | (simp only [ln]; omega)))); try ((first | refine hK _ _ ?_ | refine hK _ ?_); clear hK K; simp only [lp])) | ((first | refine wi ?_ | refine wj ?_ | refine wk ?_ | refine wl ?_ | refine wm ?_ | refine wn ?_); simp only [lt, ↓reduceIte, Nat.reduceEqDiff]) | refine wo ?_)
  refine sat_loop_ent (fun n ts H => ∃ (i : Nat) (d : D) (L : List Ob), n = l.length - i ∧ i ≤ l.length ∧ Acc E 1 6 ((dropA (l.take i) p).map altV) d L ∧
    ts = fr 28 [(6, .v (.int .i64 i)), (5, d), (1, .v (.str p)), (0, .v (altsV l))] ∧ H = E.H0 ++ L) (l.length) (.weakFr ?_) ⟨0, _, [], rfl, Nat.zero_le _, Acc.start 1 6, rfl, (List.append_nil _).symm⟩ ?_
  · simp only [le, ↓reduceIte, Nat.reduceEqDiff, and_true]; repeat' (first | exact trivial | exact D.le_refl _ | exact D.le_any _ | with_reducible refine And.intro ?_ ?_)
  rintro n ts H ⟨i, d, L, rfl, hi, hA, rfl, rfl⟩
  repeat (first | refine wa ?_ | refine wb rfl ?_ | refine wc rfl rfl hM ?_ | refine wd rfl hM ?_ | ((first | refine we rfl fun K hK => ?_ | refine wf rfl rfl fun K hK => ?_ | refine wg rfl rfl fun K hK => ?_ | refine wh rfl fun K hK => ?_); (simp only [lo, ld, ↓aop, ↓aCall, hP, hG, Nat.reduceLT, ↓reduceIte, Nat.reduceEqDiff, Nat.reduceAdd, Nat.reduceMul, Nat.reduceLeDiff, reduceCtorEq, D.cs, D.plain, fillD, chop, List.replicate, altsV, tk_3, ze_3, sz_3, tk_9, ze_9, sz_9, tk_22, ze_22, sz_22]; repeat (with_reducible refine And.intro ?_ ?_; focus (first | decide | omega | (simp only [ln]; omega)))); try ((first | refine hK _ _ ?_ | refine hK _ ?_); clear hK K; simp only [lp])) | ((first | refine wi ?_ | refine wj ?_ | refine wk ?_ | refine wl ?_ | refine wm ?_ | refine wn ?_); simp only [lt, ↓reduceIte, Nat.reduceEqDiff]) | refine wo ?_)
  refine sat_cond rfl (fun hc => ?_) (fun hc => ?_)
  · simp at hc
    obtain ⟨x, hx⟩ : ∃ x, l[i]? = some x := ⟨_, List.getElem?_eq_getElem hc⟩
    have hw := wrap_succ (i := i) (by omega)
    repeat (first | refine wa ?_ | refine wb rfl ?_ | refine wc rfl rfl hM ?_ | refine wd rfl hM ?_ | ((first | refine we rfl fun K hK => ?_ | refine wf rfl rfl fun K hK => ?_ | refine wg rfl rfl fun K hK => ?_ | refine wh rfl fun K hK => ?_); (simp only [lo, ld, ↓aop, ↓aCall, hP, hG, Nat.reduceLT, ↓reduceIte, Nat.reduceEqDiff, Nat.reduceAdd, Nat.reduceMul, Nat.reduceLeDiff, reduceCtorEq, D.cs, D.plain, fillD, chop, List.replicate, altsV, altV, tk_3, ze_3, sz_3, tk_9, ze_9, sz_9, tk_22, ze_22, sz_22, tk_26, ze_26, sz_26, kn_26, hc, hx]; repeat (with_reducible refine And.intro ?_ ?_; focus (first | decide | omega | (simp only [ln]; omega)))); try ((first | refine hK _ _ ?_ | refine hK _ ?_); clear hK K; simp only [lp])) | ((first | refine wi ?_ | refine wj ?_ | refine wk ?_ | refine wl ?_ | refine wm ?_ | refine wn ?_); simp only [lt, ↓reduceIte, Nat.reduceEqDiff]) | refine wo ?_)
    have et : l.take (i + 1) = l.take i ++ [x] := take_snoc hx
    refine sat_cond rfl (fun hb => ?_) (fun hb => ?_)
    · have hlen : (dropA (l.take i) p).length ≤ i := Nat.le_trans (List.length_filter_le _ _) (by simp; omega)
      have e : (dropA (l.take (i + 1)) p).map altV = (dropA (l.take i) p).map altV ++ [altV x] := by
        rw [et, dropA, dropA, List.filter_append, List.map_append]
        simp at hb
        simp [hb]
      rcases hA with ⟨h0, rfl, rfl⟩ | ⟨ver, hv, rfl, rfl⟩
      · repeat (first | refine wa ?_ | refine wb rfl ?_ | refine wc rfl rfl hM ?_ | refine wd rfl hM ?_ | ((first | refine we rfl fun K hK => ?_ | refine wf rfl rfl fun K hK => ?_ | refine wg rfl rfl fun K hK => ?_ | refine wh rfl fun K hK => ?_); (simp only [lo, ld, ↓aop, ↓aCall, hP, hG, Nat.reduceLT, ↓reduceIte, Nat.reduceEqDiff, Nat.reduceAdd, Nat.reduceMul, Nat.reduceLeDiff, reduceCtorEq, D.cs, D.plain, fillD, chop, List.replicate, altsV, altV, tk_3, ze_3, sz_3, tk_9, ze_9, sz_9, tk_22, ze_22, sz_22, tk_26, ze_26, sz_26, kn_26, hc, hx, hw]; repeat (with_reducible refine And.intro ?_ ?_; focus (first | decide | omega | (simp only [ln]; omega)))); try ((first | refine hK _ _ ?_ | refine hK _ ?_); clear hK K; simp only [lp])) | ((first | refine wi ?_ | refine wj ?_ | refine wk ?_ | refine wl ?_ | refine wm ?_ | refine wn ?_); simp only [lt, ↓reduceIte, Nat.reduceEqDiff]) | refine wo ?_)
        refine ⟨l.length - (i + 1), _, _, by omega, ?_, i + 1, .own (E.H0.length + 1) 1 1, [.dead, .arr 1 6 [(altV x).map .v] 0], rfl, by omega, .inr ⟨1, Nat.le_refl _, by rw [e, h0]; rfl, by rw [e, h0]; rfl⟩, rfl, rfl⟩
        refine Ent.trip hE ?_ ?_ ?_ ?_
        · simp only [le, ↓reduceIte, Nat.reduceEqDiff, and_true]; repeat' (first | exact trivial | exact D.le_refl _ | exact D.le_any _ | with_reducible refine And.intro ?_ ?_)
        · simp [leObs_cons, leObs_nil, altV]
        · simp [ltAll, ltObs, Ob.lt, D.lt, D.ltL, or_imp, forall_and]
        · refine ⟨trivial, ?_, trivial⟩
          exact rowsA_lt _ _ [x]
      · repeat (first | refine wa ?_ | refine wb rfl ?_ | refine wc rfl rfl hM ?_ | refine wd rfl hM ?_ | ((first | refine we rfl fun K hK => ?_ | refine wf rfl rfl fun K hK => ?_ | refine wg rfl rfl fun K hK => ?_ | refine wh rfl fun K hK => ?_); (simp only [lo, ld, ↓aop, ↓aCall, hP, hG, Nat.reduceLT, ↓reduceIte, Nat.reduceEqDiff, Nat.reduceAdd, Nat.reduceMul, Nat.reduceLeDiff, reduceCtorEq, D.cs, D.plain, fillD, chop, List.replicate, altsV, altV, tk_3, ze_3, sz_3, tk_9, ze_9, sz_9, tk_22, ze_22, sz_22, tk_26, ze_26, sz_26, kn_26, hc, hx, hw]; repeat (with_reducible refine And.intro ?_ ?_; focus (first | decide | omega | (simp only [ln]; omega)))); try ((first | refine hK _ _ ?_ | refine hK _ ?_); clear hK K; simp only [lp])) | ((first | refine wi ?_ | refine wj ?_ | refine wk ?_ | refine wl ?_ | refine wm ?_ | refine wn ?_); simp only [lt, ↓reduceIte, Nat.reduceEqDiff]) | refine wo ?_)
        refine ⟨l.length - (i + 1), _, _, by omega, ?_, i + 1, .own (E.H0.length + 1) (ver + 1) ((dropA (l.take i) p).length + 1), [.dead, .arr (ver + 1) 6 (((dropA (l.take (i + 1)) p).map altV).map (·.map .v)) 0], rfl, by omega, .inr ⟨ver + 1, by omega, by rw [e]; simp, rfl⟩, rfl, rfl⟩
        refine Ent.trip hE ?_ ?_ ?_ ?_
        · simp only [le, ↓reduceIte, Nat.reduceEqDiff, and_true]; repeat' (first | exact trivial | exact D.le_refl _ | exact D.le_any _ | with_reducible refine And.intro ?_ ?_)
        · rw [e]; simp [leObs_cons, leObs_nil, altV]; exact List.take_of_length_le (by simp)
        · simp [ltAll, ltObs, Ob.lt, D.lt, D.ltL, or_imp, forall_and]
        · exact ⟨trivial, ltRows _ _, trivial⟩
    · repeat (first | refine wa ?_ | refine wb rfl ?_ | refine wc rfl rfl hM ?_ | refine wd rfl hM ?_ | ((first | refine we rfl fun K hK => ?_ | refine wf rfl rfl fun K hK => ?_ | refine wg rfl rfl fun K hK => ?_ | refine wh rfl fun K hK => ?_); (simp only [lo, ld, ↓aop, ↓aCall, hP, hG, Nat.reduceLT, ↓reduceIte, Nat.reduceEqDiff, Nat.reduceAdd, Nat.reduceMul, Nat.reduceLeDiff, reduceCtorEq, D.cs, D.plain, fillD, chop, List.replicate, hw, tk_3, ze_3, sz_3]; repeat (with_reducible refine And.intro ?_ ?_; focus (first | decide | omega | (simp only [ln]; omega)))); try ((first | refine hK _ _ ?_ | refine hK _ ?_); clear hK K; simp only [lp])) | ((first | refine wi ?_ | refine wj ?_ | refine wk ?_ | refine wl ?_ | refine wm ?_ | refine wn ?_); simp only [lt, ↓reduceIte, Nat.reduceEqDiff]) | refine wo ?_)
      have e : dropA (l.take (i + 1)) p = dropA (l.take i) p := by
        rw [et, dropA, dropA, List.filter_append]
        simp at hb
        simp [hb]
      refine ⟨l.length - (i + 1), _, _, by omega, .weakFr ?_, i + 1, d, L, rfl, by omega, by rw [e]; exact hA, rfl, rfl⟩
      simp only [le, ↓reduceIte, Nat.reduceEqDiff, and_true]; repeat' (first | exact trivial | exact D.le_refl _ | exact D.le_any _ | with_reducible refine And.intro ?_ ?_)
  · simp at hc
    repeat (first | refine wa ?_ | refine wb rfl ?_ | refine wc rfl rfl hM ?_ | refine wd rfl hM ?_ | ((first | refine we rfl fun K hK => ?_ | refine wf rfl rfl fun K hK => ?_ | refine wg rfl rfl fun K hK => ?_ | refine wh rfl fun K hK => ?_); (simp only [lo, ld, ↓aop, ↓aCall, hP, hG, Nat.reduceLT, ↓reduceIte, Nat.reduceEqDiff, Nat.reduceAdd, Nat.reduceMul, Nat.reduceLeDiff, reduceCtorEq, D.cs, D.plain, fillD, chop, List.replicate]; repeat (with_reducible refine And.intro ?_ ?_; focus (first | decide | omega | (simp only [ln]; omega)))); try ((first | refine hK _ _ ?_ | refine hK _ ?_); clear hK K; simp only [lp])) | ((first | refine wi ?_ | refine wj ?_ | refine wk ?_ | refine wl ?_ | refine wm ?_ | refine wn ?_); simp only [lt, ↓reduceIte, Nat.reduceEqDiff]) | refine wo ?_)
    have e : l.take i = l := List.take_of_length_le (by omega)
    rw [e] at hA
    exact Fin.acc d hA hE (by decide) rfl hK
end Go.Ag
namespace Go.Ag
open Go Go.Proofs
variable {G : Nat → Option (List V)}
attribute [local irreducible] aops qops Sat aop

def gtA (x y : Alt) : Bool := gtS y.name x.name
def rPutStep (l : List Alt) (x : Alt) (i : Nat) (y : Alt) (s : List Alt × Bool) : List Alt × Bool :=
  ((if !s.2 && gtA x y then s.1 ++ [x] else s.1) ++ [if (i : Int) == findA l x.name then x else y], s.2 || gtA x y)
def rPutN (l : List Alt) (x : Alt) : Nat → List Alt × Bool
  | 0 => ([], decide (findA l x.name ≥ 0))
  | i + 1 => match l[i]? with
    | some y => rPutStep l x i y (rPutN l x i)
    | none => rPutN l x i
def rPutR (l : List Alt) (x : Alt) : List Alt := if !(rPutN l x l.length).2 then (rPutN l x l.length).1 ++ [x] else (rPutN l x l.length).1
theorem rPut_len (l : List Alt) (x : Alt) : ∀ i, (rPutN l x i).1.length ≤ 2 * i
  | 0 => by simp [rPutN]
  | i + 1 => by
    have := rPut_len l x i
    unfold rPutN
    split
    · simp only [rPutStep, List.length_append, List.length_cons, List.length_nil]
      split <;> simp <;> omega
    · omega
theorem rowsA_take (l : List Alt) : (rowsA l).take l.length = rowsA l := List.take_of_length_le (by simp [rowsA])
/-- A gathered list behind a box. -/
def AccB (E : Env) (out : List Alt) (d : D) (L : List Ob) : Prop := (out = [] ∧ d = .nils ∧ L = []) ∨ ∃ ver, 1 ≤ ver ∧ out ≠ [] ∧ d = .own (E.H0.length + 2) ver out.length ∧ L = [.dead, .arr ver 6 (rowsA out) 0]

set_option maxRecDepth 20000 in
set_option maxHeartbeats 16000000 in
theorem spec_rPut (l : List Alt) (x : Alt) (hl : l.length ≤ 1000000) (H : List Ob) (K : D → List Ob → Prop) (hK : K (.v (altsV (rPutR l x))) H) : ACalls Tryz.prog G 12 [.v (altsV l), altd x] H K := by
  refine ACalls.go Tryz.f12 _ 58 [4] Tryz.func12 rfl Tryz.ntmps12 (by kernel_rfl) rfl (by simp) (fun E hE hP hG hH => ?_)
  have hM : E.P.follows .mixedOrders = true := hP ▸ mixed
  subst hH
  simp only [args0, altd]
  repeat (first | refine wa ?_ | refine wb rfl ?_ | refine wc rfl rfl hM ?_ | refine wd rfl hM ?_ | ((first | refine we rfl fun K hK => ?_ | refine wf rfl rfl fun K hK => ?_ | refine wg rfl rfl fun K hK => ?_ | refine wh rfl fun K hK => ?_); (simp only [lo, ld, ↓aop, ↓aCall, hP, hG, Nat.reduceLT, ↓reduceIte, Nat.reduceEqDiff, Nat.reduceAdd, Nat.reduceMul, Nat.reduceLeDiff, reduceCtorEq, D.cs, D.plain, fillD, chop, List.replicate, altB, altV, tk_3, ze_3, sz_3, tk_9, ze_9, sz_9, tk_22, ze_22, sz_22, tk_26, ze_26, sz_26, kn_26]; repeat (with_reducible refine And.intro ?_ ?_; focus (first | decide | omega | (simp only [ln]; omega)))); try ((first | refine hK _ _ ?_ | refine hK _ ?_); clear hK K; simp only [lp])) | ((first | refine wi ?_ | refine wj ?_ | refine wk ?_ | refine wl ?_ | refine wm ?_ | refine wn ?_); simp only [lt, ↓reduceIte, Nat.reduceEqDiff]) | refine wo ?_)
  refine spec_rFind l x.name (by omega) _ _ (hK _ _ ?_)
  clear hK K; simp only [lp]
  repeat (first | refine wa ?_ | refine wb rfl ?_ | refine wc rfl rfl hM ?_ | refine wd rfl hM ?_ | ((first | refine we rfl fun K hK => ?_ | refine wf rfl rfl fun K hK => ?_ | refine wg rfl rfl fun K hK => ?_ | refine wh rfl fun K hK => ?_); (simp only [lo, ld, ↓aop, ↓aCall, hP, hG, Nat.reduceLT, ↓reduceIte, Nat.reduceEqDiff, Nat.reduceAdd, Nat.reduceMul, Nat.reduceLeDiff, reduceCtorEq, D.cs, D.plain, fillD, chop, List.replicate, tk_3, ze_3, sz_3, tk_9, ze_9, sz_9, tk_22, ze_22, sz_22, tk_26, ze_26, sz_26, kn_26]; repeat (with_reducible refine And.intro ?_ ?_; focus (first | decide | omega | (simp only [ln]; omega)))); try ((first | refine hK _ _ ?_ | refine hK _ ?_); clear hK K; simp only [lp])) | ((first | refine wi ?_ | refine wj ?_ | refine wk ?_ | refine wl ?_ | refine wm ?_ | refine wn ?_); simp only [lt, ↓reduceIte, Nat.reduceEqDiff]) | refine wo ?_)
  refine sat_loop_ent (fun n ts H => ∃ (i : Nat) (d : D) (L : List Ob), n = l.length - i ∧ i ≤ l.length ∧ AccB E (rPutN l x i).1 d L ∧
    ts = fr 58 [(8, .v (.int .i64 i)), (7, .v (.bool (rPutN l x i).2)), (6, .v (.int .i64 (findA l x.name))), (5, d), (3, .ptr E.H0.length 0), (0, .v (altsV l))] ∧ H = E.H0 ++ (altB x :: L)) (l.length) (.weakFr ?_) ⟨0, .nils, [], rfl, Nat.zero_le _, .inl ⟨rfl, rfl, rfl⟩, rfl, rfl⟩ ?_
  · simp only [le, ↓reduceIte, Nat.reduceEqDiff, and_true]; repeat' (first | exact trivial | exact D.le_refl _ | exact D.le_any _ | with_reducible refine And.intro ?_ ?_)
  rintro n ts H ⟨i, d, L, rfl, hi, hA, rfl, rfl⟩
  have hlen := rPut_len l x i
  repeat (first | refine wa ?_ | refine wb rfl ?_ | refine wc rfl rfl hM ?_ | refine wd rfl hM ?_ | ((first | refine we rfl fun K hK => ?_ | refine wf rfl rfl fun K hK => ?_ | refine wg rfl rfl fun K hK => ?_ | refine wh rfl fun K hK => ?_); (simp only [lo, ld, ↓aop, ↓aCall, hP, hG, Nat.reduceLT, ↓reduceIte, Nat.reduceEqDiff, Nat.reduceAdd, Nat.reduceMul, Nat.reduceLeDiff, reduceCtorEq, D.cs, D.plain, fillD, chop, List.replicate, altsV, tk_3, ze_3, sz_3, tk_9, ze_9, sz_9, tk_22, ze_22, sz_22]; repeat (with_reducible refine And.intro ?_ ?_; focus (first | decide | omega | (simp only [ln]; omega)))); try ((first | refine hK _ _ ?_ | refine hK _ ?_); clear hK K; simp only [lp])) | ((first | refine wi ?_ | refine wj ?_ | refine wk ?_ | refine wl ?_ | refine wm ?_ | refine wn ?_); simp only [lt, ↓reduceIte, Nat.reduceEqDiff]) | refine wo ?_)
  refine sat_cond rfl (fun hc => ?_) (fun hc => ?_)
  · simp at hc
    obtain ⟨y, hy⟩ : ∃ y, l[i]? = some y := ⟨_, List.getElem?_eq_getElem hc⟩
    have hw := wrap_succ (i := i) (by omega)
    have hst : rPutN l x (i + 1) = rPutStep l x i y (rPutN l x i) := by rw [rPutN, hy]
    repeat (first | refine wa ?_ | refine wb rfl ?_ | refine wc rfl rfl hM ?_ | refine wd rfl hM ?_ | ((first | refine we rfl fun K hK => ?_ | refine wf rfl rfl fun K hK => ?_ | refine wg rfl rfl fun K hK => ?_ | refine wh rfl fun K hK => ?_); (simp only [lo, ld, ↓aop, ↓aCall, hP, hG, Nat.reduceLT, ↓reduceIte, Nat.reduceEqDiff, Nat.reduceAdd, Nat.reduceMul, Nat.reduceLeDiff, reduceCtorEq, D.cs, D.plain, fillD, chop, List.replicate]; repeat (with_reducible refine And.intro ?_ ?_; focus (first | decide | omega | (simp only [ln]; omega)))); try ((first | refine hK _ _ ?_ | refine hK _ ?_); clear hK K; simp only [lp])) | ((first | refine wi ?_ | refine wj ?_ | refine wk ?_ | refine wl ?_ | refine wm ?_ | refine wn ?_); simp only [lt, ↓reduceIte, Nat.reduceEqDiff]) | refine wo ?_)
    refine sat_thru (fr 58 [(32, .v (.bool (!(rPutN l x i).2 && gtA x y))), (8, .v (.int .i64 i)), (7, .v (.bool (rPutN l x i).2)), (6, .v (.int .i64 (findA l x.name))), (5, d), (3, .ptr E.H0.length 0), (0, .v (altsV l))]) (E.H0 ++ (altB x :: L)) ?_ ?_
    · (first | refine wr ?_ | refine wp rfl hM ?_ | refine wq hM ?_); repeat' (first | ((first | refine wx ?_ | refine wy ?_ | refine wz ?_); (simp only [lo, ld, ↓aop, ↓aCall, hP, hG, Nat.reduceLT, ↓reduceIte, Nat.reduceEqDiff, Nat.reduceAdd, Nat.reduceMul, Nat.reduceLeDiff, reduceCtorEq, D.cs, D.plain, fillD, chop, List.replicate, altB, altV, altsV, tk_3, ze_3, sz_3, tk_4, ze_4, sz_4, tk_9, ze_9, sz_9, tk_22, ze_22, sz_22, tk_26, ze_26, sz_26, kn_26, hc, hy]; repeat (with_reducible refine And.intro ?_ ?_; focus (first | decide | omega | (simp only [ln]; omega)))); try ((first | refine hK _ _ ?_ | refine hK _ ?_); clear hK K; simp only [lp])) | refine we rfl fun K hK => ?_ | refine wf rfl rfl fun K hK => ?_ | refine wg rfl rfl fun K hK => ?_ | refine wh rfl fun K hK => ?_ | ((first | refine Xg rfl rfl (by decide) ?_ fun K hK => ?_ | refine Yg rfl rfl (by decide) ?_ fun K hK => ?_ | refine Zg rfl rfl rfl (by decide) ?_ fun K hK => ?_); (focus (simp only [look_cons, ↓reduceIte, Nat.reduceEqDiff, Bool.not_true, Bool.not_false]; done))) | ((first | refine Xn rfl rfl (by decide) ?_ ?_ | refine Yn rfl rfl (by decide) ?_ ?_ | refine Zn rfl rfl rfl (by decide) ?_ ?_); (focus (simp only [look_cons, ↓reduceIte, Nat.reduceEqDiff, Bool.not_true, Bool.not_false]; done)); simp only [lp]) | ((first | refine Xo rfl rfl (by decide) ?_ ?_ | refine Yo rfl rfl (by decide) ?_ ?_ | refine Zo rfl rfl rfl (by decide) ?_ ?_); (focus (simp only [look_cons, ↓reduceIte, Nat.reduceEqDiff, Bool.not_true, Bool.not_false]; done)); simp only [lp]) | ((first | refine Xs rfl rfl (by decide) rfl (fun h K hK => ?_) fun h => ?_ | refine Ys rfl rfl (by decide) rfl (fun h K hK => ?_) fun h => ?_ | refine Zs rfl rfl rfl (by decide) rfl (fun h K hK => ?_) fun h => ?_); rotate_left; (focus (simp only [Bool.not_true, Bool.not_false, lp])); rotate_left) | ((first | refine wi ?_ | refine wj ?_ | refine wk ?_); simp only [lt, ↓reduceIte, Nat.reduceEqDiff]))
      all_goals refine .weakFr ?_
      all_goals simp only [le, ↓reduceIte, Nat.reduceEqDiff, and_true]; repeat' (first | exact trivial | exact D.le_refl _ | exact D.le_any _ | with_reducible refine And.intro ?_ ?_)
      all_goals clear hA
      all_goals refine D.le_eq (congrArg D.v (congrArg V.bool ?_)); (try simp only [Bool.not_eq_eq_eq_not, Bool.not_true, Bool.not_false] at *); simp only [*, List.getD_eq_getElem?_getD, Bool.and_true, Bool.true_and, Bool.and_false, Bool.false_and, Bool.or_true, Bool.true_or, Bool.or_false, Bool.false_or, Bool.not_true, Bool.not_false, Bool.not_not, gtA, gtS]
    generalize hs : rPutN l x i = s at *
    obtain ⟨out, put⟩ := s
    simp only at hlen hA hst ⊢
    refine sat_cond rfl (fun hb => ?_) (fun hb => ?_)
    · have hp : (put || gtA x y) = true := by revert hb; cases put <;> cases gtA x y <;> simp
      rcases hA with ⟨rfl, rfl, rfl⟩ | ⟨ver, hv, hne, rfl, rfl⟩
      · repeat (first | refine wa ?_ | refine wb rfl ?_ | refine wc rfl rfl hM ?_ | refine wd rfl hM ?_ | ((first | refine we rfl fun K hK => ?_ | refine wf rfl rfl fun K hK => ?_ | refine wg rfl rfl fun K hK => ?_ | refine wh rfl fun K hK => ?_); (simp only [lo, ld, ↓aop, ↓aCall, hP, hG, Nat.reduceLT, ↓reduceIte, Nat.reduceEqDiff, Nat.reduceAdd, Nat.reduceMul, Nat.reduceLeDiff, reduceCtorEq, D.cs, D.plain, fillD, chop, List.replicate, altB, altV, altsV, tk_3, ze_3, sz_3, tk_4, ze_4, sz_4, tk_9, ze_9, sz_9, tk_22, ze_22, sz_22, tk_26, ze_26, sz_26, kn_26, rowsA_len, rowsA_take]; repeat (with_reducible refine And.intro ?_ ?_; focus (first | decide | omega | (simp only [ln]; omega)))); try ((first | refine hK _ _ ?_ | refine hK _ ?_); clear hK K; simp only [lp])) | ((first | refine wi ?_ | refine wj ?_ | refine wk ?_ | refine wl ?_ | refine wm ?_ | refine wn ?_); simp only [lt, ↓reduceIte, Nat.reduceEqDiff]) | refine wo ?_)
        refine sat_cond rfl (fun he => ?_) (fun he => ?_)
        · repeat (first | refine wa ?_ | refine wb rfl ?_ | refine wc rfl rfl hM ?_ | refine wd rfl hM ?_ | ((first | refine we rfl fun K hK => ?_ | refine wf rfl rfl fun K hK => ?_ | refine wg rfl rfl fun K hK => ?_ | refine wh rfl fun K hK => ?_); (simp only [lo, ld, ↓aop, ↓aCall, hP, hG, Nat.reduceLT, ↓reduceIte, Nat.reduceEqDiff, Nat.reduceAdd, Nat.reduceMul, Nat.reduceLeDiff, reduceCtorEq, D.cs, D.plain, fillD, chop, List.replicate, altB, altV, altsV, tk_3, ze_3, sz_3, tk_4, ze_4, sz_4, tk_9, ze_9, sz_9, tk_22, ze_22, sz_22, tk_26, ze_26, sz_26, kn_26, rowsA_len, rowsA_take, hc, hy, hw]; repeat (with_reducible refine And.intro ?_ ?_; focus (first | decide | omega | (simp only [ln]; omega)))); try ((first | refine hK _ _ ?_ | refine hK _ ?_); clear hK K; simp only [lp])) | ((first | refine wi ?_ | refine wj ?_ | refine wk ?_ | refine wl ?_ | refine wm ?_ | refine wn ?_); simp only [lt, ↓reduceIte, Nat.reduceEqDiff]) | refine wo ?_)
          have e1 : rPutN l x (i + 1) = (([] : List Alt) ++ [x] ++ [x], put || gtA x y) := by rw [hst, rPutStep]; simp only [hb, he, if_true, if_false, Bool.false_eq_true]
          rw [hp] at e1
          refine ⟨l.length - (i + 1), _, _, by omega, ?_, i + 1, .own (E.H0.length + 2) 2 (([] : List Alt) ++ [x] ++ [x]).length, [.dead, .arr 2 6 (rowsA (([] : List Alt) ++ [x] ++ [x])) 0], rfl, by omega, .inr ⟨2, by omega, by rw [e1]; simp, by rw [e1], by rw [e1]⟩, by rw [e1], rfl⟩
          refine Ent.trip hE ?_ ?_ ?_ ?_
          · simp only [le, ↓reduceIte, Nat.reduceEqDiff, and_true]; repeat' (first | exact trivial | exact D.le_refl _ | exact D.le_any _ | with_reducible refine And.intro ?_ ?_)
            all_goals simp [D.le_refl]
          · simp [leObs_cons, leObs_nil, rowsA, altB, altV]
            try (rw [List.take_of_length_le (by simp)]; simp)
          · simp [ltAll, ltObs, Ob.lt, D.lt, D.ltL, or_imp, forall_and]
          · exact ⟨(altB_lt _ _).1, trivial, rowsA_lt _ _ _, trivial⟩
        · repeat (first | refine wa ?_ | refine wb rfl ?_ | refine wc rfl rfl hM ?_ | refine wd rfl hM ?_ | ((first | refine we rfl fun K hK => ?_ | refine wf rfl rfl fun K hK => ?_ | refine wg rfl rfl fun K hK => ?_ | refine wh rfl fun K hK => ?_); (simp only [lo, ld, ↓aop, ↓aCall, hP, hG, Nat.reduceLT, ↓reduceIte, Nat.reduceEqDiff, Nat.reduceAdd, Nat.reduceMul, Nat.reduceLeDiff, reduceCtorEq, D.cs, D.plain, fillD, chop, List.replicate, altB, altV, altsV, tk_3, ze_3, sz_3, tk_4, ze_4, sz_4, tk_9, ze_9, sz_9, tk_22, ze_22, sz_22, tk_26, ze_26, sz_26, kn_26, rowsA_len, rowsA_take, hc, hy, hw]; repeat (with_reducible refine And.intro ?_ ?_; focus (first | decide | omega | (simp only [ln]; omega)))); try ((first | refine hK _ _ ?_ | refine hK _ ?_); clear hK K; simp only [lp])) | ((first | refine wi ?_ | refine wj ?_ | refine wk ?_ | refine wl ?_ | refine wm ?_ | refine wn ?_); simp only [lt, ↓reduceIte, Nat.reduceEqDiff]) | refine wo ?_)
          have e1 : rPutN l x (i + 1) = (([] : List Alt) ++ [x] ++ [y], put || gtA x y) := by rw [hst, rPutStep]; simp only [hb, he, if_true, if_false, Bool.false_eq_true]
          rw [hp] at e1
          refine ⟨l.length - (i + 1), _, _, by omega, ?_, i + 1, .own (E.H0.length + 2) 2 (([] : List Alt) ++ [x] ++ [y]).length, [.dead, .arr 2 6 (rowsA (([] : List Alt) ++ [x] ++ [y])) 0], rfl, by omega, .inr ⟨2, by omega, by rw [e1]; simp, by rw [e1], by rw [e1]⟩, by rw [e1], rfl⟩
          refine Ent.trip hE ?_ ?_ ?_ ?_
          · simp only [le, ↓reduceIte, Nat.reduceEqDiff, and_true]; repeat' (first | exact trivial | exact D.le_refl _ | exact D.le_any _ | with_reducible refine And.intro ?_ ?_)
            all_goals simp [D.le_refl]
          · simp [leObs_cons, leObs_nil, rowsA, altB, altV]
            try (rw [List.take_of_length_le (by simp)]; simp)
          · simp [ltAll, ltObs, Ob.lt, D.lt, D.ltL, or_imp, forall_and]
          · exact ⟨(altB_lt _ _).1, trivial, rowsA_lt _ _ _, trivial⟩
      · repeat (first | refine wa ?_ | refine wb rfl ?_ | refine wc rfl rfl hM ?_ | refine wd rfl hM ?_ | ((first | refine we rfl fun K hK => ?_ | refine wf rfl rfl fun K hK => ?_ | refine wg rfl rfl fun K hK => ?_ | refine wh rfl fun K hK => ?_); (simp only [lo, ld, ↓aop, ↓aCall, hP, hG, Nat.reduceLT, ↓reduceIte, Nat.reduceEqDiff, Nat.reduceAdd, Nat.reduceMul, Nat.reduceLeDiff, reduceCtorEq, D.cs, D.plain, fillD, chop, List.replicate, altB, altV, altsV, tk_3, ze_3, sz_3, tk_4, ze_4, sz_4, tk_9, ze_9, sz_9, tk_22, ze_22, sz_22, tk_26, ze_26, sz_26, kn_26, rowsA_len, rowsA_take]; repeat (with_reducible refine And.intro ?_ ?_; focus (first | decide | omega | (simp only [ln]; omega)))); try ((first | refine hK _ _ ?_ | refine hK _ ?_); clear hK K; simp only [lp])) | ((first | refine wi ?_ | refine wj ?_ | refine wk ?_ | refine wl ?_ | refine wm ?_ | refine wn ?_); simp only [lt, ↓reduceIte, Nat.reduceEqDiff]) | refine wo ?_)
        refine sat_cond rfl (fun he => ?_) (fun he => ?_)
        · repeat (first | refine wa ?_ | refine wb rfl ?_ | refine wc rfl rfl hM ?_ | refine wd rfl hM ?_ | ((first | refine we rfl fun K hK => ?_ | refine wf rfl rfl fun K hK => ?_ | refine wg rfl rfl fun K hK => ?_ | refine wh rfl fun K hK => ?_); (simp only [lo, ld, ↓aop, ↓aCall, hP, hG, Nat.reduceLT, ↓reduceIte, Nat.reduceEqDiff, Nat.reduceAdd, Nat.reduceMul, Nat.reduceLeDiff, reduceCtorEq, D.cs, D.plain, fillD, chop, List.replicate, altB, altV, altsV, tk_3, ze_3, sz_3, tk_4, ze_4, sz_4, tk_9, ze_9, sz_9, tk_22, ze_22, sz_22, tk_26, ze_26, sz_26, kn_26, rowsA_len, rowsA_take, hc, hy, hw]; repeat (with_reducible refine And.intro ?_ ?_; focus (first | decide | omega | (simp only [ln]; omega)))); try ((first | refine hK _ _ ?_ | refine hK _ ?_); clear hK K; simp only [lp])) | ((first | refine wi ?_ | refine wj ?_ | refine wk ?_ | refine wl ?_ | refine wm ?_ | refine wn ?_); simp only [lt, ↓reduceIte, Nat.reduceEqDiff]) | refine wo ?_)
          have e1 : rPutN l x (i + 1) = (out ++ [x] ++ [x], put || gtA x y) := by rw [hst, rPutStep]; simp only [hb, he, if_true, if_false, Bool.false_eq_true]
          rw [hp] at e1
          refine ⟨l.length - (i + 1), _, _, by omega, ?_, i + 1, .own (E.H0.length + 2) (ver + 1 + 1) (out ++ [x] ++ [x]).length, [.dead, .arr (ver + 1 + 1) 6 (rowsA (out ++ [x] ++ [x])) 0], rfl, by omega, .inr ⟨(ver + 1 + 1), by omega, by rw [e1]; simp, by rw [e1], by rw [e1]⟩, by rw [e1], rfl⟩
          refine Ent.trip hE ?_ ?_ ?_ ?_
          · simp only [le, ↓reduceIte, Nat.reduceEqDiff, and_true]; repeat' (first | exact trivial | exact D.le_refl _ | exact D.le_any _ | with_reducible refine And.intro ?_ ?_)
            all_goals simp [D.le_refl]
          · simp [leObs_cons, leObs_nil, rowsA, altB, altV]
            try (rw [List.take_of_length_le (by simp)]; simp)
          · simp [ltAll, ltObs, Ob.lt, D.lt, D.ltL, or_imp, forall_and]
          · exact ⟨(altB_lt _ _).1, trivial, rowsA_lt _ _ _, trivial⟩
        · repeat (first | refine wa ?_ | refine wb rfl ?_ | refine wc rfl rfl hM ?_ | refine wd rfl hM ?_ | ((first | refine we rfl fun K hK => ?_ | refine wf rfl rfl fun K hK => ?_ | refine wg rfl rfl fun K hK => ?_ | refine wh rfl fun K hK => ?_); (simp only [lo, ld, ↓aop, ↓aCall, hP, hG, Nat.reduceLT, ↓reduceIte, Nat.reduceEqDiff, Nat.reduceAdd, Nat.reduceMul, Nat.reduceLeDiff, reduceCtorEq, D.cs, D.plain, fillD, chop, List.replicate, altB, altV, altsV, tk_3, ze_3, sz_3, tk_4, ze_4, sz_4, tk_9, ze_9, sz_9, tk_22, ze_22, sz_22, tk_26, ze_26, sz_26, kn_26, rowsA_len, rowsA_take, hc, hy, hw]; repeat (with_reducible refine And.intro ?_ ?_; focus (first | decide | omega | (simp only [ln]; omega)))); try ((first | refine hK _ _ ?_ | refine hK _ ?_); clear hK K; simp only [lp])) | ((first | refine wi ?_ | refine wj ?_ | refine wk ?_ | refine wl ?_ | refine wm ?_ | refine wn ?_); simp only [lt, ↓reduceIte, Nat.reduceEqDiff]) | refine wo ?_)
          have e1 : rPutN l x (i + 1) = (out ++ [x] ++ [y], put || gtA x y) := by rw [hst, rPutStep]; simp only [hb, he, if_true, if_false, Bool.false_eq_true]
          rw [hp] at e1
          refine ⟨l.length - (i + 1), _, _, by omega, ?_, i + 1, .own (E.H0.length + 2) (ver + 1 + 1) (out ++ [x] ++ [y]).length, [.dead, .arr (ver + 1 + 1) 6 (rowsA (out ++ [x] ++ [y])) 0], rfl, by omega, .inr ⟨(ver + 1 + 1), by omega, by rw [e1]; simp, by rw [e1], by rw [e1]⟩, by rw [e1], rfl⟩
          refine Ent.trip hE ?_ ?_ ?_ ?_
          · simp only [le, ↓reduceIte, Nat.reduceEqDiff, and_true]; repeat' (first | exact trivial | exact D.le_refl _ | exact D.le_any _ | with_reducible refine And.intro ?_ ?_)
            all_goals simp [D.le_refl]
          · simp [leObs_cons, leObs_nil, rowsA, altB, altV]
            try (rw [List.take_of_length_le (by simp)]; simp)
          · simp [ltAll, ltObs, Ob.lt, D.lt, D.ltL, or_imp, forall_and]
          · exact ⟨(altB_lt _ _).1, trivial, rowsA_lt _ _ _, trivial⟩
    · have hp : (put || gtA x y) = put := by revert hb; cases put <;> cases gtA x y <;> simp
      rcases hA with ⟨rfl, rfl, rfl⟩ | ⟨ver, hv, hne, rfl, rfl⟩
      · repeat (first | refine wa ?_ | refine wb rfl ?_ | refine wc rfl rfl hM ?_ | refine wd rfl hM ?_ | ((first | refine we rfl fun K hK => ?_ | refine wf rfl rfl fun K hK => ?_ | refine wg rfl rfl fun K hK => ?_ | refine wh rfl fun K hK => ?_); (simp only [lo, ld, ↓aop, ↓aCall, hP, hG, Nat.reduceLT, ↓reduceIte, Nat.reduceEqDiff, Nat.reduceAdd, Nat.reduceMul, Nat.reduceLeDiff, reduceCtorEq, D.cs, D.plain, fillD, chop, List.replicate, altB, altV, altsV, tk_3, ze_3, sz_3, tk_4, ze_4, sz_4, tk_9, ze_9, sz_9, tk_22, ze_22, sz_22, tk_26, ze_26, sz_26, kn_26, rowsA_len, rowsA_take]; repeat (with_reducible refine And.intro ?_ ?_; focus (first | decide | omega | (simp only [ln]; omega)))); try ((first | refine hK _ _ ?_ | refine hK _ ?_); clear hK K; simp only [lp])) | ((first | refine wi ?_ | refine wj ?_ | refine wk ?_ | refine wl ?_ | refine wm ?_ | refine wn ?_); simp only [lt, ↓reduceIte, Nat.reduceEqDiff]) | refine wo ?_)
        refine sat_cond rfl (fun he => ?_) (fun he => ?_)
        · repeat (first | refine wa ?_ | refine wb rfl ?_ | refine wc rfl rfl hM ?_ | refine wd rfl hM ?_ | ((first | refine we rfl fun K hK => ?_ | refine wf rfl rfl fun K hK => ?_ | refine wg rfl rfl fun K hK => ?_ | refine wh rfl fun K hK => ?_); (simp only [lo, ld, ↓aop, ↓aCall, hP, hG, Nat.reduceLT, ↓reduceIte, Nat.reduceEqDiff, Nat.reduceAdd, Nat.reduceMul, Nat.reduceLeDiff, reduceCtorEq, D.cs, D.plain, fillD, chop, List.replicate, altB, altV, altsV, tk_3, ze_3, sz_3, tk_4, ze_4, sz_4, tk_9, ze_9, sz_9, tk_22, ze_22, sz_22, tk_26, ze_26, sz_26, kn_26, rowsA_len, rowsA_take, hc, hy, hw]; repeat (with_reducible refine And.intro ?_ ?_; focus (first | decide | omega | (simp only [ln]; omega)))); try ((first | refine hK _ _ ?_ | refine hK _ ?_); clear hK K; simp only [lp])) | ((first | refine wi ?_ | refine wj ?_ | refine wk ?_ | refine wl ?_ | refine wm ?_ | refine wn ?_); simp only [lt, ↓reduceIte, Nat.reduceEqDiff]) | refine wo ?_)
          have e1 : rPutN l x (i + 1) = (([] : List Alt) ++ [x], put || gtA x y) := by rw [hst, rPutStep]; simp only [hb, he, if_true, if_false, Bool.false_eq_true]
          rw [hp] at e1
          refine ⟨l.length - (i + 1), _, _, by omega, ?_, i + 1, .own (E.H0.length + 2) 1 (([] : List Alt) ++ [x]).length, [.dead, .arr 1 6 (rowsA (([] : List Alt) ++ [x])) 0], rfl, by omega, .inr ⟨1, by omega, by rw [e1]; simp, by rw [e1], by rw [e1]⟩, by rw [e1], rfl⟩
          refine Ent.trip hE ?_ ?_ ?_ ?_
          · simp only [le, ↓reduceIte, Nat.reduceEqDiff, and_true]; repeat' (first | exact trivial | exact D.le_refl _ | exact D.le_any _ | with_reducible refine And.intro ?_ ?_)
            all_goals simp [D.le_refl]
          · simp [leObs_cons, leObs_nil, rowsA, altB, altV]
            try (rw [List.take_of_length_le (by simp)]; simp)
          · simp [ltAll, ltObs, Ob.lt, D.lt, D.ltL, or_imp, forall_and]
          · exact ⟨(altB_lt _ _).1, trivial, rowsA_lt _ _ _, trivial⟩
        · repeat (first | refine wa ?_ | refine wb rfl ?_ | refine wc rfl rfl hM ?_ | refine wd rfl hM ?_ | ((first | refine we rfl fun K hK => ?_ | refine wf rfl rfl fun K hK => ?_ | refine wg rfl rfl fun K hK => ?_ | refine wh rfl fun K hK => ?_); (simp only [lo, ld, ↓aop, ↓aCall, hP, hG, Nat.reduceLT, ↓reduceIte, Nat.reduceEqDiff, Nat.reduceAdd, Nat.reduceMul, Nat.reduceLeDiff, reduceCtorEq, D.cs, D.plain, fillD, chop, List.replicate, altB, altV, altsV, tk_3, ze_3, sz_3, tk_4, ze_4, sz_4, tk_9, ze_9, sz_9, tk_22, ze_22, sz_22, tk_26, ze_26, sz_26, kn_26, rowsA_len, rowsA_take, hc, hy, hw]; repeat (with_reducible refine And.intro ?_ ?_; focus (first | decide | omega | (simp only [ln]; omega)))); try ((first | refine hK _ _ ?_ | refine hK _ ?_); clear hK K; simp only [lp])) | ((first | refine wi ?_ | refine wj ?_ | refine wk ?_ | refine wl ?_ | refine wm ?_ | refine wn ?_); simp only [lt, ↓reduceIte, Nat.reduceEqDiff]) | refine wo ?_)
          have e1 : rPutN l x (i + 1) = (([] : List Alt) ++ [y], put || gtA x y) := by rw [hst, rPutStep]; simp only [hb, he, if_true, if_false, Bool.false_eq_true]
          rw [hp] at e1
          refine ⟨l.length - (i + 1), _, _, by omega, ?_, i + 1, .own (E.H0.length + 2) 1 (([] : List Alt) ++ [y]).length, [.dead, .arr 1 6 (rowsA (([] : List Alt) ++ [y])) 0], rfl, by omega, .inr ⟨1, by omega, by rw [e1]; simp, by rw [e1], by rw [e1]⟩, by rw [e1], rfl⟩
          refine Ent.trip hE ?_ ?_ ?_ ?_
          · simp only [le, ↓reduceIte, Nat.reduceEqDiff, and_true]; repeat' (first | exact trivial | exact D.le_refl _ | exact D.le_any _ | with_reducible refine And.intro ?_ ?_)
            all_goals simp [D.le_refl]
          · simp [leObs_cons, leObs_nil, rowsA, altB, altV]
            try (rw [List.take_of_length_le (by simp)]; simp)
          · simp [ltAll, ltObs, Ob.lt, D.lt, D.ltL, or_imp, forall_and]
          · exact ⟨(altB_lt _ _).1, trivial, rowsA_lt _ _ _, trivial⟩
      · repeat (first | refine wa ?_ | refine wb rfl ?_ | refine wc rfl rfl hM ?_ | refine wd rfl hM ?_ | ((first | refine we rfl fun K hK => ?_ | refine wf rfl rfl fun K hK => ?_ | refine wg rfl rfl fun K hK => ?_ | refine wh rfl fun K hK => ?_); (simp only [lo, ld, ↓aop, ↓aCall, hP, hG, Nat.reduceLT, ↓reduceIte, Nat.reduceEqDiff, Nat.reduceAdd, Nat.reduceMul, Nat.reduceLeDiff, reduceCtorEq, D.cs, D.plain, fillD, chop, List.replicate, altB, altV, altsV, tk_3, ze_3, sz_3, tk_4, ze_4, sz_4, tk_9, ze_9, sz_9, tk_22, ze_22, sz_22, tk_26, ze_26, sz_26, kn_26, rowsA_len, rowsA_take]; repeat (with_reducible refine And.intro ?_ ?_; focus (first | decide | omega | (simp only [ln]; omega)))); try ((first | refine hK _ _ ?_ | refine hK _ ?_); clear hK K; simp only [lp])) | ((first | refine wi ?_ | refine wj ?_ | refine wk ?_ | refine wl ?_ | refine wm ?_ | refine wn ?_); simp only [lt, ↓reduceIte, Nat.reduceEqDiff]) | refine wo ?_)
        refine sat_cond rfl (fun he => ?_) (fun he => ?_)
        · repeat (first | refine wa ?_ | refine wb rfl ?_ | refine wc rfl rfl hM ?_ | refine wd rfl hM ?_ | ((first | refine we rfl fun K hK => ?_ | refine wf rfl rfl fun K hK => ?_ | refine wg rfl rfl fun K hK => ?_ | refine wh rfl fun K hK => ?_); (simp only [lo, ld, ↓aop, ↓aCall, hP, hG, Nat.reduceLT, ↓reduceIte, Nat.reduceEqDiff, Nat.reduceAdd, Nat.reduceMul, Nat.reduceLeDiff, reduceCtorEq, D.cs, D.plain, fillD, chop, List.replicate, altB, altV, altsV, tk_3, ze_3, sz_3, tk_4, ze_4, sz_4, tk_9, ze_9, sz_9, tk_22, ze_22, sz_22, tk_26, ze_26, sz_26, kn_26, rowsA_len, rowsA_take, hc, hy, hw]; repeat (with_reducible refine And.intro ?_ ?_; focus (first | decide | omega | (simp only [ln]; omega)))); try ((first | refine hK _ _ ?_ | refine hK _ ?_); clear hK K; simp only [lp])) | ((first | refine wi ?_ | refine wj ?_ | refine wk ?_ | refine wl ?_ | refine wm ?_ | refine wn ?_); simp only [lt, ↓reduceIte, Nat.reduceEqDiff]) | refine wo ?_)
          have e1 : rPutN l x (i + 1) = (out ++ [x], put || gtA x y) := by rw [hst, rPutStep]; simp only [hb, he, if_true, if_false, Bool.false_eq_true]
          rw [hp] at e1
          refine ⟨l.length - (i + 1), _, _, by omega, ?_, i + 1, .own (E.H0.length + 2) (ver + 1) (out ++ [x]).length, [.dead, .arr (ver + 1) 6 (rowsA (out ++ [x])) 0], rfl, by omega, .inr ⟨(ver + 1), by omega, by rw [e1]; simp, by rw [e1], by rw [e1]⟩, by rw [e1], rfl⟩
          refine Ent.trip hE ?_ ?_ ?_ ?_
          · simp only [le, ↓reduceIte, Nat.reduceEqDiff, and_true]; repeat' (first | exact trivial | exact D.le_refl _ | exact D.le_any _ | with_reducible refine And.intro ?_ ?_)
            all_goals simp [D.le_refl]
          · simp [leObs_cons, leObs_nil, rowsA, altB, altV]
            try (rw [List.take_of_length_le (by simp)]; simp)
          · simp [ltAll, ltObs, Ob.lt, D.lt, D.ltL, or_imp, forall_and]
          · exact ⟨(altB_lt _ _).1, trivial, rowsA_lt _ _ _, trivial⟩
        · repeat (first | refine wa ?_ | refine wb rfl ?_ | refine wc rfl rfl hM ?_ | refine wd rfl hM ?_ | ((first | refine we rfl fun K hK => ?_ | refine wf rfl rfl fun K hK => ?_ | refine wg rfl rfl fun K hK => ?_ | refine wh rfl fun K hK => ?_); (simp only [lo, ld, ↓aop, ↓aCall, hP, hG, Nat.reduceLT, ↓reduceIte, Nat.reduceEqDiff, Nat.reduceAdd, Nat.reduceMul, Nat.reduceLeDiff, reduceCtorEq, D.cs, D.plain, fillD, chop, List.replicate, altB, altV, altsV, tk_3, ze_3, sz_3, tk_4, ze_4, sz_4, tk_9, ze_9, sz_9, tk_22, ze_22, sz_22, tk_26, ze_26, sz_26, kn_26, rowsA_len, rowsA_take, hc, hy, hw]; repeat (with_reducible refine And.intro ?_ ?_; focus (first | decide | omega | (simp only [ln]; omega)))); try ((first | refine hK _ _ ?_ | refine hK _ ?_); clear hK K; simp only [lp])) | ((first | refine wi ?_ | refine wj ?_ | refine wk ?_ | refine wl ?_ | refine wm ?_ | refine wn ?_); simp only [lt, ↓reduceIte, Nat.reduceEqDiff]) | refine wo ?_)
          have e1 : rPutN l x (i + 1) = (out ++ [y], put || gtA x y) := by rw [hst, rPutStep]; simp only [hb, he, if_true, if_false, Bool.false_eq_true]
          rw [hp] at e1
          refine ⟨l.length - (i + 1), _, _, by omega, ?_, i + 1, .own (E.H0.length + 2) (ver + 1) (out ++ [y]).length, [.dead, .arr (ver + 1) 6 (rowsA (out ++ [y])) 0], rfl, by omega, .inr ⟨(ver + 1), by omega, by rw [e1]; simp, by rw [e1], by rw [e1]⟩, by rw [e1], rfl⟩
          refine Ent.trip hE ?_ ?_ ?_ ?_
          · simp only [le, ↓reduceIte, Nat.reduceEqDiff, and_true]; repeat' (first | exact trivial | exact D.le_refl _ | exact D.le_any _ | with_reducible refine And.intro ?_ ?_)
            all_goals simp [D.le_refl]
          · simp [leObs_cons, leObs_nil, rowsA, altB, altV]
            try (rw [List.take_of_length_le (by simp)]; simp)
          · simp [ltAll, ltObs, Ob.lt, D.lt, D.ltL, or_imp, forall_and]
          · exact ⟨(altB_lt _ _).1, trivial, rowsA_lt _ _ _, trivial⟩
  · simp at hc
    obtain rfl : i = l.length := by omega
    have hR : rPutR l x = if !(rPutN l x l.length).2 then (rPutN l x l.length).1 ++ [x] else (rPutN l x l.length).1 := rfl
    generalize hs : rPutN l x l.length = s at *
    obtain ⟨out, put⟩ := s
    simp only at hlen hA hR ⊢
    rw [hR] at hK
    repeat (first | refine wa ?_ | refine wb rfl ?_ | refine wc rfl rfl hM ?_ | refine wd rfl hM ?_ | ((first | refine we rfl fun K hK => ?_ | refine wf rfl rfl fun K hK => ?_ | refine wg rfl rfl fun K hK => ?_ | refine wh rfl fun K hK => ?_); (simp only [lo, ld, ↓aop, ↓aCall, hP, hG, Nat.reduceLT, ↓reduceIte, Nat.reduceEqDiff, Nat.reduceAdd, Nat.reduceMul, Nat.reduceLeDiff, reduceCtorEq, D.cs, D.plain, fillD, chop, List.replicate, tk_3, ze_3, sz_3]; repeat (with_reducible refine And.intro ?_ ?_; focus (first | decide | omega | (simp only [ln]; omega)))); try ((first | refine hK _ _ ?_ | refine hK _ ?_); clear hK K; simp only [lp])) | ((first | refine wi ?_ | refine wj ?_ | refine wk ?_ | refine wl ?_ | refine wm ?_ | refine wn ?_); simp only [lt, ↓reduceIte, Nat.reduceEqDiff]) | refine wo ?_)
    refine sat_cond rfl (fun hb => ?_) (fun hb => ?_)
    · rw [if_pos hb] at hK
      rcases hA with ⟨rfl, rfl, rfl⟩ | ⟨ver, hv, hne, rfl, rfl⟩
      · repeat (first | refine wa ?_ | refine wb rfl ?_ | refine wc rfl rfl hM ?_ | refine wd rfl hM ?_ | ((first | refine we rfl fun K hK => ?_ | refine wf rfl rfl fun K hK => ?_ | refine wg rfl rfl fun K hK => ?_ | refine wh rfl fun K hK => ?_); (simp only [lo, ld, ↓aop, ↓aCall, hP, hG, Nat.reduceLT, ↓reduceIte, Nat.reduceEqDiff, Nat.reduceAdd, Nat.reduceMul, Nat.reduceLeDiff, reduceCtorEq, D.cs, D.plain, fillD, chop, List.replicate, altB, altV, altsV, tk_3, ze_3, sz_3, tk_4, ze_4, sz_4, tk_9, ze_9, sz_9, tk_22, ze_22, sz_22, tk_26, ze_26, sz_26, kn_26, rowsA_len, rowsA_take]; repeat (with_reducible refine And.intro ?_ ?_; focus (first | decide | omega | (simp only [ln]; omega)))); try ((first | refine hK _ _ ?_ | refine hK _ ?_); clear hK K; simp only [lp])) | ((first | refine wi ?_ | refine wj ?_ | refine wk ?_ | refine wl ?_ | refine wm ?_ | refine wn ?_); simp only [lt, ↓reduceIte, Nat.reduceEqDiff]) | refine wo ?_)
        exact Fin.pub 2 1 6 0 1 ([altV x]) hE (by decide) rfl rfl (by simp) (by simp) hK
      · repeat (first | refine wa ?_ | refine wb rfl ?_ | refine wc rfl rfl hM ?_ | refine wd rfl hM ?_ | ((first | refine we rfl fun K hK => ?_ | refine wf rfl rfl fun K hK => ?_ | refine wg rfl rfl fun K hK => ?_ | refine wh rfl fun K hK => ?_); (simp only [lo, ld, ↓aop, ↓aCall, hP, hG, Nat.reduceLT, ↓reduceIte, Nat.reduceEqDiff, Nat.reduceAdd, Nat.reduceMul, Nat.reduceLeDiff, reduceCtorEq, D.cs, D.plain, fillD, chop, List.replicate, altB, altV, altsV, tk_3, ze_3, sz_3, tk_4, ze_4, sz_4, tk_9, ze_9, sz_9, tk_22, ze_22, sz_22, tk_26, ze_26, sz_26, kn_26, rowsA_len, rowsA_take]; repeat (with_reducible refine And.intro ?_ ?_; focus (first | decide | omega | (simp only [ln]; omega)))); try ((first | refine hK _ _ ?_ | refine hK _ ?_); clear hK K; simp only [lp])) | ((first | refine wi ?_ | refine wj ?_ | refine wk ?_ | refine wl ?_ | refine wm ?_ | refine wn ?_); simp only [lt, ↓reduceIte, Nat.reduceEqDiff]) | refine wo ?_)
        refine Fin.pub 2 (ver + 1) 6 0 (out.length + 1) ((out ++ [x]).map altV) hE (by decide) rfl (by simp [rowsA, altV]) (by simp) (by simp) ?_
        rw [List.take_of_length_le (by simp)]
        exact hK
    · rw [if_neg (by simpa using hb)] at hK
      rcases hA with ⟨rfl, rfl, rfl⟩ | ⟨ver, hv, hne, rfl, rfl⟩
      · repeat (first | refine wa ?_ | refine wb rfl ?_ | refine wc rfl rfl hM ?_ | refine wd rfl hM ?_ | ((first | refine we rfl fun K hK => ?_ | refine wf rfl rfl fun K hK => ?_ | refine wg rfl rfl fun K hK => ?_ | refine wh rfl fun K hK => ?_); (simp only [lo, ld, ↓aop, ↓aCall, hP, hG, Nat.reduceLT, ↓reduceIte, Nat.reduceEqDiff, Nat.reduceAdd, Nat.reduceMul, Nat.reduceLeDiff, reduceCtorEq, D.cs, D.plain, fillD, chop, List.replicate, tk_3, ze_3, sz_3]; repeat (with_reducible refine And.intro ?_ ?_; focus (first | decide | omega | (simp only [ln]; omega)))); try ((first | refine hK _ _ ?_ | refine hK _ ?_); clear hK K; simp only [lp])) | ((first | refine wi ?_ | refine wj ?_ | refine wk ?_ | refine wl ?_ | refine wm ?_ | refine wn ?_); simp only [lt, ↓reduceIte, Nat.reduceEqDiff]) | refine wo ?_)
        exact Fin.gcle (.v (altsV [])) hE (by decide) (D.le_nils 6) (by simp only [D.lt]) hK
      · repeat (first | refine wa ?_ | refine wb rfl ?_ | refine wc rfl rfl hM ?_ | refine wd rfl hM ?_ | ((first | refine we rfl fun K hK => ?_ | refine wf rfl rfl fun K hK => ?_ | refine wg rfl rfl fun K hK => ?_ | refine wh rfl fun K hK => ?_); (simp only [lo, ld, ↓aop, ↓aCall, hP, hG, Nat.reduceLT, ↓reduceIte, Nat.reduceEqDiff, Nat.reduceAdd, Nat.reduceMul, Nat.reduceLeDiff, reduceCtorEq, D.cs, D.plain, fillD, chop, List.replicate, tk_3, ze_3, sz_3]; repeat (with_reducible refine And.intro ?_ ?_; focus (first | decide | omega | (simp only [ln]; omega)))); try ((first | refine hK _ _ ?_ | refine hK _ ?_); clear hK K; simp only [lp])) | ((first | refine wi ?_ | refine wj ?_ | refine wk ?_ | refine wl ?_ | refine wm ?_ | refine wn ?_); simp only [lt, ↓reduceIte, Nat.reduceEqDiff]) | refine wo ?_)
        refine Fin.pub 2 ver 6 0 out.length (out.map altV) hE (by decide) rfl (by simp [rowsA]) (by simp) (by simp) ?_
        rw [List.take_of_length_le (by simp)]
        exact hK
end Go.Ag
/- AGo, part 28: regions that draw their order, change the heap, and look into boxes. -/
namespace Go.Ag
open Go Go.RowKit

/-- A heap, with that box in it. -/
def putB (H : List Ob) (b : Nat) (cs : List D) : List Ob := (H ++ List.replicate (b + 1 - H.length) Ob.dead).set b (.box cs)
theorem putB_get (H : List Ob) (b : Nat) (cs : List D) : (putB H b cs)[b]? = some (.box cs) := by
  unfold putB
  rw [List.getElem?_set_self]
  simp; omega
theorem putB_ne (H : List Ob) {b c : Nat} (cs : List D) (h : b ≠ c) (hl : c < H.length) : (putB H b cs)[c]? = H[c]? := by
  unfold putB
  rw [List.getElem?_set_ne h, List.getElem?_append_left hl]
theorem putB_id {H : List Ob} {b : Nat} {cs : List D} (h : H[b]? = some (.box cs)) : putB H b cs = H := by
  have hl := (List.getElem?_eq_some_iff.1 h).1
  unfold putB
  rw [show b + 1 - H.length = 0 from by omega]
  simp only [List.replicate_zero, List.append_nil]
  apply List.ext_getElem?
  intro i
  by_cases e : i = b
  · subst e; rw [List.getElem?_set_self hl, h]
  · rw [List.getElem?_set_ne (fun x => e x.symm)]
/-- Two boxes. -/
def put2 (H : List Ob) (b : Nat) (cs : List D) (c : Nat) (ds : List D) : List Ob := putB (putB H b cs) c ds
theorem putB_len (H : List Ob) (b : Nat) (cs : List D) : b < (putB H b cs).length := by
  unfold putB; simp; omega
theorem put2_get1 (H : List Ob) {b c : Nat} (cs ds : List D) (h : c ≠ b) : (put2 H b cs c ds)[b]? = some (.box cs) := by
  unfold put2
  rw [putB_ne _ _ h (putB_len _ _ _), putB_get]
theorem put2_get2 (H : List Ob) (b c : Nat) (cs ds : List D) : (put2 H b cs c ds)[c]? = some (.box ds) := putB_get _ _ _
def boxS (b : Nat) (cs : List D) (H : List Ob) : Prop := H[b]? = some (.box cs)

section
variable {E : Env} {all : Array Oper} {os : List Oper} {ts : List D} {H : List Ob} {Q : List D → List Ob → Prop} {b : Nat} {cs : List D} {o : Oper}
theorem vb (b : Nat) (cs : List D) {Q : Exit → List D → List Ob → Prop} {id : Nat} {l : List Oper} (hm : E.P.follows .mixedOrders = true) (hS : H[b]? = some (.box cs))
    (h : hops E (boxS b cs) .any l.toArray l ts H fun ts' H' => Q .normal ts' H') (hB : mixB l = true := by kernel_rfl) : Sat E (.region id l.toArray true) ts H Q := sat_mixS _ hm hB hS h
theorem vk (h : Q ts H) : hops E (boxS b cs) .any all [] ts H Q := h
theorem vg (hv : heavyB o = false) (hg : o.guard = none)
    (h : ∀ K : D → Prop, (∀ d, hops E (boxS b cs) .any all os (putD ts o.dst d) H Q → K d) → Ex (fun d => ∀ H, aop E o ts (putB H b cs) fun d' H' => d' = d ∧ H' = putB H b cs) K) : hops E (boxS b cs) .any all (o :: os) ts H Q := by
  simp only [hops, hv, hg, Bool.false_eq_true, if_false]
  obtain ⟨d, h1, h2⟩ := h _ fun _ h => h
  refine ⟨d, fun H hS => ?_, h2⟩
  have := h1 H
  rwa [putB_id hS] at this
theorem vf (hv : heavyB o = true) (hg : o.guard = none) (h : ∀ K : D → List Ob → Prop, (∀ d H', H'[b]? = some (.box cs) → hops E (boxS b cs) .any all os (putD ts o.dst d) H' Q → K d H') → aop E o ts H K) : hops E (boxS b cs) .any all (o :: os) ts H Q := by
  simp only [hops, hv, hg, if_true]
  exact ⟨trivial, h _ fun _ _ h1 h2 => ⟨.inr h1, h2⟩⟩
theorem vl (hv : heavyB o = true) (hg : o.guard = none) (h : ∀ K : D → List Ob → Prop, (∀ d H', hops E (boxS b cs) .any all [] (putD ts o.dst d) H' Q → K d H') → aop E o ts H K) (hc : clo .any all o = true := by kernel_rfl) : hops E (boxS b cs) .any all [o] ts H Q := by
  simp only [hops, hv, hg, if_true]
  exact ⟨trivial, h _ fun _ _ h => ⟨.inl hc, h⟩⟩
theorem vx {ts : List D} {o : Oper} {K : D → Prop} {cs : List D} {b : Nat} (h : Ex (fun d => ∀ H, aop E o ts (putB H b cs) fun d' H' => d' = d ∧ H' = putB H b cs) K) : Ex (fun d => ∀ H, aop E o ts (putB H b cs) fun d' H' => d' = d ∧ H' = putB H b cs) K := h
end
section
variable {E : Env} {all : Array Oper} {os : List Oper} {ts : List D} {H : List Ob} {Q : List D → List Ob → Prop} {S : List Ob → Prop} {o : Oper}
/-! over any kind of heaps -/
theorem ub (S : List Ob → Prop) {Q : Exit → List D → List Ob → Prop} {id : Nat} {l : List Oper} (hm : E.P.follows .mixedOrders = true) (hS : S H)
    (h : hops E S .any l.toArray l ts H fun ts' H' => Q .normal ts' H') (hB : mixB l = true := by kernel_rfl) : Sat E (.region id l.toArray true) ts H Q := sat_mixS _ hm hB hS h
theorem uk (h : Q ts H) : hops E S .any all [] ts H Q := h
theorem ug (hv : heavyB o = false) (hg : o.guard = none)
    (h : ∀ K : D → Prop, (∀ d, hops E S .any all os (putD ts o.dst d) H Q → K d) → Ex (fun d => ∀ H, S H → aop E o ts H fun d' H' => d' = d ∧ H' = H) K) : hops E S .any all (o :: os) ts H Q := by
  simp only [hops, hv, hg, Bool.false_eq_true, if_false]
  obtain ⟨d, h1, h2⟩ := h _ fun _ h => h
  exact ⟨d, h1, h2⟩
theorem uf (hv : heavyB o = true) (hg : o.guard = none) (h : ∀ K : D → List Ob → Prop, (∀ d H', S H' → hops E S .any all os (putD ts o.dst d) H' Q → K d H') → aop E o ts H K) : hops E S .any all (o :: os) ts H Q := by
  simp only [hops, hv, hg, if_true]
  exact ⟨trivial, h _ fun _ _ h1 h2 => ⟨.inr h1, h2⟩⟩
theorem ul (hv : heavyB o = true) (hg : o.guard = none) (h : ∀ K : D → List Ob → Prop, (∀ d H', hops E S .any all [] (putD ts o.dst d) H' Q → K d H') → aop E o ts H K) (hc : clo .any all o = true := by kernel_rfl) : hops E S .any all [o] ts H Q := by
  simp only [hops, hv, hg, if_true]
  exact ⟨trivial, h _ fun _ _ h => ⟨.inl hc, h⟩⟩
end
end Go.Ag
/- AGo, part 33: what slices.Insert asks: how many rows fit, the entry for slices.overlaps. -/
namespace Go.Ag
open Go Go.RowKit

/-- slices.overlaps: two arrays of one's own lie apart. -/
theorem lib_overlaps {P : Program} {G : Nat → Option (List V)} {f : FuncId} {H : List Ob} {K : D → List Ob → Prop} (fn : Func) (tS tR : TypeId) {e : TypeId} {esz by_ : Nat} (hf : P.funcs[f]? = some fn) (hname : (fn.name == "runtime.NumGoroutine") = false)
    (hb : fn.body.isNone = true) (hn : Extern.findNext fn = none) (he : Extern.find fn = some (Extern.SlicesOverlaps.overlaps #[tS, tS] #[tR])) (htk : tk P tS = .sl e esz by_)
    {b2 v2 l2 z2 e2 b ver s0 s1 off len e1 : Nat} {cap : Option Nat} {xs2 xs : List (List D)} (h2 : H[b2]? = some (.arr v2 z2 xs2 e2)) (h1 : H[b]? = some (.arr ver s1 xs e1)) (hne : b2 ≠ b) (hlen : 0 < len) (hs1 : 0 < s1)
    (hK : K (.v (.bool false)) H) : ACalls P G f [.own b2 v2 l2, .sub b ver s0 off len cap] H K := by
  rintro E rfl e2 M μ w vs hr hv
  obtain ⟨i, hu, hi, hsz, hby⟩ := tk_sl htk
  simp only [RelL] at hv
  obtain ⟨y2, _, rfl, hy2, y1, _, rfl, hy1, rfl⟩ := hv
  right
  refine ⟨?_, ?_⟩
  · have h2 : fn.body = none := by simpa using hb
    simp [callB, hf, h2]
  simp only [Rel] at hy1 hy2
  obtain ⟨_, p2, hp2, _, _, hy2⟩ := hy2
  obtain ⟨_, p1, hp1, _, _, hy1⟩ := hy1
  obtain ⟨_, a2, _, _, a5, ws2, t2, a6, a7, _⟩ := hr.obj b2 _ p2 h2 hp2
  obtain ⟨_, c2, _, _, c5, ws1, t1, c6, c7, _⟩ := hr.obj b _ p1 h1 hp1
  obtain ⟨_, rfl⟩ := hy2 a2
  obtain ⟨_, hle, A, rfl, hA⟩ := hy1 c2
  rw [hA (by omega)]
  have hsep := hr.sep b2 b _ _ _ _ hne h2 h1 (by simp) (by simp) hp2 hp1
  have hpos : 0 < p1.cap * s1 := Nat.mul_pos (by omega) hs1
  refine ⟨.bool false, w, ?_, .bool false, .v (.bool false), M, μ, H, rfl, .refl _, .refl _, hr, by simp only [Rel, RelV], hK⟩
  rw [run_callFunc_extern hf hname hb hn he,
    Lib.run_overlaps_apart w tS tR e hu i.size (fun w => by simp [sizeOf, typeInfo, hi, Result.andThen]) ⟨p2.blk, 0, none⟩ ⟨p1.blk, off * s0, none⟩ l2 p2.cap len (p1.cap - off) hsep t2 t1 ws2.length ws1.length
      (by simp [World.shape?, a6]) (by simp [World.shape?, c6]) (by omega) (by simp [World.frozen?, a6]) (by simp [World.frozen?, a6])]
  rfl

theorem relL_any (M : Mem) (μ : Mu) : ∀ vs : List Value, RelL M μ (List.replicate vs.length .any) vs
  | [] => by simp [RelL]
  | v :: vs => by rw [List.length_cons, List.replicate_succ, RelL.cons_iff]; exact ⟨by simp only [Rel], relL_any M μ vs⟩

/-- How many rows fit into an array of one's own: some number. -/
theorem ACalls.cap {P : Program} {G : Nat → Option (List V)} {f : FuncId} {H : List Ob} {K : D → List Ob → Prop} {ds : List D} (b : Nat) {ver sz n esc : Nat} {xs : List (List D)} (hb : H[b]? = some (.arr ver sz xs esc))
    (h : ∀ c, xs.length ≤ c → ACalls P G f (.sub b ver sz 0 n (some c) :: ds) (H.set b (.arr ver sz (xs ++ List.replicate (c - xs.length) (List.replicate sz .any)) esc)) K) : ACalls P G f (.own b ver n :: ds) H K := by
  intro E e1 e2 M μ w vs hr hv
  simp only [RelL] at hv
  obtain ⟨y, ys, rfl, hy, hys⟩ := hv
  have hy' := hy
  simp only [Rel] at hy
  obtain ⟨hy0, p, hp, q1, q2, hy⟩ := hy
  obtain ⟨a1, a2, a3, a4, a5, ws, t, a6, a7, a8⟩ := hr.obj b _ p hb hp
  refine h p.cap a5 E e1 e2 M μ w (y :: ys) (hr.reOb hb (by simp) (fun q hq ho => ?_)) ?_
  · obtain rfl : p = q := by rw [hp] at hq; exact Option.some.inj hq
    refine ⟨a1, a2, a3, a4, by simp; omega, ws, t, a6, a7, fun i x hx => ?_⟩
    by_cases hi : i < xs.length
    · rw [List.getElem?_append_left hi] at hx; exact a8 i x hx
    · rw [List.getElem?_append_right (by omega)] at hx
      have hlt := (List.getElem?_eq_some_iff.1 hx).1
      rw [List.length_replicate] at hlt
      have := List.eq_of_mem_replicate (List.mem_of_getElem? hx)
      subst this
      have hl : ((ws.drop (i * sz)).take sz).length = sz := by
        have : (i + 1) * sz ≤ p.cap * sz := Nat.mul_le_mul_right _ (by omega)
        rw [Nat.add_mul] at this
        simp; omega
      refine ⟨by simp, ?_⟩
      have := relL_any M μ ((ws.drop (i * sz)).take sz)
      rwa [hl] at this
  · rw [RelL.cons_iff]
    refine ⟨?_, hys⟩
    simp only [Rel]
    refine ⟨hy0, p, hp, q1, q2, fun e => ?_⟩
    obtain ⟨g1, g2⟩ := hy e
    exact ⟨fun c hc => Option.some.inj hc, by omega, _, g2, fun _ => by rw [Nat.zero_mul]⟩

theorem D.le_own_sub (b ver sz len : Nat) : D.le (.own b ver len) (.sub b ver sz 0 len none) := by
  intro M μ y h
  simp only [Rel] at h ⊢
  obtain ⟨h0, p, hp, q1, q2, h⟩ := h
  refine ⟨h0, p, hp, q1, q2, fun e => ?_⟩
  obtain ⟨g1, g2⟩ := h e
  exact ⟨fun c hc => (by cases hc), by omega, _, g2, fun _ => by rw [Nat.zero_mul]⟩
theorem D.le_sub_own {b ver sz len : Nat} {cap : Option Nat} (hl : 0 < len) : D.le (.sub b ver sz 0 len cap) (.own b ver len) := by
  intro M μ y h
  simp only [Rel] at h ⊢
  obtain ⟨h0, p, hp, q1, q2, h⟩ := h
  refine ⟨h0, p, hp, q1, q2, fun e => ?_⟩
  obtain ⟨_, g1, A, g2, g3⟩ := h e
  have := g3 (by omega)
  subst this
  rw [Nat.zero_mul, Nat.sub_zero] at g2
  exact ⟨by omega, g2⟩

/-- One operation that leaves the heap, whatever the heap of that kind. -/
theorem u2 {E : Env} {all : Array Oper} {os : List Oper} {ts : List D} {H : List Ob} {Q : List D → List Ob → Prop} {S : List Ob → Prop} {o : Oper} {d : D} (hv : heavyB o = false) (hg : o.guard = none)
    (h : ∀ H, S H → ∀ K : D → List Ob → Prop, K d H → aop E o ts H K) (hk : hops E S .any all os (putD ts o.dst d) H Q) : hops E S .any all (o :: os) ts H Q :=
  ug hv hg fun K hK => ⟨d, fun H hS => h H hS _ ⟨rfl, rfl⟩, hK _ hk⟩
theorem aCopy_at {P : Program} {t e : TypeId} {esz by_ b ver off len esc : Nat} {cap : Option Nat} {x : D} {H : List Ob} {xs : List (List D)} {K : D → List Ob → Prop} (ht : tk P t = .sl e esz by_) (rows : List (List D)) (hs : aSrcS x H esz len fun r => r = rows) (hb : H[b]? = some (.arr ver esz xs esc)) (hesc : esc ≤ off) (hfit : off + rows.length ≤ xs.length)
    (hk : K (.v (.int .i64 (rows.length : Nat))) (H.set b (.arr ver esz (seg xs off rows) esc))) : aCopy P t (.sub b ver esz off len cap) x H K := by
  unfold aCopy
  simp only [ht]
  refine aSrcS_mono (fun r hr => ?_) hs
  subst hr
  rw [hb]
  exact ⟨trivial, rfl, rfl, hesc, hfit, hk⟩
theorem aSrcS_own {b ver len sz m esc : Nat} {H : List Ob} {xs : List (List D)} {K : List (List D) → Prop} (hb : H[b]? = some (.arr ver sz xs esc)) (hl : len ≤ xs.length) (hc : ((xs.take len).all (·.all D.cell)) = true) (hk : K ((xs.take len).take m)) : aSrcS (.own b ver len) H sz m K := by
  simp only [aSrcS, aSrc, hb]; exact ⟨trivial, trivial, hl, hc, hk⟩
theorem aSrcS_sub {b ver off len sz m esc : Nat} {cap : Option Nat} {H : List Ob} {xs : List (List D)} {K : List (List D) → Prop} (hb : H[b]? = some (.arr ver sz xs esc)) (hl : off + min len m ≤ xs.length) (hc : (((xs.drop off).take (min len m)).all (·.all D.cell)) = true) (hk : K ((xs.drop off).take (min len m))) : aSrcS (.sub b ver sz off len cap) H sz m K := by
  simp only [aSrcS, hb]; exact ⟨trivial, trivial, trivial, hl, hc, hk⟩
theorem seg_insA {Y R : List (List D)} {r : List D} {i : Nat} (h : i + 1 ≤ Y.length) : (seg (seg Y i [r]) (i + 1) R).take (i + 1 + R.length) = Y.take i ++ r :: R := by
  have e1 : (seg Y i [r]).take (i + 1) = Y.take i ++ [r] := by
    have hl : (Y.take i ++ [r]).length = i + 1 := by simp; omega
    rw [seg, ← hl, List.take_left]
  have hl : (Y.take i ++ [r] ++ R).length = i + 1 + R.length := by simp; omega
  rw [show seg (seg Y i [r]) (i + 1) R = (seg Y i [r]).take (i + 1) ++ R ++ (seg Y i [r]).drop (i + 1 + R.length) from rfl, e1, ← hl, List.take_left]
  simp
theorem seg_insB {Y R : List (List D)} {r : List D} {i : Nat} (h : i + 1 + R.length ≤ Y.length) : (seg (seg Y (i + 1) R) i [r]).take (i + 1 + R.length) = Y.take i ++ r :: R := by
  have hl1 : (Y.take (i + 1)).length = i + 1 := by simp; omega
  have e1 : (seg Y (i + 1) R).take i = Y.take i := by
    rw [seg, List.append_assoc, List.take_append_of_le_length (by omega), List.take_take]; congr 1; omega
  have e2 : (seg Y (i + 1) R).drop (i + 1) = R ++ Y.drop (i + 1 + R.length) := by
    rw [seg, List.append_assoc, List.drop_append_of_le_length (by omega), List.drop_of_length_le (by omega)]; rfl
  rw [show seg (seg Y (i + 1) R) i [r] = (seg Y (i + 1) R).take i ++ [r] ++ (seg Y (i + 1) R).drop (i + 1) from rfl, e1, e2]
  have hl : (Y.take i ++ [r] ++ R).length = i + 1 + R.length := by simp; omega
  rw [← List.append_assoc, ← hl, List.take_left]
  simp
end Go.Ag
namespace Go.Ag
open Go Go.Proofs
variable {G : Nat → Option (List V)}
attribute [local irreducible] aops qops Sat aop

theorem rowsA_all (l : List Alt) : ((rowsA l).all fun x => x.all D.cell) = true := by
  simp [rowsA, altV, D.cell]
theorem rowsA_app (l m : List Alt) : rowsA l ++ rowsA m = rowsA (l ++ m) := by simp [rowsA]
theorem rowsA_take1 (x : Alt) : (rowsA [x]).take 1 = rowsA [x] := rfl
theorem rowsA_len1 (x : Alt) : (rowsA [x]).length = 1 := rfl
def insA (l : List Alt) (i : Nat) (x : Alt) : List Alt := l.take i ++ x :: l.drop i
set_option maxRecDepth 20000 in
set_option maxHeartbeats 16000000 in
theorem spec_InsertNil (x : Alt) (b2 : Nat) (H : List Ob) (hb2 : H[b2]? = some (.arr 1 6 (rowsA [x]) 0)) (K : D → List Ob → Prop) (hK : ∀ H', H'.length ≥ H.length → (∀ j, j < H.length → H'[j]? = H[j]?) → K (.v (altsV [x])) H') : ACalls Tryz.prog G 32 [.nils, .v (.int .i64 0), .own b2 1 1] H K := by
  refine ACalls.go Tryz.f32 _ 95 [6] Tryz.func32 rfl Tryz.ntmps32 (by kernel_rfl) rfl (by simp) (fun E hE hP hG hH => ?_)
  have hM : E.P.follows .mixedOrders = true := hP ▸ mixed
  subst hH
  simp only [args0]
  repeat (first | refine wa ?_ | refine wb rfl ?_ | refine wc rfl rfl hM ?_ | refine wd rfl hM ?_ | ((first | refine we rfl fun K hK => ?_ | refine wf rfl rfl fun K hK => ?_ | refine wg rfl rfl fun K hK => ?_ | refine wh rfl fun K hK => ?_); (simp only [lo, ld, ↓aop, ↓aCall, hP, hG, Nat.reduceLT, ↓reduceIte, Nat.reduceEqDiff, Nat.reduceAdd, Nat.reduceMul, Nat.reduceLeDiff, reduceCtorEq, D.cs, D.plain, fillD, chop, List.replicate, tk_3, ze_3, sz_3, tk_9, ze_9, sz_9, tk_22, ze_22, sz_22, tk_26, ze_26, sz_26, kn_26, hb2, rowsA_len]; repeat (with_reducible refine And.intro ?_ ?_; focus (first | decide | omega | (simp only [ln]; omega)))); try ((first | refine hK _ _ ?_ | refine hK _ ?_); clear hK K; simp only [lp])) | ((first | refine wi ?_ | refine wj ?_ | refine wk ?_ | refine wl ?_ | refine wm ?_ | refine wn ?_); simp only [lt, ↓reduceIte, Nat.reduceEqDiff]) | refine wo ?_)
  refine sat_cond rfl (fun hc => ?_) (fun hc => ?_)
  · exact absurd hc (by decide)
  repeat (first | refine wa ?_ | refine wb rfl ?_ | refine wc rfl rfl hM ?_ | refine wd rfl hM ?_ | ((first | refine we rfl fun K hK => ?_ | refine wf rfl rfl fun K hK => ?_ | refine wg rfl rfl fun K hK => ?_ | refine wh rfl fun K hK => ?_); (simp only [lo, ld, ↓aop, ↓aCall, hP, hG, Nat.reduceLT, ↓reduceIte, Nat.reduceEqDiff, Nat.reduceAdd, Nat.reduceMul, Nat.reduceLeDiff, reduceCtorEq, D.cs, D.plain, fillD, chop, List.replicate, tk_3, ze_3, sz_3, tk_9, ze_9, sz_9, tk_22, ze_22, sz_22, tk_26, ze_26, sz_26, kn_26, hb2, rowsA_len]; repeat (with_reducible refine And.intro ?_ ?_; focus (first | decide | omega | (simp only [ln]; omega)))); try ((first | refine hK _ _ ?_ | refine hK _ ?_); clear hK K; simp only [lp])) | ((first | refine wi ?_ | refine wj ?_ | refine wk ?_ | refine wl ?_ | refine wm ?_ | refine wn ?_); simp only [lt, ↓reduceIte, Nat.reduceEqDiff]) | refine wo ?_)
  refine sat_cond rfl (fun hc => ?_) (fun hc => ?_)
  · repeat (first | refine wa ?_ | refine wb rfl ?_ | refine wc rfl rfl hM ?_ | refine wd rfl hM ?_ | ((first | refine we rfl fun K hK => ?_ | refine wf rfl rfl fun K hK => ?_ | refine wg rfl rfl fun K hK => ?_ | refine wh rfl fun K hK => ?_); (simp only [lo, ld, ↓aop, ↓aCall, hP, hG, Nat.reduceLT, ↓reduceIte, Nat.reduceEqDiff, Nat.reduceAdd, Nat.reduceMul, Nat.reduceLeDiff, reduceCtorEq, D.cs, D.plain, fillD, chop, List.replicate, tk_3, ze_3, sz_3, tk_9, ze_9, sz_9, tk_22, ze_22, sz_22, tk_26, ze_26, sz_26, kn_26, hb2, rowsA_len, rowsA, altV]; repeat (with_reducible refine And.intro ?_ ?_; focus (first | decide | omega | (simp only [ln]; omega)))); try ((first | refine hK _ _ ?_ | refine hK _ ?_); clear hK K; simp only [lp])) | ((first | refine wi ?_ | refine wj ?_ | refine wk ?_ | refine wl ?_ | refine wm ?_ | refine wn ?_); simp only [lt, ↓reduceIte, Nat.reduceEqDiff]) | refine wo ?_)
    refine Fin.pubAt E.H0.length 1 6 1 [altV x] (by decide) rfl (by rw [List.getElem?_append_right (Nat.le_refl _), Nat.sub_self]; rfl) rfl rfl ?_
    intro H' h1 h2
    exact hK H' (by rw [h1]; simp) (fun j hj => by rw [h2 j (by omega), List.getElem?_append_left hj])
  · exact absurd hc (by decide)
set_option maxRecDepth 20000 in
set_option maxHeartbeats 16000000 in
theorem spec_InsertEnd (l : List Alt) (b ver : Nat) (x : Alt) (b2 : Nat) (hl : l.length ≤ 1000000) (hne : b2 ≠ b) (H : List Ob) (hb : H[b]? = some (.arr ver 6 (rowsA l) 0)) (hb2 : H[b2]? = some (.arr 1 6 (rowsA [x]) 0)) (K : D → List Ob → Prop) (hK : ∀ H', H'.length ≥ H.length → (∀ j, j < H.length → j ≠ b → H'[j]? = H[j]?) → K (.v (altsV (l ++ [x]))) H') : ACalls Tryz.prog G 32 [.own b ver l.length, .v (.int .i64 l.length), .own b2 1 1] H K := by
  refine ACalls.go Tryz.f32 _ 95 [6] Tryz.func32 rfl Tryz.ntmps32 (by kernel_rfl) rfl (by simp) (fun E hE hP hG hH => ?_)
  have hM : E.P.follows .mixedOrders = true := hP ▸ mixed
  subst hH
  have hlt := (List.getElem?_eq_some_iff.1 hb).1
  simp only [args0]
  repeat (first | refine wa ?_ | refine wb rfl ?_ | refine wc rfl rfl hM ?_ | refine wd rfl hM ?_ | ((first | refine we rfl fun K hK => ?_ | refine wf rfl rfl fun K hK => ?_ | refine wg rfl rfl fun K hK => ?_ | refine wh rfl fun K hK => ?_); (simp only [lo, ld, ↓aop, ↓aCall, hP, hG, Nat.reduceLT, ↓reduceIte, Nat.reduceEqDiff, Nat.reduceAdd, Nat.reduceMul, Nat.reduceLeDiff, reduceCtorEq, D.cs, D.plain, fillD, chop, List.replicate, tk_3, ze_3, sz_3, tk_9, ze_9, sz_9, tk_22, ze_22, sz_22, tk_26, ze_26, sz_26, kn_26, hb, hb2, rowsA_len]; repeat (with_reducible refine And.intro ?_ ?_; focus (first | decide | omega | (simp only [ln]; omega)))); try ((first | refine hK _ _ ?_ | refine hK _ ?_); clear hK K; simp only [lp])) | ((first | refine wi ?_ | refine wj ?_ | refine wk ?_ | refine wl ?_ | refine wm ?_ | refine wn ?_); simp only [lt, ↓reduceIte, Nat.reduceEqDiff]) | refine wo ?_)
  refine sat_cond rfl (fun hc => ?_) (fun hc => ?_)
  · exact absurd hc (by decide)
  repeat (first | refine wa ?_ | refine wb rfl ?_ | refine wc rfl rfl hM ?_ | refine wd rfl hM ?_ | ((first | refine we rfl fun K hK => ?_ | refine wf rfl rfl fun K hK => ?_ | refine wg rfl rfl fun K hK => ?_ | refine wh rfl fun K hK => ?_); (simp only [lo, ld, ↓aop, ↓aCall, hP, hG, Nat.reduceLT, ↓reduceIte, Nat.reduceEqDiff, Nat.reduceAdd, Nat.reduceMul, Nat.reduceLeDiff, reduceCtorEq, D.cs, D.plain, fillD, chop, List.replicate, tk_3, ze_3, sz_3, tk_9, ze_9, sz_9, tk_22, ze_22, sz_22, tk_26, ze_26, sz_26, kn_26, hb, hb2, rowsA_len]; repeat (with_reducible refine And.intro ?_ ?_; focus (first | decide | omega | (simp only [ln]; omega)))); try ((first | refine hK _ _ ?_ | refine hK _ ?_); clear hK K; simp only [lp])) | ((first | refine wi ?_ | refine wj ?_ | refine wk ?_ | refine wl ?_ | refine wm ?_ | refine wn ?_); simp only [lt, ↓reduceIte, Nat.reduceEqDiff]) | refine wo ?_)
  refine sat_cond rfl (fun hc => ?_) (fun hc => ?_)
  · have hbl : (l.length + 1) * 104 ≤ 140737488355328 := by omega
    have hbm : l.length + 1 ≤ 9223372036854775807 := by omega
    repeat (first | refine wa ?_ | refine wb rfl ?_ | refine wc rfl rfl hM ?_ | refine wd rfl hM ?_ | ((first | refine we rfl fun K hK => ?_ | refine wf rfl rfl fun K hK => ?_ | refine wg rfl rfl fun K hK => ?_ | refine wh rfl fun K hK => ?_); (simp only [lo, ld, ↓aop, ↓aCall, hP, hG, Nat.reduceLT, ↓reduceIte, Nat.reduceEqDiff, Nat.reduceAdd, Nat.reduceMul, Nat.reduceLeDiff, reduceCtorEq, D.cs, D.plain, fillD, chop, List.replicate, tk_3, ze_3, sz_3, tk_9, ze_9, sz_9, tk_22, ze_22, sz_22, tk_26, ze_26, sz_26, kn_26, hb, hb2, rowsA_take1, rowsA_len1, rowsA_all, rowsA_take, hbl, hbm, rowsA_len, Nat.zero_le, Nat.le_refl]; repeat (with_reducible refine And.intro ?_ ?_; focus (first | decide | omega | (simp only [ln]; omega)))); try ((first | refine hK _ _ ?_ | refine hK _ ?_); clear hK K; simp only [lp])) | ((first | refine wi ?_ | refine wj ?_ | refine wk ?_ | refine wl ?_ | refine wm ?_ | refine wn ?_); simp only [lt, ↓reduceIte, Nat.reduceEqDiff]) | refine wo ?_)
    refine Fin.pubAt b (ver + 1) 6 (l.length + 1) ((l ++ [x]).map altV) (by decide) rfl (List.getElem?_set_self hlt) (by rw [rowsA_app, ← rowsA_v, List.take_of_length_le (by simp [rowsA])]) (by simp) ?_
    intro H' h1 h2
    exact hK H' (by rw [h1]; simp) (fun j hj hjb => by rw [h2 j hjb, List.getElem?_set_ne (Ne.symm hjb)])
  · simp at hc
set_option maxRecDepth 20000 in
set_option maxHeartbeats 16000000 in
theorem spec_InsertIn (l : List Alt) (b ver i : Nat) (x : Alt) (b2 : Nat) (hl : l.length ≤ 1000000) (hi : i < l.length) (hne : b2 ≠ b) (H : List Ob) (hb : H[b]? = some (.arr ver 6 (rowsA l) 0)) (hb2 : H[b2]? = some (.arr 1 6 (rowsA [x]) 0)) (K : D → List Ob → Prop) (hK : ∀ H', H'.length ≥ H.length → (∀ j, j < H.length → j ≠ b → H'[j]? = H[j]?) → K (.v (altsV (insA l i x))) H') : ACalls Tryz.prog G 32 [.own b ver l.length, .v (.int .i64 i), .own b2 1 1] H K := by
  have hlt := (List.getElem?_eq_some_iff.1 hb).1
  refine ACalls.cap b hb fun c hc => ?_
  rw [rowsA_len] at hc ⊢
  obtain ⟨X, hX⟩ : ∃ X, X = rowsA l ++ List.replicate (c - l.length) (List.replicate 6 .any) := ⟨_, rfl⟩
  rw [← hX]
  have hXl : X.length = c := by rw [hX]; simp [rowsA_len]; omega
  have hbX : (H.set b (.arr ver 6 X 0))[b]? = some (.arr ver 6 X 0) := List.getElem?_set_self hlt
  have hb2X : (H.set b (.arr ver 6 X 0))[b2]? = some (.arr 1 6 (rowsA [x]) 0) := by rw [List.getElem?_set_ne (Ne.symm hne)]; exact hb2
  have hKX : ∀ H', H'.length ≥ (H.set b (.arr ver 6 X 0)).length → (∀ j, j < (H.set b (.arr ver 6 X 0)).length → j ≠ b → H'[j]? = (H.set b (.arr ver 6 X 0))[j]?) → K (.v (altsV (insA l i x))) H' := fun H' h1 h2 =>
    hK H' (by simpa using h1) (fun j hj hjb => by rw [h2 j (by simpa using hj) hjb, List.getElem?_set_ne (Ne.symm hjb)])
  have hltX : b < (H.set b (.arr ver 6 X 0)).length := by simpa using hlt
  generalize H.set b (.arr ver 6 X 0) = HX at *
  clear hK hb hb2 hlt
  refine ACalls.go Tryz.f32 _ 95 [6] Tryz.func32 rfl Tryz.ntmps32 (by kernel_rfl) rfl (by simp) (fun E hE hP hG hH => ?_)
  have hM : E.P.follows .mixedOrders = true := hP ▸ mixed
  subst hH
  have hw1 : IntKind.i64.wrap ((l.length : Int) + ((1 : Nat) : Int)) = ((l.length + 1 : Nat) : Int) := by rw [IntKind.wrap_i64]; omega
  have hw2 : IntKind.i64.wrap ((i : Int) + ((1 : Nat) : Int)) = ((i + 1 : Nat) : Int) := by rw [IntKind.wrap_i64]; omega
  simp only [args0]
  repeat (first | refine wa ?_ | refine wb rfl ?_ | refine wc rfl rfl hM ?_ | refine wd rfl hM ?_ | ((first | refine we rfl fun K hK => ?_ | refine wf rfl rfl fun K hK => ?_ | refine wg rfl rfl fun K hK => ?_ | refine wh rfl fun K hK => ?_); (simp only [lo, ld, ↓aop, ↓aCall, hP, hG, Nat.reduceLT, ↓reduceIte, Nat.reduceEqDiff, Nat.reduceAdd, Nat.reduceMul, Nat.reduceLeDiff, reduceCtorEq, D.cs, D.plain, fillD, chop, List.replicate, tk_3, ze_3, sz_3, tk_9, ze_9, sz_9, tk_22, ze_22, sz_22, tk_26, ze_26, sz_26, kn_26, hbX, hb2X, rowsA_len]; repeat (with_reducible refine And.intro ?_ ?_; focus (first | decide | omega | (simp only [ln]; omega)))); try ((first | refine hK _ _ ?_ | refine hK _ ?_); clear hK K; simp only [lp])) | ((first | refine wi ?_ | refine wj ?_ | refine wk ?_ | refine wl ?_ | refine wm ?_ | refine wn ?_); simp only [lt, ↓reduceIte, Nat.reduceEqDiff]) | refine wo ?_)
  refine sat_cond rfl (fun hc0 => ?_) (fun hc0 => ?_)
  · exact absurd hc0 (by decide)
  repeat (first | refine wa ?_ | refine wb rfl ?_ | refine wc rfl rfl hM ?_ | refine wd rfl hM ?_ | ((first | refine we rfl fun K hK => ?_ | refine wf rfl rfl fun K hK => ?_ | refine wg rfl rfl fun K hK => ?_ | refine wh rfl fun K hK => ?_); (simp only [lo, ld, ↓aop, ↓aCall, hP, hG, Nat.reduceLT, ↓reduceIte, Nat.reduceEqDiff, Nat.reduceAdd, Nat.reduceMul, Nat.reduceLeDiff, reduceCtorEq, D.cs, D.plain, fillD, chop, List.replicate, tk_3, ze_3, sz_3, tk_9, ze_9, sz_9, tk_22, ze_22, sz_22, tk_26, ze_26, sz_26, kn_26, hbX, hb2X, rowsA_len]; repeat (with_reducible refine And.intro ?_ ?_; focus (first | decide | omega | (simp only [ln]; omega)))); try ((first | refine hK _ _ ?_ | refine hK _ ?_); clear hK K; simp only [lp])) | ((first | refine wi ?_ | refine wj ?_ | refine wk ?_ | refine wl ?_ | refine wm ?_ | refine wn ?_); simp only [lt, ↓reduceIte, Nat.reduceEqDiff]) | refine wo ?_)
  refine sat_cond rfl (fun hc1 => ?_) (fun hc1 => ?_)
  · simp at hc1; omega
  repeat (first | refine wa ?_ | refine wb rfl ?_ | refine wc rfl rfl hM ?_ | refine wd rfl hM ?_ | ((first | refine we rfl fun K hK => ?_ | refine wf rfl rfl fun K hK => ?_ | refine wg rfl rfl fun K hK => ?_ | refine wh rfl fun K hK => ?_); (simp only [lo, ld, ↓aop, ↓aCall, hP, hG, Nat.reduceLT, ↓reduceIte, Nat.reduceEqDiff, Nat.reduceAdd, Nat.reduceMul, Nat.reduceLeDiff, reduceCtorEq, D.cs, D.plain, fillD, chop, List.replicate, tk_3, ze_3, sz_3, tk_9, ze_9, sz_9, tk_22, ze_22, sz_22, tk_26, ze_26, sz_26, kn_26, hbX, hb2X, rowsA_len, hw1, aCap]; repeat (with_reducible refine And.intro ?_ ?_; focus (first | decide | omega | (simp only [ln]; omega)))); try ((first | refine hK _ _ ?_ | refine hK _ ?_); clear hK K; simp only [lp])) | ((first | refine wi ?_ | refine wj ?_ | refine wk ?_ | refine wl ?_ | refine wm ?_ | refine wn ?_); simp only [lt, ↓reduceIte, Nat.reduceEqDiff]) | refine wo ?_)
  have hXt : X.take i = rowsA (l.take i) := by
    rw [hX, List.take_append_of_le_length (by rw [rowsA_len]; omega)]; simp [rowsA, List.map_take]
  have hXd : (X.drop i).take (min (l.length - i) (l.length + 1 - (i + 1))) = rowsA (l.drop i) := by
    rw [hX, List.drop_append_of_le_length (by rw [rowsA_len]; omega), List.take_append_of_le_length (by simp [rowsA_len]), List.take_of_length_le (by simp [rowsA_len])]
    simp [rowsA, List.map_drop]
  have hXd2 : (X.drop i).take (min (l.length + 1 - i) (l.length + 1 - (i + 1))) = rowsA (l.drop i) := by
    rw [show min (l.length + 1 - i) (l.length + 1 - (i + 1)) = min (l.length - i) (l.length + 1 - (i + 1)) by omega]; exact hXd
  refine sat_cond rfl (fun hc2 => ?_) (fun hc2 => ?_)
  · simp at hc2
    have hcn : c = l.length := by omega
    have hw3 : IntKind.i64.wrap (((l.length + 1 : Nat) : Int) - (i : Int)) = ((l.length + 1 - i : Nat) : Int) := by rw [IntKind.wrap_i64]; omega
    have hbl : (i + (l.length + 1 - i)) * 104 ≤ 140737488355328 := by omega
    have hz : 0 < ((l.length + 1 - i : Nat) : Int) := by omega
    have hd0 : (X.take i ++ List.replicate (l.length + 1 - i) [D.v (V.str []), D.v (V.str []), D.v (V.bool false), D.v (V.str []), D.nils, D.nils]).length = l.length + 1 := by simp; omega
    refine sat_via (fr 95 [(9, .sub E.H0.length 1 6 0 (l.length + 1) none), (7, .v (.int .i64 (1 : Nat))), (2, .own b2 1 1), (1, .v (.int .i64 i)), (0, .sub b ver 6 0 l.length (some c))]) (E.H0 ++ [.arr 1 6 (X.take i ++ List.replicate (l.length + 1 - i) [D.v (V.str []), D.v (V.str []), D.v (V.bool false), D.v (V.str []), D.nils, D.nils]) 0]) ?_ ?_
    · repeat (first | refine wa ?_ | refine wb rfl ?_ | refine wc rfl rfl hM ?_ | refine wd rfl hM ?_ | ((first | refine we rfl fun K hK => ?_ | refine wf rfl rfl fun K hK => ?_ | refine wg rfl rfl fun K hK => ?_ | refine wh rfl fun K hK => ?_); (simp only [lo, ld, ↓aop, ↓aCall, hP, hG, Nat.reduceLT, ↓reduceIte, Nat.reduceEqDiff, Nat.reduceAdd, Nat.reduceMul, Nat.reduceLeDiff, reduceCtorEq, D.cs, D.plain, fillD, chop, List.replicate, tk_3, ze_3, sz_3, tk_9, ze_9, sz_9, tk_22, ze_22, sz_22, tk_26, ze_26, sz_26, kn_26, hbX, hb2X, rowsA_len, hw1, hw3, aAppendZ, Int.toNat_natCast, hbl, hz]; repeat (with_reducible refine And.intro ?_ ?_; focus (first | decide | omega | (simp only [ln]; omega)))); try ((first | refine hK _ _ ?_ | refine hK _ ?_); clear hK K; simp only [lp])) | ((first | refine wi ?_ | refine wj ?_ | refine wk ?_ | refine wl ?_ | refine wm ?_ | refine wn ?_); simp only [lt, ↓reduceIte, Nat.reduceEqDiff]) | refine wo ?_)
      rw [show i - Int.toNat 0 = i from rfl, show i + (l.length + 1 - i) = l.length + 1 by omega]
      refine .weakFr ?_
      simp only [le, ↓reduceIte, Nat.reduceEqDiff, and_true]; repeat' (first | exact trivial | exact D.le_refl _ | exact D.le_any _ | with_reducible refine And.intro ?_ ?_)
      exact D.le_own_sub _ _ _ _
    · repeat (first | refine wa ?_ | refine wb rfl ?_ | refine wc rfl rfl hM ?_ | refine wd rfl hM ?_ | ((first | refine we rfl fun K hK => ?_ | refine wf rfl rfl fun K hK => ?_ | refine wg rfl rfl fun K hK => ?_ | refine wh rfl fun K hK => ?_); (simp only [lo, ld, ↓aop, ↓aCall, hP, hG, Nat.reduceLT, ↓reduceIte, Nat.reduceEqDiff, Nat.reduceAdd, Nat.reduceMul, Nat.reduceLeDiff, reduceCtorEq, D.cs, D.plain, fillD, chop, List.replicate, tk_3, ze_3, sz_3, tk_9, ze_9, sz_9, tk_22, ze_22, sz_22, tk_26, ze_26, sz_26, kn_26, hbX, hb2X, rowsA_len, hw1]; repeat (with_reducible refine And.intro ?_ ?_; focus (first | decide | omega | (simp only [ln]; omega)))); try ((first | refine hK _ _ ?_ | refine hK _ ?_); clear hK K; simp only [lp])) | ((first | refine wi ?_ | refine wj ?_ | refine wk ?_ | refine wl ?_ | refine wm ?_ | refine wn ?_); simp only [lt, ↓reduceIte, Nat.reduceEqDiff]) | refine wo ?_)
      refine aCopy_at tk_22 (rowsA [x]) (aSrcS_own (hp_old hb2X) (Nat.le_refl 1) (rowsA_all [x]) ?_) (by rw [hp_get0]; rfl) (Nat.zero_le _) (by rw [hd0, rowsA_len1]; omega) (hK _ _ ?_)
      · rw [rowsA_take1, List.take_of_length_le (by rw [rowsA_len1]; omega)]
      clear hK K; simp only [lp]
      rw [hp_set0]
      repeat (first | ((first | refine wi ?_ | refine wj ?_ | refine wk ?_ | refine wl ?_ | refine wm ?_ | refine wn ?_); simp only [lt, ↓reduceIte, Nat.reduceEqDiff]) | refine wo ?_)
      refine wa ?_
      refine ub (fun H => ∃ xs1, H[b]? = some (.arr ver 6 xs1 0) ∧ ∃ xs2, H[E.H0.length]? = some (.arr 1 6 xs2 0)) hM ⟨_, hp_old hbX, _, by rw [hp_get0]; rfl⟩ ?_
      repeat (first | refine wa ?_ | (refine u2 (d := ?_) rfl rfl (fun H hS K hK => ?_) ?_; rotate_left; (focus (obtain ⟨xs1, h1, xs2, h2⟩ := hS; simp only [lo, ld, ↓aop, ↓aCall, hP, hG, Nat.reduceLT, ↓reduceIte, Nat.reduceEqDiff, Nat.reduceAdd, Nat.reduceMul, Nat.reduceLeDiff, reduceCtorEq, D.cs, D.plain, fillD, chop, List.replicate, tk_3, ze_3, sz_3, tk_9, ze_9, sz_9, tk_22, ze_22, sz_22, tk_26, ze_26, sz_26, kn_26, hw2, h1, h2]; (repeat (with_reducible refine And.intro ?_ ?_; focus (first | decide | omega | (simp only [ln]; omega)))); exact hK)); simp only [lp]) | (refine uk ?_; simp only [lt, ↓reduceIte, Nat.reduceEqDiff]))
      refine uf rfl rfl fun K hK => ?_
      simp only [lo, ld, ↓aop, ↓aCall, hP, hG, Nat.reduceLT, ↓reduceIte, Nat.reduceEqDiff, Nat.reduceAdd, Nat.reduceMul, Nat.reduceLeDiff, reduceCtorEq, D.cs, D.plain, fillD, chop, List.replicate]
      refine aCopy_at tk_22 (rowsA (l.drop i)) (aSrcS_sub (hp_old hbX) (by omega) ?_ ?_) (by rw [hp_get0]; rfl) (Nat.zero_le _) ?_ (hK _ _ ⟨_, by rw [hp_set0]; exact hp_old hbX, _, by rw [hp_set0, hp_get0]; rfl⟩ ?_)
      · rw [hXd]; exact rowsA_all _
      · rw [hXd]
      · rw [seg_len (by rw [hd0, rowsA_len1]; omega), hd0, rowsA_len, List.length_drop]; omega
      clear hK K; simp only [lp]
      rw [hp_set0]
      repeat (first | refine wa ?_ | refine wb rfl ?_ | refine wc rfl rfl hM ?_ | refine wd rfl hM ?_ | ((first | refine we rfl fun K hK => ?_ | refine wf rfl rfl fun K hK => ?_ | refine wg rfl rfl fun K hK => ?_ | refine wh rfl fun K hK => ?_); (simp only [lo, ld, ↓aop, ↓aCall, hP, hG, Nat.reduceLT, ↓reduceIte, Nat.reduceEqDiff, Nat.reduceAdd, Nat.reduceMul, Nat.reduceLeDiff, reduceCtorEq, D.cs, D.plain, fillD, chop, List.replicate, tk_3, ze_3, sz_3, tk_9, ze_9, sz_9, tk_22, ze_22, sz_22, tk_26, ze_26, sz_26, kn_26]; repeat (with_reducible refine And.intro ?_ ?_; focus (first | decide | omega | (simp only [ln]; omega)))); try ((first | refine hK _ _ ?_ | refine hK _ ?_); clear hK K; simp only [lp])) | ((first | refine wi ?_ | refine wj ?_ | refine wk ?_ | refine wl ?_ | refine wm ?_ | refine wn ?_); simp only [lt, ↓reduceIte, Nat.reduceEqDiff]) | refine wo ?_)
      refine Fin.ent (Ent.weakFr (l' := [(6, .own E.H0.length 1 (l.length + 1))]) ⟨D.le_sub_own (by omega), trivial⟩) (Fin.pubAt E.H0.length 1 6 (l.length + 1) ((insA l i x).map altV) (by decide) rfl (by rw [hp_get0]; rfl) ?_ (by simp [insA]; omega) ?_)
      · have h3 := seg_insA (Y := X.take i ++ List.replicate (l.length + 1 - i) [D.v (V.str []), D.v (V.str []), D.v (V.bool false), D.v (V.str []), D.nils, D.nils]) (R := rowsA (l.drop i)) (r := (altV x).map .v) (i := i) (by omega)
        rw [rowsA_len, List.length_drop, show i + 1 + (l.length - i) = l.length + 1 by omega] at h3
        rw [← rowsA_v]
        refine h3.trans ?_
        rw [List.take_append_of_le_length (by simp; omega), List.take_take, Nat.min_self, hXt]
        simp [insA, rowsA]
      · intro H' h1 h2
        exact hKX H' (by rw [h1]; simp) (fun j hj hjb => by rw [h2 j (by omega), List.getElem?_append_left hj])
  · simp at hc2
    repeat (first | refine wa ?_ | refine wb rfl ?_ | refine wc rfl rfl hM ?_ | refine wd rfl hM ?_ | ((first | refine we rfl fun K hK => ?_ | refine wf rfl rfl fun K hK => ?_ | refine wg rfl rfl fun K hK => ?_ | refine wh rfl fun K hK => ?_); (simp only [lo, ld, ↓aop, ↓aCall, hP, hG, Nat.reduceLT, ↓reduceIte, Nat.reduceEqDiff, Nat.reduceAdd, Nat.reduceMul, Nat.reduceLeDiff, reduceCtorEq, D.cs, D.plain, fillD, chop, List.replicate, tk_3, ze_3, sz_3, tk_9, ze_9, sz_9, tk_22, ze_22, sz_22, tk_26, ze_26, sz_26, kn_26, hbX, hb2X, rowsA_len, hw1, hw2, Option.getD_some]; repeat (with_reducible refine And.intro ?_ ?_; focus (first | decide | omega | (simp only [ln]; omega)))); try ((first | refine hK _ _ ?_ | refine hK _ ?_); clear hK K; simp only [lp])) | ((first | refine wi ?_ | refine wj ?_ | refine wk ?_ | refine wl ?_ | refine wm ?_ | refine wn ?_); simp only [lt, ↓reduceIte, Nat.reduceEqDiff]) | refine wo ?_)
    refine lib_overlaps Tryz.f61 22 4 Tryz.func61 (by kernel_rfl) (by kernel_rfl) (by kernel_rfl) (by kernel_rfl) tk_22 hb2X hbX hne (by rw [show Int.toNat 0 = 0 from rfl]; omega) (by decide) (hK _ _ ?_)
    clear hK K; simp only [lp]
    rw [show Int.toNat 0 = 0 from rfl]
    repeat (first | refine wa ?_ | refine wb rfl ?_ | refine wc rfl rfl hM ?_ | refine wd rfl hM ?_ | ((first | refine we rfl fun K hK => ?_ | refine wf rfl rfl fun K hK => ?_ | refine wg rfl rfl fun K hK => ?_ | refine wh rfl fun K hK => ?_); (simp only [lo, ld, ↓aop, ↓aCall, hP, hG, Nat.reduceLT, ↓reduceIte, Nat.reduceEqDiff, Nat.reduceAdd, Nat.reduceMul, Nat.reduceLeDiff, reduceCtorEq, D.cs, D.plain, fillD, chop, List.replicate, tk_3, ze_3, sz_3, tk_9, ze_9, sz_9, tk_22, ze_22, sz_22, tk_26, ze_26, sz_26, kn_26, hbX, hb2X, rowsA_len]; repeat (with_reducible refine And.intro ?_ ?_; focus (first | decide | omega | (simp only [ln]; omega)))); try ((first | refine hK _ _ ?_ | refine hK _ ?_); clear hK K; simp only [lp])) | ((first | refine wi ?_ | refine wj ?_ | refine wk ?_ | refine wl ?_ | refine wm ?_ | refine wn ?_); simp only [lt, ↓reduceIte, Nat.reduceEqDiff]) | refine wo ?_)
    refine sat_cond rfl (fun hc3 => ?_) (fun hc3 => ?_)
    · repeat (first | ((first | refine wi ?_ | refine wj ?_ | refine wk ?_ | refine wl ?_ | refine wm ?_ | refine wn ?_); simp only [lt, ↓reduceIte, Nat.reduceEqDiff]) | refine wo ?_)
      refine wa ?_
      refine ub (fun H => ∃ xs1, H[b]? = some (.arr ver 6 xs1 0) ∧ ∃ xs2, H[b2]? = some (.arr 1 6 xs2 0)) hM ⟨_, hbX, _, hb2X⟩ ?_
      repeat (first | refine wa ?_ | (refine u2 (d := ?_) rfl rfl (fun H hS K hK => ?_) ?_; rotate_left; (focus (obtain ⟨xs1, h1, xs2, h2⟩ := hS; simp only [lo, ld, ↓aop, ↓aCall, hP, hG, Nat.reduceLT, ↓reduceIte, Nat.reduceEqDiff, Nat.reduceAdd, Nat.reduceMul, Nat.reduceLeDiff, reduceCtorEq, D.cs, D.plain, fillD, chop, List.replicate, tk_3, ze_3, sz_3, tk_9, ze_9, sz_9, tk_22, ze_22, sz_22, tk_26, ze_26, sz_26, kn_26, hw2, h1, h2]; (repeat (with_reducible refine And.intro ?_ ?_; focus (first | decide | omega | (simp only [ln]; omega)))); exact hK)); simp only [lp]) | (refine uk ?_; simp only [lt, ↓reduceIte, Nat.reduceEqDiff]))
      refine uf rfl rfl fun K hK => ?_
      simp only [lo, ld, ↓aop, ↓aCall, hP, hG, Nat.reduceLT, ↓reduceIte, Nat.reduceEqDiff, Nat.reduceAdd, Nat.reduceMul, Nat.reduceLeDiff, reduceCtorEq, D.cs, D.plain, fillD, chop, List.replicate]
      refine aCopy_at tk_22 (rowsA (l.drop i)) (aSrcS_sub hbX (by omega) ?_ ?_) hbX (Nat.zero_le _) ?_ (hK _ _ ⟨_, List.getElem?_set_self hltX, _, by rw [List.getElem?_set_ne (Ne.symm hne)]; exact hb2X⟩ ?_)
      · rw [Nat.sub_zero, hXd2]; exact rowsA_all _
      · exact hXd2
      · rw [rowsA_len, List.length_drop, hXl]; omega
      clear hK K; simp only [lp]
      have hb3 : (E.H0.set b (Ob.arr ver 6 (seg X (i + 1) (rowsA (l.drop i))) 0))[b]? = some (.arr ver 6 (seg X (i + 1) (rowsA (l.drop i))) 0) := List.getElem?_set_self hltX
      have hb4 : (E.H0.set b (Ob.arr ver 6 (seg X (i + 1) (rowsA (l.drop i))) 0))[b2]? = some (.arr 1 6 (rowsA [x]) 0) := by rw [List.getElem?_set_ne (Ne.symm hne)]; exact hb2X
      have hsl : (seg X (i + 1) (rowsA (l.drop i))).length = c := by rw [seg_len (by rw [rowsA_len, List.length_drop, hXl]; omega), hXl]
      repeat (first | refine wa ?_ | refine wb rfl ?_ | refine wc rfl rfl hM ?_ | refine wd rfl hM ?_ | ((first | refine we rfl fun K hK => ?_ | refine wf rfl rfl fun K hK => ?_ | refine wg rfl rfl fun K hK => ?_ | refine wh rfl fun K hK => ?_); (simp only [lo, ld, ↓aop, ↓aCall, hP, hG, Nat.reduceLT, ↓reduceIte, Nat.reduceEqDiff, Nat.reduceAdd, Nat.reduceMul, Nat.reduceLeDiff, reduceCtorEq, D.cs, D.plain, fillD, chop, List.replicate, tk_3, ze_3, sz_3, tk_9, ze_9, sz_9, tk_22, ze_22, sz_22, tk_26, ze_26, sz_26, kn_26, hb3, hb4, rowsA_len]; repeat (with_reducible refine And.intro ?_ ?_; focus (first | decide | omega | (simp only [ln]; omega)))); try ((first | refine hK _ _ ?_ | refine hK _ ?_); clear hK K; simp only [lp])) | ((first | refine wi ?_ | refine wj ?_ | refine wk ?_ | refine wl ?_ | refine wm ?_ | refine wn ?_); simp only [lt, ↓reduceIte, Nat.reduceEqDiff]) | refine wo ?_)
      refine aCopy_at tk_22 (rowsA [x]) (aSrcS_own hb4 (Nat.le_refl 1) (rowsA_all [x]) ?_) hb3 (Nat.zero_le _) (by rw [hsl, rowsA_len1]; omega) (hK _ _ ?_)
      · rw [rowsA_take1, List.take_of_length_le (by rw [rowsA_len1]; omega)]
      clear hK K; simp only [lp]
      repeat (first | refine wa ?_ | refine wb rfl ?_ | refine wc rfl rfl hM ?_ | refine wd rfl hM ?_ | ((first | refine we rfl fun K hK => ?_ | refine wf rfl rfl fun K hK => ?_ | refine wg rfl rfl fun K hK => ?_ | refine wh rfl fun K hK => ?_); (simp only [lo, ld, ↓aop, ↓aCall, hP, hG, Nat.reduceLT, ↓reduceIte, Nat.reduceEqDiff, Nat.reduceAdd, Nat.reduceMul, Nat.reduceLeDiff, reduceCtorEq, D.cs, D.plain, fillD, chop, List.replicate, tk_3, ze_3, sz_3, tk_9, ze_9, sz_9, tk_22, ze_22, sz_22, tk_26, ze_26, sz_26, kn_26]; repeat (with_reducible refine And.intro ?_ ?_; focus (first | decide | omega | (simp only [ln]; omega)))); try ((first | refine hK _ _ ?_ | refine hK _ ?_); clear hK K; simp only [lp])) | ((first | refine wi ?_ | refine wj ?_ | refine wk ?_ | refine wl ?_ | refine wm ?_ | refine wn ?_); simp only [lt, ↓reduceIte, Nat.reduceEqDiff]) | refine wo ?_)
      refine Fin.ent (Ent.weakFr (l' := [(6, .own b ver (l.length + 1))]) ⟨D.le_sub_own (by omega), trivial⟩) (Fin.pubAt b ver 6 (l.length + 1) ((insA l i x).map altV) (by decide) rfl (by rw [List.set_set]; exact List.getElem?_set_self hltX) ?_ (by simp [insA]; omega) ?_)
      · have h3 := seg_insB (Y := X) (R := rowsA (l.drop i)) (r := (altV x).map .v) (i := i) (by rw [rowsA_len, List.length_drop]; omega)
        rw [rowsA_len, List.length_drop, show i + 1 + (l.length - i) = l.length + 1 by omega] at h3
        rw [← rowsA_v]
        refine h3.trans ?_
        rw [hXt]
        simp [insA, rowsA]
      · intro H' h1 h2
        exact hKX H' (by rw [h1]; simp) (fun j hj hjb => by rw [h2 j hjb, List.set_set, List.getElem?_set_ne (Ne.symm hjb)])
    · exact absurd hc3 (by decide)
end Go.Ag
namespace Go.Ag
open Go Go.Proofs
variable {G : Nat → Option (List V)}
attribute [local irreducible] aops qops Sat aop

def atA (l : List Alt) (x : Alt) : Nat := match l.findIdx? (gtA x) with | some i => i | none => l.length
def putA (l : List Alt) (x : Alt) : List Alt := match l.findIdx? (fun y => y.name == x.name) with
  | some i => l.set i x
  | none => insA l (atA l x) x
theorem atA_le (l : List Alt) (x : Alt) : atA l x ≤ l.length := by
  unfold atA
  split
  · rename_i i h; exact Nat.le_of_lt (idx_split h).1
  · exact Nat.le_refl _
theorem atA_none {l : List Alt} {x : Alt} (h : idxA l (gtA x) < 0) : atA l x = l.length := by
  unfold idxA at h
  unfold atA
  split at h
  · omega
  · rename_i h0; rw [h0]
theorem atA_some {l : List Alt} {x : Alt} (h : ¬ idxA l (gtA x) < 0) : idxA l (gtA x) = (atA l x : Int) ∧ atA l x < l.length := by
  unfold idxA at h ⊢
  unfold atA
  split at h
  · rename_i i h0; rw [h0]; exact ⟨rfl, (idx_split h0).1⟩
  · omega
/-- Insert, wherever. -/
theorem spec_Insert (l : List Alt) (b ver i : Nat) (x : Alt) (b2 : Nat) (hl : l.length ≤ 1000000) (hi : i ≤ l.length) (hne : b2 ≠ b) (H : List Ob) (hb : H[b]? = some (.arr ver 6 (rowsA l) 0)) (hb2 : H[b2]? = some (.arr 1 6 (rowsA [x]) 0)) (K : D → List Ob → Prop) (hK : ∀ H', H'.length ≥ H.length → (∀ j, j < H.length → j ≠ b → H'[j]? = H[j]?) → K (.v (altsV (insA l i x))) H') : ACalls Tryz.prog G 32 [.own b ver l.length, .v (.int .i64 i), .own b2 1 1] H K := by
  by_cases h : i = l.length
  · subst h
    refine spec_InsertEnd l b ver x b2 hl hne H hb hb2 K ?_
    rw [show l ++ [x] = insA l l.length x by simp [insA]]
    exact hK
  · exact spec_InsertIn l b ver i x b2 hl (by omega) hne H hb hb2 K hK
set_option maxRecDepth 20000 in
set_option maxHeartbeats 16000000 in
theorem spec_Put (l : List Alt) (x : Alt) (hl : l.length ≤ 1000000) (H : List Ob) (K : D → List Ob → Prop) (hK : K (.v (altsV (putA l x))) H) : ACalls Tryz.prog G 9 [.v (altsV l), altd x] H K := by
  refine ACalls.go Tryz.f9 _ 33 [4] Tryz.func9 rfl Tryz.ntmps9 (by kernel_rfl) rfl (by simp) (fun E hE hP hG hH => ?_)
  have hM : E.P.follows .mixedOrders = true := hP ▸ mixed
  subst hH
  simp only [args0, altd]
  repeat (first | refine wa ?_ | refine wb rfl ?_ | refine wc rfl rfl hM ?_ | refine wd rfl hM ?_ | ((first | refine we rfl fun K hK => ?_ | refine wf rfl rfl fun K hK => ?_ | refine wg rfl rfl fun K hK => ?_ | refine wh rfl fun K hK => ?_); (simp only [lo, ld, ↓aop, ↓aCall, hP, hG, Nat.reduceLT, ↓reduceIte, Nat.reduceEqDiff, Nat.reduceAdd, Nat.reduceMul, Nat.reduceLeDiff, reduceCtorEq, D.cs, D.plain, fillD, chop, List.replicate, altB, altV, tk_3, ze_3, sz_3, tk_9, ze_9, sz_9, tk_22, ze_22, sz_22, tk_26, ze_26, sz_26, kn_26]; repeat (with_reducible refine And.intro ?_ ?_; focus (first | decide | omega | (simp only [ln]; omega)))); try ((first | refine hK _ _ ?_ | refine hK _ ?_); clear hK K; simp only [lp])) | ((first | refine wi ?_ | refine wj ?_ | refine wk ?_ | refine wl ?_ | refine wm ?_ | refine wn ?_); simp only [lt, ↓reduceIte, Nat.reduceEqDiff]) | refine wo ?_)
  refine spec_CloneA l hl _ _ (fun d L hd => hK _ _ ?_)
  clear hK K; simp only [lp]
  rcases hd with ⟨rfl, rfl, rfl⟩ | ⟨ver, hv, rfl, rfl⟩
  · rw [List.append_nil]
    repeat (first | refine wa ?_ | refine wb rfl ?_ | refine wc rfl rfl hM ?_ | refine wd rfl hM ?_ | ((first | refine we rfl fun K hK => ?_ | refine wf rfl rfl fun K hK => ?_ | refine wg rfl rfl fun K hK => ?_ | refine wh rfl fun K hK => ?_); (simp only [lo, ld, ↓aop, ↓aCall, hP, hG, Nat.reduceLT, ↓reduceIte, Nat.reduceEqDiff, Nat.reduceAdd, Nat.reduceMul, Nat.reduceLeDiff, reduceCtorEq, D.cs, D.plain, fillD, chop, List.replicate, tk_3, ze_3, sz_3, tk_9, ze_9, sz_9, tk_22, ze_22, sz_22, tk_26, ze_26, sz_26, kn_26]; repeat (with_reducible refine And.intro ?_ ?_; focus (first | decide | omega | (simp only [ln]; omega)))); try ((first | refine hK _ _ ?_ | refine hK _ ?_); clear hK K; simp only [lp])) | ((first | refine wi ?_ | refine wj ?_ | refine wk ?_ | refine wl ?_ | refine wm ?_ | refine wn ?_); simp only [lt, ↓reduceIte, Nat.reduceEqDiff]) | refine wo ?_)
    refine spec_Find [] x.name (by decide) _ _ (hK _ _ ?_)
    clear hK K; simp only [lp]
    repeat (first | refine wa ?_ | refine wb rfl ?_ | refine wc rfl rfl hM ?_ | refine wd rfl hM ?_ | ((first | refine we rfl fun K hK => ?_ | refine wf rfl rfl fun K hK => ?_ | refine wg rfl rfl fun K hK => ?_ | refine wh rfl fun K hK => ?_); (simp only [lo, ld, ↓aop, ↓aCall, hP, hG, Nat.reduceLT, ↓reduceIte, Nat.reduceEqDiff, Nat.reduceAdd, Nat.reduceMul, Nat.reduceLeDiff, reduceCtorEq, D.cs, D.plain, fillD, chop, List.replicate, tk_3, ze_3, sz_3, tk_9, ze_9, sz_9, tk_22, ze_22, sz_22, tk_26, ze_26, sz_26, kn_26]; repeat (with_reducible refine And.intro ?_ ?_; focus (first | decide | omega | (simp only [ln]; omega)))); try ((first | refine hK _ _ ?_ | refine hK _ ?_); clear hK K; simp only [lp])) | ((first | refine wi ?_ | refine wj ?_ | refine wk ?_ | refine wl ?_ | refine wm ?_ | refine wn ?_); simp only [lt, ↓reduceIte, Nat.reduceEqDiff]) | refine wo ?_)
    refine sat_cond rfl (fun hc => ?_) (fun hc => ?_)
    · exact absurd hc (by simp [findA, idxA])
    repeat (first | refine wa ?_ | refine wb rfl ?_ | refine wc rfl rfl hM ?_ | refine wd rfl hM ?_ | ((first | refine we rfl fun K hK => ?_ | refine wf rfl rfl fun K hK => ?_ | refine wg rfl rfl fun K hK => ?_ | refine wh rfl fun K hK => ?_); (simp only [lo, ld, ↓aop, ↓aCall, hP, hG, Nat.reduceLT, ↓reduceIte, Nat.reduceEqDiff, Nat.reduceAdd, Nat.reduceMul, Nat.reduceLeDiff, reduceCtorEq, D.cs, D.plain, fillD, chop, List.replicate, tk_3, ze_3, sz_3, tk_9, ze_9, sz_9, tk_22, ze_22, sz_22, tk_26, ze_26, sz_26, kn_26]; repeat (with_reducible refine And.intro ?_ ?_; focus (first | decide | omega | (simp only [ln]; omega)))); try ((first | refine hK _ _ ?_ | refine hK _ ?_); clear hK K; simp only [lp])) | ((first | refine wi ?_ | refine wj ?_ | refine wk ?_ | refine wl ?_ | refine wm ?_ | refine wn ?_); simp only [lt, ↓reduceIte, Nat.reduceEqDiff]) | refine wo ?_)
    refine spec_IndexFuncA [] 31 _ (gtA x) (by decide) _ (fun c hc => by cases hc) _ (hK _ _ ?_)
    clear hK K; simp only [lp]
    repeat (first | refine wa ?_ | refine wb rfl ?_ | refine wc rfl rfl hM ?_ | refine wd rfl hM ?_ | ((first | refine we rfl fun K hK => ?_ | refine wf rfl rfl fun K hK => ?_ | refine wg rfl rfl fun K hK => ?_ | refine wh rfl fun K hK => ?_); (simp only [lo, ld, ↓aop, ↓aCall, hP, hG, Nat.reduceLT, ↓reduceIte, Nat.reduceEqDiff, Nat.reduceAdd, Nat.reduceMul, Nat.reduceLeDiff, reduceCtorEq, D.cs, D.plain, fillD, chop, List.replicate, tk_3, ze_3, sz_3, tk_9, ze_9, sz_9, tk_22, ze_22, sz_22, tk_26, ze_26, sz_26, kn_26]; repeat (with_reducible refine And.intro ?_ ?_; focus (first | decide | omega | (simp only [ln]; omega)))); try ((first | refine hK _ _ ?_ | refine hK _ ?_); clear hK K; simp only [lp])) | ((first | refine wi ?_ | refine wj ?_ | refine wk ?_ | refine wl ?_ | refine wm ?_ | refine wn ?_); simp only [lt, ↓reduceIte, Nat.reduceEqDiff]) | refine wo ?_)
    refine sat_cond rfl (fun hc => ?_) (fun hc => ?_)
    · repeat (first | refine wa ?_ | refine wb rfl ?_ | refine wc rfl rfl hM ?_ | refine wd rfl hM ?_ | ((first | refine we rfl fun K hK => ?_ | refine wf rfl rfl fun K hK => ?_ | refine wg rfl rfl fun K hK => ?_ | refine wh rfl fun K hK => ?_); (simp only [lo, ld, ↓aop, ↓aCall, hP, hG, Nat.reduceLT, ↓reduceIte, Nat.reduceEqDiff, Nat.reduceAdd, Nat.reduceMul, Nat.reduceLeDiff, reduceCtorEq, D.cs, D.plain, fillD, chop, List.replicate, altsV, tk_3, ze_3, sz_3, tk_9, ze_9, sz_9, tk_22, ze_22, sz_22, tk_26, ze_26, sz_26, kn_26]; repeat (with_reducible refine And.intro ?_ ?_; focus (first | decide | omega | (simp only [ln]; omega)))); try ((first | refine hK _ _ ?_ | refine hK _ ?_); clear hK K; simp only [lp])) | ((first | refine wi ?_ | refine wj ?_ | refine wk ?_ | refine wl ?_ | refine wm ?_ | refine wn ?_); simp only [lt, ↓reduceIte, Nat.reduceEqDiff]) | refine wo ?_)
      refine spec_InsertNil x (E.H0.length + 1) _ (by rw [hp_get]; rfl) _ (fun H' h1 h2 => hK _ _ ?_)
      clear hK K; simp only [lp]
      repeat (first | refine wa ?_ | refine wb rfl ?_ | refine wc rfl rfl hM ?_ | refine wd rfl hM ?_ | ((first | refine we rfl fun K hK => ?_ | refine wf rfl rfl fun K hK => ?_ | refine wg rfl rfl fun K hK => ?_ | refine wh rfl fun K hK => ?_); (simp only [lo, ld, ↓aop, ↓aCall, hP, hG, Nat.reduceLT, ↓reduceIte, Nat.reduceEqDiff, Nat.reduceAdd, Nat.reduceMul, Nat.reduceLeDiff, reduceCtorEq, D.cs, D.plain, fillD, chop, List.replicate, tk_3, ze_3, sz_3, tk_9, ze_9, sz_9, tk_22, ze_22, sz_22, tk_26, ze_26, sz_26, kn_26]; repeat (with_reducible refine And.intro ?_ ?_; focus (first | decide | omega | (simp only [ln]; omega)))); try ((first | refine hK _ _ ?_ | refine hK _ ?_); clear hK K; simp only [lp])) | ((first | refine wi ?_ | refine wj ?_ | refine wk ?_ | refine wl ?_ | refine wm ?_ | refine wn ?_); simp only [lt, ↓reduceIte, Nat.reduceEqDiff]) | refine wo ?_)
      exact Fin.gcAny (.v (altsV [x])) hE (by decide) rfl (by simp only [D.lt]) (by simp at h1; omega) (fun i hi => by rw [h2 i (by simp; omega), List.getElem?_append_left hi]) hK
    · exact absurd hc (by simp [idxA])
  · rw [List.append_assoc, List.cons_append, List.nil_append, List.length_append]
    repeat (first | refine wa ?_ | refine wb rfl ?_ | refine wc rfl rfl hM ?_ | refine wd rfl hM ?_ | ((first | refine we rfl fun K hK => ?_ | refine wf rfl rfl fun K hK => ?_ | refine wg rfl rfl fun K hK => ?_ | refine wh rfl fun K hK => ?_); (simp only [lo, ld, ↓aop, ↓aCall, hP, hG, Nat.reduceLT, ↓reduceIte, Nat.reduceEqDiff, Nat.reduceAdd, Nat.reduceMul, Nat.reduceLeDiff, reduceCtorEq, D.cs, D.plain, fillD, chop, List.replicate, tk_3, ze_3, sz_3, tk_9, ze_9, sz_9, tk_22, ze_22, sz_22, tk_26, ze_26, sz_26, kn_26]; repeat (with_reducible refine And.intro ?_ ?_; focus (first | decide | omega | (simp only [ln]; omega)))); try ((first | refine hK _ _ ?_ | refine hK _ ?_); clear hK K; simp only [lp])) | ((first | refine wi ?_ | refine wj ?_ | refine wk ?_ | refine wl ?_ | refine wm ?_ | refine wn ?_); simp only [lt, ↓reduceIte, Nat.reduceEqDiff]) | refine wo ?_)
    refine spec_Find l x.name (by omega) _ _ (hK _ _ ?_)
    clear hK K; simp only [lp]
    repeat (first | refine wa ?_ | refine wb rfl ?_ | refine wc rfl rfl hM ?_ | refine wd rfl hM ?_ | ((first | refine we rfl fun K hK => ?_ | refine wf rfl rfl fun K hK => ?_ | refine wg rfl rfl fun K hK => ?_ | refine wh rfl fun K hK => ?_); (simp only [lo, ld, ↓aop, ↓aCall, hP, hG, Nat.reduceLT, ↓reduceIte, Nat.reduceEqDiff, Nat.reduceAdd, Nat.reduceMul, Nat.reduceLeDiff, reduceCtorEq, D.cs, D.plain, fillD, chop, List.replicate, tk_3, ze_3, sz_3, tk_9, ze_9, sz_9, tk_22, ze_22, sz_22, tk_26, ze_26, sz_26, kn_26]; repeat (with_reducible refine And.intro ?_ ?_; focus (first | decide | omega | (simp only [ln]; omega)))); try ((first | refine hK _ _ ?_ | refine hK _ ?_); clear hK K; simp only [lp])) | ((first | refine wi ?_ | refine wj ?_ | refine wk ?_ | refine wl ?_ | refine wm ?_ | refine wn ?_); simp only [lt, ↓reduceIte, Nat.reduceEqDiff]) | refine wo ?_)
    refine sat_cond rfl (fun hc => ?_) (fun hc => ?_)
    · obtain ⟨i, hi⟩ : ∃ i, l.findIdx? (fun y => y.name == x.name) = some i := by
        cases h : l.findIdx? (fun y => y.name == x.name) with
        | none => simp [findA, idxA, h] at hc
        | some i => exact ⟨i, rfl⟩
      have hf : findA l x.name = (i : Int) := by simp [findA, idxA, hi]
      have hil := (idx_split hi).1
      have hput : putA l x = l.set i x := by simp [putA, hi]
      rw [hf]
      obtain ⟨y, hy⟩ : ∃ y, l[i]? = some y := ⟨_, List.getElem?_eq_getElem hil⟩
      have hr : (rowsA l)[i]? = some ((altV y).map .v) := by simp [rowsA, hy]
      repeat (first | refine wa ?_ | refine wb rfl ?_ | refine wc rfl rfl hM ?_ | refine wd rfl hM ?_ | ((first | refine we rfl fun K hK => ?_ | refine wf rfl rfl fun K hK => ?_ | refine wg rfl rfl fun K hK => ?_ | refine wh rfl fun K hK => ?_); (simp only [lo, ld, ↓aop, ↓aCall, hP, hG, Nat.reduceLT, ↓reduceIte, Nat.reduceEqDiff, Nat.reduceAdd, Nat.reduceMul, Nat.reduceLeDiff, reduceCtorEq, D.cs, D.plain, fillD, chop, List.replicate, altV, tk_3, ze_3, sz_3, tk_9, ze_9, sz_9, tk_22, ze_22, sz_22, tk_26, ze_26, sz_26, kn_26, rowsA_len, hil, hr, List.map_cons, List.map_nil, List.length_cons, List.length_nil, List.drop_succ_cons, List.drop_zero, List.drop_nil]; repeat (with_reducible refine And.intro ?_ ?_; focus (first | decide | omega | (simp only [ln]; omega)))); try ((first | refine hK _ _ ?_ | refine hK _ ?_); clear hK K; simp only [lp])) | ((first | refine wi ?_ | refine wj ?_ | refine wk ?_ | refine wl ?_ | refine wm ?_ | refine wn ?_); simp only [lt, ↓reduceIte, Nat.reduceEqDiff]) | refine wo ?_)
      refine Fin.pub 1 ver 6 0 l.length ((l.set i x).map altV) hE (by decide) rfl (by rw [← rowsA_v, ← rowsA_set]; rfl) (Nat.zero_le _) (by simp) ?_
      rw [List.take_of_length_le (by simp), ← hput]
      exact hK
    have hno : l.findIdx? (fun y => y.name == x.name) = none := by
      cases h : l.findIdx? (fun y => y.name == x.name) with
      | none => rfl
      | some i => simp [findA, idxA, h] at hc
    have hput : putA l x = insA l (atA l x) x := by simp [putA, hno]
    rw [hput] at hK
    repeat (first | refine wa ?_ | refine wb rfl ?_ | refine wc rfl rfl hM ?_ | refine wd rfl hM ?_ | ((first | refine we rfl fun K hK => ?_ | refine wf rfl rfl fun K hK => ?_ | refine wg rfl rfl fun K hK => ?_ | refine wh rfl fun K hK => ?_); (simp only [lo, ld, ↓aop, ↓aCall, hP, hG, Nat.reduceLT, ↓reduceIte, Nat.reduceEqDiff, Nat.reduceAdd, Nat.reduceMul, Nat.reduceLeDiff, reduceCtorEq, D.cs, D.plain, fillD, chop, List.replicate, tk_3, ze_3, sz_3, tk_9, ze_9, sz_9, tk_22, ze_22, sz_22, tk_26, ze_26, sz_26, kn_26]; repeat (with_reducible refine And.intro ?_ ?_; focus (first | decide | omega | (simp only [ln]; omega)))); try ((first | refine hK _ _ ?_ | refine hK _ ?_); clear hK K; simp only [lp])) | ((first | refine wi ?_ | refine wj ?_ | refine wk ?_ | refine wl ?_ | refine wm ?_ | refine wn ?_); simp only [lt, ↓reduceIte, Nat.reduceEqDiff]) | refine wo ?_)
    refine spec_IndexFuncA l 31 _ (gtA x) (by omega) _ (fun c hc K hK => spec_putIs c x _ _ (by rw [hp_get0]; rfl) K hK) _ (hK _ _ ?_)
    clear hK K; simp only [lp]
    repeat (first | refine wa ?_ | refine wb rfl ?_ | refine wc rfl rfl hM ?_ | refine wd rfl hM ?_ | ((first | refine we rfl fun K hK => ?_ | refine wf rfl rfl fun K hK => ?_ | refine wg rfl rfl fun K hK => ?_ | refine wh rfl fun K hK => ?_); (simp only [lo, ld, ↓aop, ↓aCall, hP, hG, Nat.reduceLT, ↓reduceIte, Nat.reduceEqDiff, Nat.reduceAdd, Nat.reduceMul, Nat.reduceLeDiff, reduceCtorEq, D.cs, D.plain, fillD, chop, List.replicate, tk_3, ze_3, sz_3, tk_9, ze_9, sz_9, tk_22, ze_22, sz_22, tk_26, ze_26, sz_26, kn_26]; repeat (with_reducible refine And.intro ?_ ?_; focus (first | decide | omega | (simp only [ln]; omega)))); try ((first | refine hK _ _ ?_ | refine hK _ ?_); clear hK K; simp only [lp])) | ((first | refine wi ?_ | refine wj ?_ | refine wk ?_ | refine wl ?_ | refine wm ?_ | refine wn ?_); simp only [lt, ↓reduceIte, Nat.reduceEqDiff]) | refine wo ?_)
    refine sat_cond rfl (fun hc2 => ?_) (fun hc2 => ?_)
    · repeat (first | refine wa ?_ | refine wb rfl ?_ | refine wc rfl rfl hM ?_ | refine wd rfl hM ?_ | ((first | refine we rfl fun K hK => ?_ | refine wf rfl rfl fun K hK => ?_ | refine wg rfl rfl fun K hK => ?_ | refine wh rfl fun K hK => ?_); (simp only [lo, ld, ↓aop, ↓aCall, hP, hG, Nat.reduceLT, ↓reduceIte, Nat.reduceEqDiff, Nat.reduceAdd, Nat.reduceMul, Nat.reduceLeDiff, reduceCtorEq, D.cs, D.plain, fillD, chop, List.replicate, altsV, tk_3, ze_3, sz_3, tk_9, ze_9, sz_9, tk_22, ze_22, sz_22, tk_26, ze_26, sz_26, kn_26]; repeat (with_reducible refine And.intro ?_ ?_; focus (first | decide | omega | (simp only [ln]; omega)))); try ((first | refine hK _ _ ?_ | refine hK _ ?_); clear hK K; simp only [lp])) | ((first | refine wi ?_ | refine wj ?_ | refine wk ?_ | refine wl ?_ | refine wm ?_ | refine wn ?_); simp only [lt, ↓reduceIte, Nat.reduceEqDiff]) | refine wo ?_)
      have he := atA_none (of_decide_eq_true hc2)
      have hcg : ∀ H K, ACalls Tryz.prog G 32 [.own (E.H0.length + 1) ver l.length, .v (.int .i64 (atA l x)), .own (E.H0.length + 2) 1 1] H K → ACalls Tryz.prog G 32 [.own (E.H0.length + 1) ver l.length, .v (.int .i64 l.length), .own (E.H0.length + 2) 1 1] H K := by rw [he]; exact fun _ _ h => h
      refine hcg _ _ ?_
      refine spec_Insert l (E.H0.length + 1) ver (atA l x) x (E.H0.length + 2) hl (atA_le l x) (by omega) _ (by rw [hp_get]; rfl) (by rw [hp_get]; rfl) _ (fun H' h1 h2 => hK _ _ ?_)
      clear hK K; simp only [lp]
      repeat (first | refine wa ?_ | refine wb rfl ?_ | refine wc rfl rfl hM ?_ | refine wd rfl hM ?_ | ((first | refine we rfl fun K hK => ?_ | refine wf rfl rfl fun K hK => ?_ | refine wg rfl rfl fun K hK => ?_ | refine wh rfl fun K hK => ?_); (simp only [lo, ld, ↓aop, ↓aCall, hP, hG, Nat.reduceLT, ↓reduceIte, Nat.reduceEqDiff, Nat.reduceAdd, Nat.reduceMul, Nat.reduceLeDiff, reduceCtorEq, D.cs, D.plain, fillD, chop, List.replicate, tk_3, ze_3, sz_3, tk_9, ze_9, sz_9, tk_22, ze_22, sz_22, tk_26, ze_26, sz_26, kn_26]; repeat (with_reducible refine And.intro ?_ ?_; focus (first | decide | omega | (simp only [ln]; omega)))); try ((first | refine hK _ _ ?_ | refine hK _ ?_); clear hK K; simp only [lp])) | ((first | refine wi ?_ | refine wj ?_ | refine wk ?_ | refine wl ?_ | refine wm ?_ | refine wn ?_); simp only [lt, ↓reduceIte, Nat.reduceEqDiff]) | refine wo ?_)
      exact Fin.gcAny (.v (altsV (insA l (atA l x) x))) hE (by decide) rfl (by simp only [D.lt]) (by simp at h1; omega) (fun i hi => by rw [h2 i (by simp; omega) (by omega), List.getElem?_append_left hi]) hK
    · repeat (first | refine wa ?_ | refine wb rfl ?_ | refine wc rfl rfl hM ?_ | refine wd rfl hM ?_ | ((first | refine we rfl fun K hK => ?_ | refine wf rfl rfl fun K hK => ?_ | refine wg rfl rfl fun K hK => ?_ | refine wh rfl fun K hK => ?_); (simp only [lo, ld, ↓aop, ↓aCall, hP, hG, Nat.reduceLT, ↓reduceIte, Nat.reduceEqDiff, Nat.reduceAdd, Nat.reduceMul, Nat.reduceLeDiff, reduceCtorEq, D.cs, D.plain, fillD, chop, List.replicate, tk_3, ze_3, sz_3, tk_9, ze_9, sz_9, tk_22, ze_22, sz_22, tk_26, ze_26, sz_26, kn_26]; repeat (with_reducible refine And.intro ?_ ?_; focus (first | decide | omega | (simp only [ln]; omega)))); try ((first | refine hK _ _ ?_ | refine hK _ ?_); clear hK K; simp only [lp])) | ((first | refine wi ?_ | refine wj ?_ | refine wk ?_ | refine wl ?_ | refine wm ?_ | refine wn ?_); simp only [lt, ↓reduceIte, Nat.reduceEqDiff]) | refine wo ?_)
      rw [(atA_some (of_decide_eq_false hc2)).1]
      refine spec_Insert l (E.H0.length + 1) ver (atA l x) x (E.H0.length + 2) hl (atA_le l x) (by omega) _ (by rw [hp_get]; rfl) (by rw [hp_get]; rfl) _ (fun H' h1 h2 => hK _ _ ?_)
      clear hK K; simp only [lp]
      repeat (first | refine wa ?_ | refine wb rfl ?_ | refine wc rfl rfl hM ?_ | refine wd rfl hM ?_ | ((first | refine we rfl fun K hK => ?_ | refine wf rfl rfl fun K hK => ?_ | refine wg rfl rfl fun K hK => ?_ | refine wh rfl fun K hK => ?_); (simp only [lo, ld, ↓aop, ↓aCall, hP, hG, Nat.reduceLT, ↓reduceIte, Nat.reduceEqDiff, Nat.reduceAdd, Nat.reduceMul, Nat.reduceLeDiff, reduceCtorEq, D.cs, D.plain, fillD, chop, List.replicate, tk_3, ze_3, sz_3, tk_9, ze_9, sz_9, tk_22, ze_22, sz_22, tk_26, ze_26, sz_26, kn_26]; repeat (with_reducible refine And.intro ?_ ?_; focus (first | decide | omega | (simp only [ln]; omega)))); try ((first | refine hK _ _ ?_ | refine hK _ ?_); clear hK K; simp only [lp])) | ((first | refine wi ?_ | refine wj ?_ | refine wk ?_ | refine wl ?_ | refine wm ?_ | refine wn ?_); simp only [lt, ↓reduceIte, Nat.reduceEqDiff]) | refine wo ?_)
      exact Fin.gcAny (.v (altsV (insA l (atA l x) x))) hE (by decide) rfl (by simp only [D.lt]) (by simp at h1; omega) (fun i hi => by rw [h2 i (by simp; omega) (by omega), List.getElem?_append_left hi]) hK
end Go.Ag
