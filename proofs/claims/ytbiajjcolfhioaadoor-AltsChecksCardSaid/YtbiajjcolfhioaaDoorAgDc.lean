import Derived.Test.YtbiajjcolfhioaaDoorAgDb
import Derived.ProofKit
import Derived.OpenShut
import Derived.Carry
import Derived.ChangeMaps5
import Derived.Deep.DeepHandedRow
import Derived.Deep.DeepLaidRun
import Derived.Lib.LaidU8
import Derived.SevenTiedAt
import Derived.DataReads
import Derived.ChangeArms
import Derived.Test.YtbiajjcolfhioaaDoorCards
import Derived.Test.YtbiajjcolfhioaaDoorTie
import Derived.Test.YtbiajjcolfhioaaDoorShelf
import Derived.Test.YtbiajjcolfhioaaDoorProg
import Derived.KernelRfl
import Derived.Lib.Strings
set_option linter.all false
/- AGo, part 25: results that lie in a box. -/
namespace Go.Ag
open Go Go.RowKit

def retA (P : Program) (ts : List D) (H : List Ob) : List ResultVar → (List D → Prop) → Prop
  | [], K => K []
  | .tmp s :: rs, K => retA P ts H rs fun ds => K (ts.getD s (.tup []) :: ds)
  | .cell ad t :: rs, K => ∃ b o, ts.getD ad (.tup []) = .ptr b o ∧ aLoad P t (.ptr b o) H fun d => retA P ts H rs fun ds => K (d :: ds)
def oneD : List D → D
  | [d] => d
  | ds => .tup ds
theorem resVal_run {E : Env} {M : Mem} {μ : Mu} {H : List Ob} {w : World} {ts : List D} {a : Array Value} (h : R E M μ H w) (ht : RelL M μ ts a.toList) :
    ∀ (rs : List ResultVar) (K : List D → Prop), retA E.P ts H rs K →
      ∃ vs ds, (rs.mapM (fun x => match x with | ResultVar.tmp t => (pure (a.getD t undef) : Sem Value) | ResultVar.cell ad t => (do loadVar t (← asAddr (a.getD ad undef)) : Sem Value))).run E.P w = Result.ok vs w ∧ RelL M μ ds vs ∧ K ds
  | [], K, k => ⟨[], [], by simp, by simp [RelL], k⟩
  | .tmp s :: rs, K, k => by
    obtain ⟨vs, ds, h1, h2, h3⟩ := resVal_run h ht rs _ k
    refine ⟨a.getD s undef :: vs, _, ?_, ?_, h3⟩
    · simp only [List.mapM_cons, Sem.run_bind, Sem.run_pure, Result.andThen_ok, h1]
    · rw [RelL.cons_iff]; exact ⟨getD_rel ht s, h2⟩
  | .cell ad t :: rs, K, k => by
    obtain ⟨b, o, hb, k⟩ := k
    have hr := getD_rel ht ad
    rw [hb] at hr
    obtain ⟨v, d, g1, g2, g3⟩ := aLoad_sound h hr k
    obtain ⟨vs, ds, h1, h2, h3⟩ := resVal_run h ht rs _ g3
    simp only [Rel] at hr
    obtain ⟨p, hp, _, hy⟩ := hr
    rw [hy] at g1
    refine ⟨v :: vs, d :: ds, ?_, by rw [RelL.cons_iff]; exact ⟨g2, h2⟩, h3⟩
    have g1' : (loadVar t ⟨p.blk, o, none⟩).run E.P w = .ok v w := by
      simpa only [Instr.loadAt, Instr.sureAddr, Sem.run_bind, Sem.run_pure, Result.andThen_ok] using g1
    have hA : asAddr (a.getD ad undef) = pure ⟨p.blk, o, none⟩ := by rw [hy]; rfl
    simp only [List.mapM_cons, hA, Sem.run_bind, Sem.run_pure, Result.andThen_ok, g1', h1]
theorem RelL.cons {M : Mem} {μ : Mu} {d : D} {ds : List D} {vs : List Value} : RelL M μ (d :: ds) vs = ∃ v vs', vs = v :: vs' ∧ Rel M μ d v ∧ RelL M μ ds vs' := by simp only [RelL]
theorem args_fr {E : Env} {n : Nat} {args : List D} {H : List Ob} (hl : args.length ≤ n) : Ent E (args ++ List.replicate (n - args.length) (D.tup [])) H (fr n (args0 0 args)) H := by
  refine Ent.weak ?_
  have hlen : (args ++ List.replicate (n - args.length) (D.tup [])).length = n := by simp; omega
  have e : args ++ List.replicate (n - args.length) (D.tup []) = (List.range n).map fun i => (args ++ List.replicate (n - args.length) (D.tup [])).getD i (.tup []) := by
    apply List.ext_getElem?
    intro i
    rw [List.getElem?_map]
    by_cases hi : i < n
    · rw [List.getElem?_range hi, List.getElem?_eq_getElem (by omega)]
      simp only [Option.map_some, List.getD_eq_getElem?_getD]
      rw [List.getElem?_eq_getElem (by omega)]; rfl
    · rw [List.getElem?_eq_none (by omega), List.getElem?_eq_none (by simp; omega)]; rfl
  rw [e]
  refine leL_map _ _ _ fun i => ?_
  by_cases hi : i < args.length
  · have h1 := look_args args 0 i args[i] (List.getElem?_eq_getElem hi)
    rw [Nat.zero_add] at h1
    rw [h1, List.getD_eq_getElem?_getD, List.getElem?_append_left hi, List.getElem?_eq_getElem hi]
    exact D.le_refl _
  · have h1 := look_args_none args 0 i (by omega)
    rw [Nat.zero_add] at h1
    rw [h1]; exact D.le_any _
def oneV : List Value → Value
  | [v] => v
  | vs => .tuple vs.toArray
theorem resAll_run {P : Program} {w : World} {fn : Func} {a : Array Value} {vs : List Value} (h : (fn.results.toList.mapM (fun x => match x with | ResultVar.tmp t => (pure (a.getD t undef) : Sem Value) | ResultVar.cell ad t => (do loadVar t (← asAddr (a.getD ad undef)) : Sem Value))).run P w = Result.ok vs w) :
    (results fn a).run P w = Result.ok (oneV vs) w := by
  have e : (fun r : Result (List Value) => (r.andThen fun a w' => Result.ok a.toArray w').andThen fun a w' => Result.ok (if h : a.size = 1 then a[0] else Value.tuple a) w') (Result.ok vs w) = Result.ok (oneV vs) w := by
    match vs with
    | [] => rfl
    | [v] => rfl
    | v :: v' :: vs => rfl
  unfold results
  rw [Array.mapM_eq_mapM_toList]
  simp only [Sem.run_bind, Sem.run_map, Sem.run_pure]
  exact (congrArg (fun r : Result (List Value) => (r.andThen fun a w' => Result.ok a.toArray w').andThen fun a w' => Result.ok (if h : a.size = 1 then a[0] else Value.tuple a) w') h).trans e
theorem rel_one {M : Mem} {μ : Mu} : ∀ {ds : List D} {vs : List Value}, RelL M μ ds vs → Rel M μ (oneD ds) (oneV vs)
  | [], vs, h => by
    simp only [RelL] at h; subst h
    simp only [oneD, oneV, Rel]
    exact ⟨[], rfl, by simp [RelL]⟩
  | [d], vs, h => by
    rw [RelL.cons] at h
    obtain ⟨v, vs, rfl, h1, h2⟩ := h
    simp only [RelL] at h2; subst h2
    exact h1
  | d :: d' :: ds, vs, h => by
    have h0 := h
    rw [RelL.cons] at h
    obtain ⟨v, vs, rfl, h1, h2⟩ := h
    rw [RelL.cons] at h2
    obtain ⟨v', vs, rfl, h3, h4⟩ := h2
    simp only [oneD, oneV, Rel]
    exact ⟨v :: v' :: vs, rfl, h0⟩

def FinR (E : Env) (ts : List D) (H : List Ob) (rs : List ResultVar) (K : D → List Ob → Prop) : Prop := retA E.P ts H rs fun ds => ∃ ds' H', Ent E ds H ds' H' ∧ K (oneD ds') H'
@[congr] theorem FinR_cg {E : Env} {ts ts' : List D} {H H' : List Ob} {s : List ResultVar} {K : D → List Ob → Prop} (h1 : ts = ts') (h2 : H = H') : FinR E ts H s K = FinR E ts' H' s K := by subst h1 h2; rfl
def OutR (E : Env) (rs : List ResultVar) (K : D → List Ob → Prop) : Exit → List D → List Ob → Prop
  | .normal, ts, H => FinR E ts H rs K
  | .ret, ts, H => FinR E ts H rs K
  | _, _, _ => False
theorem OutR_normal {E : Env} {rs : List ResultVar} {K : D → List Ob → Prop} {ts : List D} {H : List Ob} : OutR E rs K .normal ts H = FinR E ts H rs K := rfl
theorem OutR_ret {E : Env} {rs : List ResultVar} {K : D → List Ob → Prop} {ts : List D} {H : List Ob} : OutR E rs K .ret ts H = FinR E ts H rs K := rfl
theorem OutR_exit {E : Env} {rs : List ResultVar} {K : D → List Ob → Prop} {ts : List D} {H : List Ob} {i : Nat} : OutR E rs K (.exit i) ts H = False := rfl

/-- A function whose results may lie in boxes, from its body. -/
theorem ACalls.goR {P : Program} {G : Nat → Option (List V)} {f : FuncId} {args : List D} {H : List Ob} {K : D → List Ob → Prop} (fn : Func) (c : Code) (n : Nat) (rs : List ResultVar) (hf : P.funcs[f]? = some fn) (hb : fn.body = some c) (hn : fn.ntmps = n) (hc : callB P f = true) (hr : fn.results.toList = rs) (hl : args.length ≤ n)
    (h : ∀ E : Env, E.Closed → E.P = P → E.G = G → E.H0 = H → Sat E c (fr n (args0 0 args)) H (OutR E rs K)) : ACalls P G f args H K := by
  refine ⟨hc, ?_⟩
  rintro ⟨P', G', w0, M0, μ0, H0⟩ e1 e2 M μ w vs h1 h2
  simp only at e1 e2
  subst e1; subst e2
  have hcl : Env.Closed ⟨P', G', w0, M, μ, H⟩ := ⟨h1.tot, h1.dom, fun i o p ho hp => (h1.obj i o p ho hp).olt h1.dom⟩
  have hR : R ⟨P', G', w0, M, μ, H⟩ M μ H w := ⟨h1.below, h1.imm, h1.glob, h1.dom, h1.obj, h1.sep, h1.tot⟩
  have hlen := h2.length
  have hs := h ⟨P', G', w0, M, μ, H⟩ hcl rfl rfl rfl
  replace hs := sat_ent (args_fr hl) hs
  refine calls_of_wp hf hb (wp_mono (hs M μ w ⟨vs.toArray ++ Array.replicate (fn.ntmps - vs.toArray.size) undef, []⟩ (Mem.le.refl _) (Mu.le.refl _) hR ?_ rfl) ?_)
  · simp only [Array.toList_append, List.toList_toArray, Array.toList_replicate, List.size_toArray, hlen, hn]
    refine h2.append ?_
    generalize n - args.length = k
    induction k with
    | zero => simp [RelL]
    | succ k ih => rw [List.replicate_succ, List.replicate_succ, RelL.cons_iff]; exact ⟨by simp only [Rel, RelL]; exact ⟨[], rfl, rfl⟩, ih⟩
  · rintro e a' w' ⟨M', μ', ts', H', g1, g2, g3, g4, g5, g6⟩
    have key : (e = .normal ∨ e = .ret) ∧ FinR ⟨P', G', w0, M, μ, H⟩ ts' H' rs K := by
      cases e with
      | normal => exact ⟨.inl rfl, g6⟩
      | ret => exact ⟨.inr rfl, g6⟩
      | _ => exact g6.elim
    obtain ⟨ge, gf⟩ := key
    obtain ⟨vals, ds, k1, k2, ds', H2, k3, k4⟩ := resVal_run g3 g4 rs _ gf
    obtain ⟨M2, μ2, m1, m2, m3, m4⟩ := k3 M' μ' w' vals g1 g2 g3 k2
    rw [← hr] at k1
    have hfin : ∃ v, (results fn a'.tmps).run P' w' = .ok v w' ∧ ∃ v_1 d M' μ' H', Ending.returned v = .returned v_1 ∧ M.le M' ∧ μ.le μ' ∧ R ⟨P', G', w0, M0, μ0, H0⟩ M' μ' H' w' ∧ Rel M' μ' d v_1 ∧ K d H' :=
      ⟨_, resAll_run k1, _, _, M2, μ2, H2, rfl, m1, m2, ⟨m3.below, m3.imm, m3.glob, m3.dom, m3.obj, m3.sep, m3.tot⟩, rel_one m4, k4⟩
    rcases ge with rfl | rfl
    · exact ⟨g5, hfin⟩
    · exact ⟨g5, hfin⟩

/-- One result, a struct in a box of one's own, told whole. -/
theorem FinR.box {E : Env} {n : Nat} {l : List (Nat × D)} {L : List Ob} {ad : Tmp} {t : TypeId} {K : D → List Ob → Prop} {sz : Nat} (k : Nat) (cs : List V) (hE : E.Closed) (hs : ad < n) (hd : look l ad = .ptr (E.H0.length + k) 0)
    (hL : L[k]? = some (.box (cs.map .v))) (ht : (tk E.P t).row = some sz) (hc : cs.length = sz) (h : K (.agg (cs.map .v)) E.H0) : FinR E (fr n l) (E.H0 ++ L) [.cell ad t] K := by
  unfold FinR
  simp only [retA]
  refine ⟨E.H0.length + k, 0, by rw [getD_fr hs, hd], ?_⟩
  have hg : (E.H0 ++ L)[E.H0.length + k]? = some (.box (cs.map .v)) := by rw [hp_get]; exact hL
  simp only [aLoad, ht, hg]
  refine ⟨by simp [hc], [.agg (cs.map .v)], E.H0, ?_, ?_⟩
  · have e : (((cs.map D.v).drop 0).take sz) = cs.map .v := by rw [List.drop_zero, ← hc]; exact take_len_map _ _
    rw [e]
    have hlt : ∀ cs : List V, D.ltL E.H0.length (cs.map .v) := ltL_v _
    have g := Ent.gcFr (n := 1) (l := [(0, D.agg (cs.map .v))]) [] L hE ⟨by simp only [D.lt]; exact hlt cs, trivial⟩ trivial
    rw [List.append_nil] at g
    exact g
  · exact h

/-- Through a piece of code whose end is told by one thing more. -/
def ViaS {α : Type} (E : Env) (P : α → Prop) (ts' : α → List D) (H' : List Ob) : Exit → List D → List Ob → Prop
  | .normal, ts, H => ∃ a, P a ∧ Ent E ts H (ts' a) H'
  | _, _, _ => False
theorem ViaS_normal {α : Type} {E : Env} {P : α → Prop} {ts' : α → List D} {H' : List Ob} {ts : List D} {H : List Ob} : ViaS E P ts' H' .normal ts H = ∃ a, P a ∧ Ent E ts H (ts' a) H' := rfl
theorem sat_some {α : Type} {E : Env} {x y : Code} {ts : List D} {H : List Ob} {Q : Exit → List D → List Ob → Prop} (P : α → Prop) (ts' : α → List D) (H' : List Ob) (h1 : Sat E x ts H (ViaS E P ts' H')) (h2 : ∀ a, P a → Sat E y (ts' a) H' Q) : Sat E x ts H (Th (fun ts H => Sat E y ts H Q) Q) :=
  h1.mono fun e ts1 H1 h => by
    cases e with
    | normal =>
      obtain ⟨a, hp, he⟩ := h
      exact sat_ent he (h2 a hp)
    | _ => exact h.elim
end Go.Ag
/- AGo, part 22: short names, for simp alone. -/
namespace Go.Ag
open Go Go.RowKit
set_option linter.defProp false

theorem lo : (((((((type_of% @Ex_and) ∧ ((type_of% @Ex_eq) ∧ (type_of% @Ex_eq'))) ∧ ((type_of% @ev_tmp) ∧ ((type_of% @ev_const) ∧ (type_of% @ev_func)))) ∧ (((type_of% @ev_glob) ∧ ((type_of% @putD_some) ∧ (type_of% @putD_none))) ∧ (((type_of% @look_cons) ∧ (type_of% @look_nil)) ∧ ((type_of% @if_true.{1}) ∧ (type_of% @if_true.{0}))))) ∧ ((((type_of% @if_false.{1}) ∧ ((type_of% @if_false.{0}) ∧ (type_of% @Th_normal))) ∧ ((type_of% @Th_ret) ∧ ((type_of% @Th_exit) ∧ (type_of% @Bl_normal)))) ∧ (((type_of% @Bl_ret) ∧ ((type_of% @Bl_exit) ∧ (type_of% @Out_normal))) ∧ (((type_of% @Out_ret) ∧ (type_of% @Out_exit)) ∧ ((type_of% @List.flatten_cons.{0}) ∧ (type_of% @List.flatten_nil.{0})))))) ∧ (((((type_of% @hp_get0) ∧ ((type_of% @hp_get) ∧ (type_of% @hp_set0))) ∧ ((type_of% @hp_set) ∧ ((type_of% @hp_len) ∧ (type_of% @hp_push)))) ∧ (((type_of% @List.cons_append.{0}) ∧ ((type_of% @List.nil_append.{0}) ∧ (type_of% @List.append_nil.{0}))) ∧ (((type_of% @List.length_nil.{0}) ∧ (type_of% @List.length_cons.{0})) ∧ ((type_of% @Nat.zero_add) ∧ (type_of% @Nat.add_zero))))) ∧ ((((type_of% @Nat.le_refl) ∧ ((type_of% @List.getElem?_cons_zero.{0}) ∧ (type_of% @List.getElem?_cons_succ.{0}))) ∧ (((type_of% @List.getElem?_nil.{0}) ∧ (type_of% @List.set_cons_zero.{0})) ∧ ((type_of% @List.set_cons_succ.{0}) ∧ (type_of% @List.take_succ_cons.{0})))) ∧ (((type_of% @List.take_zero.{0}) ∧ ((type_of% @List.drop_succ_cons.{0}) ∧ (type_of% @List.drop_zero.{0}))) ∧ (((type_of% @List.take_nil.{0}) ∧ (type_of% @List.drop_nil.{0})) ∧ ((type_of% @List.map_cons.{0, 0}) ∧ (type_of% @List.map_nil.{0, 0}))))))) ∧ ((((((type_of% @List.all_cons.{0}) ∧ ((type_of% @List.all_nil.{0}) ∧ (type_of% @Bool.and_true))) ∧ ((type_of% @Bool.true_and) ∧ ((type_of% @Bool.and_self) ∧ (type_of% @Option.bind_some.{0, 0})))) ∧ (((type_of% @Option.bind_none.{0, 0}) ∧ ((type_of% @Option.map_some.{0, 0}) ∧ (type_of% @Option.map_none.{0, 0}))) ∧ (((type_of% @true_and) ∧ (type_of% @and_true)) ∧ ((type_of% @ne_eq.{1}) ∧ (type_of% @ne_eq.{0}))))) ∧ ((((type_of% @not_false_eq_true) ∧ ((type_of% @not_true_eq_false) ∧ (type_of% @and_self))) ∧ ((type_of% @Nat.add_eq) ∧ ((type_of% @List.getD_cons_zero.{0}) ∧ (type_of% @List.getD_cons_succ.{0})))) ∧ (((type_of% @beq_self_eq_true.{0}) ∧ ((type_of% @List.toList_toArray.{0}) ∧ (type_of% @Int.toNat_natCast))) ∧ (((type_of% @List.getD_eq_getElem?_getD.{0}) ∧ (type_of% @List.getElem?_map.{0, 0})) ∧ ((type_of% @Option.getD_some.{0}) ∧ (type_of% @Int.natCast_nonneg)))))) ∧ (((((type_of% @List.length_map.{0, 0}) ∧ ((type_of% @Int.ofNat_lt) ∧ (type_of% @Int.ofNat_le))) ∧ ((type_of% @lit_le) ∧ ((type_of% @lit_lt) ∧ (type_of% @lit_ge)))) ∧ (((type_of% @lit_gt) ∧ ((type_of% @lit_beq) ∧ (type_of% @nat_beq))) ∧ (((type_of% @nat_ge) ∧ (type_of% @nat_gt)) ∧ ((type_of% @take_len_map) ∧ (type_of% @take_len))))) ∧ ((((type_of% @Via_normal) ∧ ((type_of% @fr_set) ∧ (type_of% @fr_get))) ∧ (((type_of% @List.getElem?_toArray.{0}) ∧ (type_of% @Bool.not_true)) ∧ ((type_of% @Bool.not_false) ∧ (type_of% @forall_const.{1})))) ∧ (((type_of% @forall_const.{0}) ∧ ((type_of% @true_implies) ∧ (type_of% @false_implies))) ∧ (((type_of% @Bool.true_eq_false) ∧ (type_of% @Bool.false_eq_true)) ∧ ((type_of% @List.length_append.{0}) ∧ (type_of% @List.append_eq_nil_iff.{0})))))))) := ⟨⟨⟨⟨⟨⟨@Ex_and, ⟨@Ex_eq, @Ex_eq'⟩⟩, ⟨@ev_tmp, ⟨@ev_const, @ev_func⟩⟩⟩, ⟨⟨@ev_glob, ⟨@putD_some, @putD_none⟩⟩, ⟨⟨@look_cons, @look_nil⟩, ⟨@if_true.{1}, @if_true.{0}⟩⟩⟩⟩, ⟨⟨⟨@if_false.{1}, ⟨@if_false.{0}, @Th_normal⟩⟩, ⟨@Th_ret, ⟨@Th_exit, @Bl_normal⟩⟩⟩, ⟨⟨@Bl_ret, ⟨@Bl_exit, @Out_normal⟩⟩, ⟨⟨@Out_ret, @Out_exit⟩, ⟨@List.flatten_cons.{0}, @List.flatten_nil.{0}⟩⟩⟩⟩⟩, ⟨⟨⟨⟨@hp_get0, ⟨@hp_get, @hp_set0⟩⟩, ⟨@hp_set, ⟨@hp_len, @hp_push⟩⟩⟩, ⟨⟨@List.cons_append.{0}, ⟨@List.nil_append.{0}, @List.append_nil.{0}⟩⟩, ⟨⟨@List.length_nil.{0}, @List.length_cons.{0}⟩, ⟨@Nat.zero_add, @Nat.add_zero⟩⟩⟩⟩, ⟨⟨⟨@Nat.le_refl, ⟨@List.getElem?_cons_zero.{0}, @List.getElem?_cons_succ.{0}⟩⟩, ⟨⟨@List.getElem?_nil.{0}, @List.set_cons_zero.{0}⟩, ⟨@List.set_cons_succ.{0}, @List.take_succ_cons.{0}⟩⟩⟩, ⟨⟨@List.take_zero.{0}, ⟨@List.drop_succ_cons.{0}, @List.drop_zero.{0}⟩⟩, ⟨⟨@List.take_nil.{0}, @List.drop_nil.{0}⟩, ⟨@List.map_cons.{0, 0}, @List.map_nil.{0, 0}⟩⟩⟩⟩⟩⟩, ⟨⟨⟨⟨⟨@List.all_cons.{0}, ⟨@List.all_nil.{0}, @Bool.and_true⟩⟩, ⟨@Bool.true_and, ⟨@Bool.and_self, @Option.bind_some.{0, 0}⟩⟩⟩, ⟨⟨@Option.bind_none.{0, 0}, ⟨@Option.map_some.{0, 0}, @Option.map_none.{0, 0}⟩⟩, ⟨⟨@true_and, @and_true⟩, ⟨@ne_eq.{1}, @ne_eq.{0}⟩⟩⟩⟩, ⟨⟨⟨@not_false_eq_true, ⟨@not_true_eq_false, @and_self⟩⟩, ⟨@Nat.add_eq, ⟨@List.getD_cons_zero.{0}, @List.getD_cons_succ.{0}⟩⟩⟩, ⟨⟨@beq_self_eq_true.{0}, ⟨@List.toList_toArray.{0}, @Int.toNat_natCast⟩⟩, ⟨⟨@List.getD_eq_getElem?_getD.{0}, @List.getElem?_map.{0, 0}⟩, ⟨@Option.getD_some.{0}, @Int.natCast_nonneg⟩⟩⟩⟩⟩, ⟨⟨⟨⟨@List.length_map.{0, 0}, ⟨@Int.ofNat_lt, @Int.ofNat_le⟩⟩, ⟨@lit_le, ⟨@lit_lt, @lit_ge⟩⟩⟩, ⟨⟨@lit_gt, ⟨@lit_beq, @nat_beq⟩⟩, ⟨⟨@nat_ge, @nat_gt⟩, ⟨@take_len_map, @take_len⟩⟩⟩⟩, ⟨⟨⟨@Via_normal, ⟨@fr_set, @fr_get⟩⟩, ⟨⟨@List.getElem?_toArray.{0}, @Bool.not_true⟩, ⟨@Bool.not_false, @forall_const.{1}⟩⟩⟩, ⟨⟨@forall_const.{0}, ⟨@true_implies, @false_implies⟩⟩, ⟨⟨@Bool.true_eq_false, @Bool.false_eq_true⟩, ⟨@List.length_append.{0}, @List.append_eq_nil_iff.{0}⟩⟩⟩⟩⟩⟩⟩
theorem ld : (((((type_of% @ofConst.eq_def) ∧ ((type_of% @ofC.eq_def) ∧ (type_of% @aLoad.eq_def))) ∧ (((type_of% @aAlloc.eq_def) ∧ (type_of% @aBox.eq_def)) ∧ ((type_of% @aStore.eq_def) ∧ (type_of% @aFieldAddr.eq_def)))) ∧ (((type_of% @aIndexAddr.eq_def) ∧ ((type_of% @aIndex.eq_def) ∧ (type_of% @aSlice.eq_def))) ∧ (((type_of% @aEq.eq_def) ∧ (type_of% @aBin.eq_def)) ∧ ((type_of% @aUn.eq_def) ∧ (type_of% @aConv.eq_def))))) ∧ ((((type_of% @aBuild.eq_def) ∧ ((type_of% @aBuildSlice.eq_def) ∧ (type_of% @aSrc.eq_def))) ∧ (((type_of% @aAppend.eq_def) ∧ (type_of% @aLen.eq_def)) ∧ ((type_of% @aMax.eq_def) ∧ (type_of% @aMin.eq_def)))) ∧ (((type_of% @aMakeSlice.eq_def) ∧ ((type_of% @aMakeMap.eq_def) ∧ (type_of% @TK.row.eq_def))) ∧ (((type_of% @D.cell.eq_def) ∧ (type_of% @vOk.eq_def)) ∧ ((type_of% @bnd.eq_def) ∧ (type_of% @gval.eq_def)))))) := ⟨⟨⟨⟨@ofConst.eq_def, ⟨@ofC.eq_def, @aLoad.eq_def⟩⟩, ⟨⟨@aAlloc.eq_def, @aBox.eq_def⟩, ⟨@aStore.eq_def, @aFieldAddr.eq_def⟩⟩⟩, ⟨⟨@aIndexAddr.eq_def, ⟨@aIndex.eq_def, @aSlice.eq_def⟩⟩, ⟨⟨@aEq.eq_def, @aBin.eq_def⟩, ⟨@aUn.eq_def, @aConv.eq_def⟩⟩⟩⟩, ⟨⟨⟨@aBuild.eq_def, ⟨@aBuildSlice.eq_def, @aSrc.eq_def⟩⟩, ⟨⟨@aAppend.eq_def, @aLen.eq_def⟩, ⟨@aMax.eq_def, @aMin.eq_def⟩⟩⟩, ⟨⟨@aMakeSlice.eq_def, ⟨@aMakeMap.eq_def, @TK.row.eq_def⟩⟩, ⟨⟨@D.cell.eq_def, @vOk.eq_def⟩, ⟨@bnd.eq_def, @gval.eq_def⟩⟩⟩⟩⟩
theorem lt : ((((type_of% @Th_normal) ∧ ((type_of% @Th_ret) ∧ (type_of% @Th_exit))) ∧ (((type_of% @Bl_normal) ∧ (type_of% @Bl_ret)) ∧ ((type_of% @Bl_exit) ∧ (type_of% @Out_normal)))) ∧ (((type_of% @Out_ret) ∧ ((type_of% @Out_exit) ∧ (type_of% @OutR_normal))) ∧ (((type_of% @OutR_ret) ∧ (type_of% @OutR_exit)) ∧ ((type_of% @Via_normal) ∧ (type_of% @ViaS_normal))))) := ⟨⟨⟨@Th_normal, ⟨@Th_ret, @Th_exit⟩⟩, ⟨⟨@Bl_normal, @Bl_ret⟩, ⟨@Bl_exit, @Out_normal⟩⟩⟩, ⟨⟨@Out_ret, ⟨@Out_exit, @OutR_normal⟩⟩, ⟨⟨@OutR_ret, @OutR_exit⟩, ⟨@Via_normal, @ViaS_normal⟩⟩⟩⟩
theorem lp : ((type_of% @putD_some) ∧ (type_of% @putD_none)) := ⟨@putD_some, @putD_none⟩
theorem ln : (((type_of% @List.length_map.{0, 0}) ∧ (type_of% @List.length_take.{0})) ∧ ((type_of% @List.length_append.{0}) ∧ (type_of% @List.length_drop.{0}))) := ⟨⟨@List.length_map.{0, 0}, @List.length_take.{0}⟩, ⟨@List.length_append.{0}, @List.length_drop.{0}⟩⟩
theorem le : (((type_of% @leAll_cons) ∧ (type_of% @leAll_nil)) ∧ ((type_of% @look_cons) ∧ (type_of% @look_nil))) := ⟨⟨@leAll_cons, @leAll_nil⟩, ⟨@look_cons, @look_nil⟩⟩
def wa := @sat_seq'
def wb := @sat_plain
def wo := @sat_block
def we := @st_op
def wf := @sm_hv
def wg := @sm_op
def wh := @sq_op
def wi := @st_nil
def wj := @sq_nil
def wk := @sm_nil
def wl := @sat_skip
def wm := @sat_ret
def wn := @sat_exit
def wr := @sat_region
def Xg := @st_go
def Yg := @sq_go
def Zg := @sm_go
def Xn := @st_not
def Yn := @sq_not
def Zn := @sm_not
def Xo := @st_out
def Yo := @sq_out
def Zo := @sm_out
def Xs := @st_split
def Ys := @sq_split
def Zs := @sm_split
theorem wc {E : Env} {ts : List D} {H : List Ob} {Q : Exit → List D → List Ob → Prop} {id : Nat} {l : List Oper} (hg : l.all (fun o => o.guard.isNone) = true) (hv : l.any heavyB = true) (hm : E.P.follows .mixedOrders = true)
    (h : hops E anyS .any l.toArray l ts H fun ts' H' => Q .normal ts' H') (hB : mixB l = true := by kernel_rfl) : Sat E (.region id l.toArray true) ts H Q := sat_mix hm hB h
theorem wd {E : Env} {ts : List D} {H : List Ob} {Q : Exit → List D → List Ob → Prop} {id : Nat} {l : List Oper} (hg : l.all (fun o => o.guard.isNone) = true) (hm : E.P.follows .mixedOrders = true)
    (h : qops E l.toArray H l ts fun ts' => Q .normal ts' H) (hB : Region.lexB .any l.toArray = true := by kernel_rfl) : Sat E (.region id l.toArray true) ts H Q := sat_quiet hm hB h
theorem wp {E : Env} {ts : List D} {H : List Ob} {Q : Exit → List D → List Ob → Prop} {id : Nat} {l : List Oper} (hv : l.any heavyB = true) (hm : E.P.follows .mixedOrders = true)
    (h : hops E anyS .any l.toArray l ts H fun ts' H' => Q .normal ts' H') (hB : mixB l = true := by kernel_rfl) : Sat E (.region id l.toArray true) ts H Q := sat_mix hm hB h
theorem wq {E : Env} {ts : List D} {H : List Ob} {Q : Exit → List D → List Ob → Prop} {id : Nat} {l : List Oper} (hm : E.P.follows .mixedOrders = true)
    (h : qops E l.toArray H l ts fun ts' => Q .normal ts' H) (hB : Region.lexB .any l.toArray = true := by kernel_rfl) : Sat E (.region id l.toArray true) ts H Q := sat_quiet hm hB h
section
variable {E : Env} {o : Oper} {ts : List D} {H : List Ob}
theorem wx {K : D → List Ob → Prop} (h : aop E o ts H K) : aop E o ts H K := h
theorem wy {K : D → Prop} (h : Ex (fun d => aop E o ts H fun d' H' => d' = d ∧ H' = H) K) : Ex (fun d => aop E o ts H fun d' H' => d' = d ∧ H' = H) K := h
theorem wz {K : D → Prop} (h : Ex (fun d => ∀ H, aop E o ts H fun d' H' => d' = d ∧ H' = H) K) : Ex (fun d => ∀ H, aop E o ts H fun d' H' => d' = d ∧ H' = H) K := h
end
end Go.Ag
/- AGo, part 23: from a call that is told abstractly to the row's own words. -/
namespace Go.Ag
open Go Go.RowKit

/-- All that is there when the call begins never turns. -/
def memOf (W : World) : Mem := fun b o => W.cell? ⟨b, o, none⟩
theorem ACalls.row {P : Program} {G : Nat → Option (List V)} {f : FuncId} {args : List D} {vs : Array Value} {K : D → List Ob → Prop} {W : World} (h : ACalls P G f args [] K) (hG : ∀ g cs, G g = some cs → RelRow (memOf W) g 0 cs) (hv : RelL (memOf W) (fun _ => none) args vs.toList) :
    Calls P f vs W fun e W' => ∃ v d M' μ' H', e = .returned v ∧ Below W.heap.size W W' ∧ Rel M' μ' d v ∧ K d H' := by
  have hR : R ⟨P, G, W, memOf W, fun _ => none, []⟩ (memOf W) (fun _ => none) [] W :=
    ⟨Below.refl _ _, fun _ _ _ h => h, hG, fun _ _ h => (by cases h), fun _ _ _ h => (by simp at h), fun _ _ _ _ _ _ _ h => (by simp at h), fun _ h => (by simp at h)⟩
  have := h.2 ⟨P, G, W, memOf W, fun _ => none, []⟩ rfl rfl (memOf W) (fun _ => none) W vs.toList hR hv
  rw [show vs.toList.toArray = vs by simp] at this
  refine this.mono ?_
  rintro e W' ⟨v, d, M', μ', H', h1, _, _, h4, h5, h6⟩
  exact ⟨v, d, M', μ', H', h1, h4.below, h5, h6⟩
end Go.Ag
/- AGo, part 24: what the row reads off an argument, by value. -/
namespace Go.Ag
open Go Go.RowKit

def RelVs (M : Mem) : List V → List Value → Prop
  | [], [] => True
  | x :: xs, y :: ys => RelV M x y ∧ RelVs M xs ys
  | _, _ => False
theorem RelVs.append {M : Mem} : ∀ {a b : List V} {x y : List Value}, RelVs M a x → RelVs M b y → RelVs M (a ++ b) (x ++ y)
  | [], _, [], _, _, h => h
  | _ :: _, _, _ :: _, _, h1, h2 => ⟨h1.1, RelVs.append h1.2 h2⟩
theorem RelVs.length {M : Mem} : ∀ {a : List V} {x : List Value}, RelVs M a x → a.length = x.length
  | [], [], _ => rfl
  | _ :: _, _ :: _, h => by simp [RelVs.length h.2]
theorem RelVs.get {M : Mem} : ∀ {a : List V} {x : List Value}, RelVs M a x → ∀ (i : Nat) (d : V), a[i]? = some d → ∃ y, x[i]? = some y ∧ RelV M d y
  | [], [], _, i, d, h => by simp at h
  | v :: _, y :: _, hr, 0, d, h => by simp at h; subst h; exact ⟨y, rfl, hr.1⟩
  | v :: _, y :: _, hr, i + 1, d, h => by simpa using RelVs.get hr.2 i d (by simpa using h)

/-- Every reading of a thing of type t is of this kind. -/
def Reads (P : Program) (t : TypeId) (sz : Nat) (S : List V → Prop) : Prop :=
  P.cellsOf t = sz ∧ ∀ {H : Type} (enc : TypeId × Value → H) (w : World) (spare : Nat → Bool) (held : Bool) (fuel : Nat) (cs : List Value) (x : DataW H × List MemPlace),
    DataW.trod enc P w 0 spare held fuel t cs = some x → ∃ row, S row ∧ row.length = sz ∧ RelVs (memOf w) row cs
theorem Reads.mono {P : Program} {t : TypeId} {sz : Nat} {S S' : List V → Prop} (h : Reads P t sz S) (k : ∀ r, S r → S' r) : Reads P t sz S' :=
  ⟨h.1, fun enc w spare held fuel cs x hx => by obtain ⟨r, h1, h2, h3⟩ := h.2 enc w spare held fuel cs x hx; exact ⟨r, k r h1, h2, h3⟩⟩

theorem reads_string {P : Program} {t : TypeId} (ht : P.underlying t = some .string) (hc : P.cellsOf t = 1) : Reads P t 1 (fun r => ∃ s : List UInt8, r = [.str s] ∧ s.length ≤ 9223372036854775807) :=
  ⟨hc, fun enc w spare held fuel cs x hx => by
    obtain ⟨s, rfl, _, h⟩ := DataW.trod_string ht hx
    refine ⟨[.str s.data.toList], ⟨_, rfl, Nat.le_trans (Nat.le_of_eq rfl : s.data.toList.length ≤ s.size) (Nat.le_trans h (by decide))⟩, rfl, ?_⟩
    simp only [RelVs, RelV]
    exact ⟨trivial, trivial⟩⟩
theorem reads_bool {P : Program} {t : TypeId} (ht : P.underlying t = some .bool) (hc : P.cellsOf t = 1) : Reads P t 1 (fun r => ∃ b : Bool, r = [.bool b]) :=
  ⟨hc, fun enc w spare held fuel cs x hx => by
    obtain ⟨b, rfl, _⟩ := DataW.trod_bool ht hx
    refine ⟨[.bool b], ⟨_, rfl⟩, rfl, ?_⟩
    simp only [RelVs, RelV]
    exact ⟨trivial, trivial⟩⟩
theorem reads_int {P : Program} {t : TypeId} {k : IntKind} (ht : P.underlying t = some (.int k)) (hc : P.cellsOf t = 1) : Reads P t 1 (fun r => ∃ n : Int, r = [.int k n] ∧ (Lit.int k n).wf = true) :=
  ⟨hc, fun enc w spare held fuel cs x hx => by
    obtain ⟨n, rfl, _, h⟩ := DataW.trod_int ht hx
    refine ⟨[.int k n], ⟨_, rfl, h⟩, rfl, ?_⟩
    simp only [RelVs, RelV]
    exact ⟨trivial, trivial⟩⟩

theorem relRows_of {M : Mem} {sz b : Nat} : ∀ (xs : List (List V)) (o : Nat), (∀ i x, xs[i]? = some x → x.length = sz ∧ RelRow M b (o + i * sz) x) → RelRows M sz b o xs
  | [], o, _ => by simp [RelRows]
  | x :: xs, o, h => by
    have h0 := h 0 x rfl
    simp only [Nat.zero_mul, Nat.add_zero] at h0
    refine ⟨h0.1, h0.2, relRows_of xs (o + sz) fun i y hy => ?_⟩
    have := h (i + 1) y (by simpa using hy)
    rwa [Nat.add_mul, Nat.one_mul, Nat.add_comm (i * sz), ← Nat.add_assoc] at this
theorem relRow_of_cells {M : Mem} {b o : Nat} {row : List V} {cs : List Value} (hr : RelVs M row cs) (hc : ∀ i, i < cs.length → M b (o + i) = cs[i]?) : RelRow M b o row :=
  RelRow.of_get fun j d hj => by
    obtain ⟨y, h1, h2⟩ := hr.get j d hj
    have hl : j < cs.length := (List.getElem?_eq_some_iff.1 h1).1
    exact ⟨y, by rw [hc j hl, h1], h2⟩

theorem list_choose {α β : Type} {n : Nat} {f : Nat → Option α} {Q : α → β → Prop} (h : ∀ i, i < n → ∃ a b, f i = some a ∧ Q a b) : ∃ l : List β, l.length = n ∧ ∀ i b, l[i]? = some b → ∃ a, f i = some a ∧ Q a b := by
  induction n with
  | zero => exact ⟨[], rfl, fun i b h => by simp at h⟩
  | succ n ih =>
    obtain ⟨l, h1, h2⟩ := ih fun i hi => h i (by omega)
    obtain ⟨a, b, h3, h4⟩ := h n (by omega)
    refine ⟨l ++ [b], by simp [h1], fun i c hc => ?_⟩
    by_cases hi : i < n
    · rw [List.getElem?_append_left (by omega)] at hc; exact h2 i c hc
    · rw [List.getElem?_append_right (by omega)] at hc
      have : i = n := by
        have := (List.getElem?_eq_some_iff.1 hc).1
        simp at this; omega
      subst this
      simp [h1] at hc
      subst hc
      exact ⟨a, h3, h4⟩

theorem reads_slice {P : Program} {t e : TypeId} {sz : Nat} {S : List V → Prop} (ht : P.underlying t = some (.slice e)) (hc : P.cellsOf t = 1) (he : Reads P e sz S) (hz : 0 < sz) :
    Reads P t 1 (fun r => ∃ xs : List (List V), r = [.list sz xs] ∧ (∀ x ∈ xs, S x) ∧ xs.length ≤ 9223372036854775807) :=
  ⟨hc, fun {H} enc w spare held fuel cs x hx => by
    obtain ⟨hsz, hrd⟩ := he
    rcases DataW.trod_slice ht hx with ⟨rfl, _⟩ | ⟨a, len, cap, elems, rest, n, _, rfl, _, hb, hlc, hcm, hel, hel2, _, _⟩
    · refine ⟨[.list sz []], ⟨[], rfl, by simp, Nat.zero_le _⟩, rfl, ?_⟩
      simp only [RelVs, RelV]
      exact ⟨⟨none, 0, rfl, Nat.le_refl _, .inl trivial⟩, trivial⟩
    · rw [hsz] at hel2
      have key : ∀ i, i < len → ∃ (cs : List Value) (row : List V), w.cells? 0 (a.add (i * sz)) sz = some cs ∧ S row ∧ row.length = sz ∧ RelVs (memOf w) row cs := fun i hi => by
        have h1 := hel2 i hi
        obtain ⟨y, hy⟩ : ∃ y, elems[i]? = some y := ⟨_, List.getElem?_eq_getElem (by omega)⟩
        rw [hy] at h1
        obtain ⟨cs, h2, h3⟩ := Option.bind_eq_some_iff.1 h1
        obtain ⟨row, k1, k2, k3⟩ := hrd enc w spare held n cs y h3
        exact ⟨cs, row, h2, k1, k2, k3⟩
      obtain ⟨xs, hl, hxs⟩ := list_choose (f := fun i => w.cells? 0 (a.add (i * sz)) sz) (Q := fun cs row => S row ∧ row.length = sz ∧ RelVs (memOf w) row cs) key
      refine ⟨[.list sz xs], ⟨xs, rfl, fun x hx => ?_, ?_⟩, rfl, ?_⟩
      · obtain ⟨i, hi, rfl⟩ := List.getElem_of_mem hx
        obtain ⟨_, _, h, _⟩ := hxs i _ (List.getElem?_eq_getElem hi)
        exact h
      · have : maxLen ≤ 9223372036854775807 := by decide
        omega
      · simp only [RelVs, RelV]
        refine ⟨⟨some a, cap, by rw [hl], by omega, ?_⟩, trivial⟩
        rcases xs with _ | ⟨x0, xs⟩
        · exact .inl rfl
        · right
          obtain ⟨cs0, h1, _, h3, h4⟩ := hxs 0 x0 rfl
          have hspot : a.spot = none := by
            have h5 := (World.cells?_some h1).2.2 0 hz
            have h6 : cs0[0]? ≠ none := by
              have := (World.cells?_some h1).2.1
              rw [List.getElem?_eq_getElem (by omega)]; simp
            obtain ⟨v, hv⟩ := Option.ne_none_iff_exists'.1 h6
            rw [hv] at h5
            simpa [Addr.add] using World.cell?_spot h5
          obtain ⟨b, off, spot⟩ := a
          simp only at hspot
          subst hspot
          refine ⟨b, off, rfl, relRows_of _ _ fun i x hx => ?_⟩
          obtain ⟨cs, k1, _, k3, k4⟩ := hxs i x hx
          obtain ⟨_, g2, g3⟩ := World.cells?_some k1
          refine ⟨k3, relRow_of_cells k4 fun j hj => ?_⟩
          rw [g2] at hj
          have := g3 j hj
          rw [Go.WideShapes.add_plain, Go.WideShapes.add_plain] at this
          exact this⟩

/-- The same of a struct's fields, one after another. -/
def ReadsF (P : Program) : List Field → Nat → Nat → (List V → Prop) → Prop
  | [], _, n, S => n = 0 ∧ S = fun r => r = []
  | f :: fs, off, n, S => ∃ sz m S1 S2, n = sz + m ∧ f.offset = off ∧ Reads P f.type sz S1 ∧ ReadsF P fs (off + sz) m S2 ∧ S = fun r => ∃ a b, r = a ++ b ∧ S1 a ∧ S2 b
theorem readsF_get {P : Program} {H : Type} (enc : TypeId × Value → H) (w : World) (spare : Nat → Bool) (held : Bool) (fuel : Nat) (cs : List Value) :
    ∀ (fs : List Field) (off n : Nat) (S : List V → Prop), ReadsF P fs off n S → (∀ f ∈ fs, ∃ x, DataW.trod enc P w 0 spare held fuel f.type ((cs.drop f.offset).take (P.cellsOf f.type)) = some x) →
      ∃ row, S row ∧ row.length = n ∧ RelVs (memOf w) row ((cs.drop off).take n)
  | [], off, n, S, h, _ => by
    obtain ⟨rfl, rfl⟩ := h
    exact ⟨[], rfl, rfl, by simp [RelVs]⟩
  | f :: fs, off, n, S, h, hx => by
    obtain ⟨sz, m, S1, S2, rfl, hoff, ⟨hsz, hr⟩, hfs, rfl⟩ := h
    obtain ⟨x, h1⟩ := hx f (by simp)
    rw [hoff, hsz] at h1
    obtain ⟨a, k1, k2, k3⟩ := hr enc w spare held fuel _ x h1
    obtain ⟨b, g1, g2, g3⟩ := readsF_get enc w spare held fuel cs fs (off + sz) m S2 hfs fun f hf => hx f (by simp [hf])
    refine ⟨a ++ b, ⟨a, b, rfl, k1, g1⟩, by simp [k2, g2], ?_⟩
    have := k3.append g3
    rwa [← List.drop_drop, ← List.take_add] at this
theorem reads_struct {P : Program} {t : TypeId} {fs : Array Field} {n : Nat} {S : List V → Prop} (ht : P.underlying t = some (.struct fs)) (hc : P.cellsOf t = n) (hf : ReadsF P fs.toList 0 n S) : Reads P t n S :=
  ⟨hc, fun {H} enc w spare held fuel cs x hx => by
    obtain ⟨xs, m, _, _, hl, hxl, hall⟩ := DataW.trod_struct ht hx
    obtain ⟨row, h1, h2, h3⟩ := readsF_get enc w spare held m cs fs.toList 0 n S hf fun f hf => by
      obtain ⟨i, hi, rfl⟩ := List.getElem_of_mem hf
      have := hall i fs.toList[i] (by simp)
      have h4 : i < fs.size := by simpa using hi
      rw [List.getElem?_eq_getElem (by omega)] at this
      exact ⟨_, this⟩
    refine ⟨row, h1, h2, ?_⟩
    rwa [List.drop_zero, List.take_of_length_le (by omega)] at h3⟩
end Go.Ag
/- AGo: arguments that come in, one at a time. -/
namespace Go.Ag
open Go Go.RowKit Go.WideShapes

theorem arg_slice {P : Program} {W : World} {t e : TypeId} {S : List V → Prop} {H : Type} {enc : TypeId × Value → H} {sp : Nat → Bool} {held : Bool} {v : Value} {d : DataW H} {ps : List MemPlace} {r : Reach} {b : Nat}
    (ht : P.underlying t = some (.slice e)) (hr : Reads P t 1 S) (hval : Value.okWide P W r b t v) (h0 : DataW.Trod enc P W 0 sp held t v d ps) : ∃ x, S [x] ∧ RelV (memOf W) x v := by
  obtain ⟨a, len, cap, rfl⟩ := okWide_slice ht hval
  obtain ⟨fuel, hf⟩ := h0
  obtain ⟨row, h1, h2, h3⟩ := hr.2 enc W sp held fuel _ _ hf
  match row, h2, h3 with
  | [x], _, h3 => exact ⟨x, h1, h3.1⟩
theorem arg_string {P : Program} {W : World} {t : TypeId} {S : List V → Prop} {H : Type} {enc : TypeId × Value → H} {sp : Nat → Bool} {held : Bool} {v : Value} {d : DataW H} {ps : List MemPlace} {r : Reach} {b : Nat}
    (ht : P.underlying t = some .string) (hr : Reads P t 1 S) (hval : Value.okWide P W r b t v) (h0 : DataW.Trod enc P W 0 sp held t v d ps) : ∃ x, S [x] ∧ RelV (memOf W) x v := by
  obtain ⟨s, rfl⟩ := okWide_string ht hval
  obtain ⟨fuel, hf⟩ := h0
  obtain ⟨row, h1, h2, h3⟩ := hr.2 enc W sp held fuel _ _ hf
  match row, h2, h3 with
  | [x], _, h3 => exact ⟨x, h1, h3.1⟩
theorem arg_int {P : Program} {W : World} {t : TypeId} {k : IntKind} {S : List V → Prop} {H : Type} {enc : TypeId × Value → H} {sp : Nat → Bool} {held : Bool} {v : Value} {d : DataW H} {ps : List MemPlace} {r : Reach} {b : Nat}
    (ht : P.underlying t = some (.int k)) (hr : Reads P t 1 S) (hval : Value.okWide P W r b t v) (h0 : DataW.Trod enc P W 0 sp held t v d ps) : ∃ x, S [x] ∧ RelV (memOf W) x v := by
  obtain ⟨n, rfl⟩ := okWide_int ht hval
  obtain ⟨fuel, hf⟩ := h0
  obtain ⟨row, h1, h2, h3⟩ := hr.2 enc W sp held fuel _ _ hf
  match row, h2, h3 with
  | [x], _, h3 => exact ⟨x, h1, h3.1⟩
theorem arg_bool {P : Program} {W : World} {t : TypeId} {S : List V → Prop} {H : Type} {enc : TypeId × Value → H} {sp : Nat → Bool} {held : Bool} {v : Value} {d : DataW H} {ps : List MemPlace} {r : Reach} {b : Nat}
    (ht : P.underlying t = some .bool) (hr : Reads P t 1 S) (hval : Value.okWide P W r b t v) (h0 : DataW.Trod enc P W 0 sp held t v d ps) : ∃ x, S [x] ∧ RelV (memOf W) x v := by
  obtain ⟨n, rfl⟩ := okWide_bool ht hval
  obtain ⟨fuel, hf⟩ := h0
  obtain ⟨row, h1, h2, h3⟩ := hr.2 enc W sp held fuel _ _ hf
  match row, h2, h3 with
  | [x], _, h3 => exact ⟨x, h1, h3.1⟩
theorem relVs_relL {M : Mem} {μ : Mu} : ∀ {a : List V} {x : List Value}, RelVs M a x → RelL M μ (a.map .v) x
  | [], [], _ => by simp [RelL]
  | d :: _, y :: _, h => by
    rw [List.map_cons, RelL.cons]
    exact ⟨y, _, rfl, by simp only [Rel]; exact h.1, relVs_relL h.2⟩
theorem arg_struct {P : Program} {W : World} {t : TypeId} {fs : Array Field} {n : Nat} {S : List V → Prop} {H : Type} {enc : TypeId × Value → H} {sp : Nat → Bool} {held : Bool} {v : Value} {d : DataW H} {ps : List MemPlace} {r : Reach} {b : Nat}
    (ht : P.underlying t = some (.struct fs)) (hr : Reads P t n S) (hval : Value.okWide P W r b t v) (h0 : DataW.Trod enc P W 0 sp held t v d ps) : ∃ row, S row ∧ ∀ μ, Rel (memOf W) μ (.agg (row.map .v)) v := by
  obtain ⟨cs, rfl, _⟩ := okWide_struct ht hval
  obtain ⟨fuel, hf⟩ := h0
  obtain ⟨row, h1, h2, h3⟩ := hr.2 enc W sp held fuel _ _ hf
  refine ⟨row, h1, fun μ => ?_⟩
  simp only [Rel]
  exact ⟨cs.toList, by simp, relVs_relL h3⟩
theorem rel_v {M : Mem} {μ : Mu} {x : V} {v : Value} (h : RelV M x v) : Rel M μ (.v x) v := by simp only [Rel]; exact h
end Go.Ag
/- AGo: what all rows of seat D share. -/
namespace Go.Ag
open Go Go.RowKit Go.Proofs Go.Proofs.YtbiajjcolfhioaaDoor
namespace rowD

theorem own : ownKnob Tryd.prog.godebug = none := by kernel_rfl
theorem laidOut : laidOutB Tryd.prog = true := by kernel_rfl

def gOf (m : Int) : Nat → Option (List V) := fun g => if g = 0 then some [.int .i64 m] else none
theorem gOf_rel {W : World} {m : Int} (h : W.cell? ⟨0, 0, none⟩ = some (.int .i64 m)) : ∀ g cs, gOf m g = some cs → RelRow (memOf W) g 0 cs := by
  intro g cs hg
  unfold gOf at hg
  split at hg
  · rename_i e; subst e; cases hg
    exact RelRow.of_get fun j d hj => by
      cases j with
      | zero =>
        simp at hj; subst hj
        exact ⟨_, h, rfl⟩
      | succ j => simp at hj
  · cases hg
theorem maxLen_cell {W : World} (h : W.ShapedOpen Tryd.prog) : ∃ m, W.cell? ⟨0, 0, none⟩ = some (.int .i64 m) := Tryd.laysM143.s1_3 W h

/-- A world for the witness: the settled one, the two tables holding what the text lays. -/
noncomputable def laidWorld (os : Os) : World :=
  let w0 := World.holding Tryd.prog os ⟨#[], #[], []⟩
  let put (h : Array Obj) (g : Nat) (cs : Array Value) : Array Obj := h.modify g fun
    | .cells _ t frozen => .cells cs t frozen
    | o => o
  let h1 := put w0.heap 1 (Lib.firstTab.map fun z => Value.int .u8 z).toArray
  let h2 := put h1 2 ((List.range 16).flatMap fun i => [Value.int .u8 (Lib.accLo i), Value.int .u8 (Lib.accHi i)]).toArray
  { w0 with heap := h2 }
theorem laid_met (os : Os) (args : Array Value) : laidMet Tryd.prog [("unicode/utf8.acceptRanges", Rows.laid_unicode_utf8_acceptRanges), ("unicode/utf8.first", Rows.laid_unicode_utf8_first)] ((laidWorld os).forCall (fun _ _ => 0) ⟨#[], args, []⟩).memory :=
  laidMet_of_run3 10 (by kernel_rfl) (by kernel_rfl) (by kernel_rfl)
end rowD
end Go.Ag
/- Facts on the types of a program, printed by types.py. -/
namespace Go.Ag
open Go Go.Proofs
theorem tk_0 : tk Tryd.prog 0 = .sc := by kernel_rfl
theorem ze_0 : zerosB Tryd.prog 0 = some [.any] := by kernel_rfl
theorem sz_0 : szB Tryd.prog 0 = 1 := by kernel_rfl
theorem tk_1 : tk Tryd.prog 1 = .sc := by kernel_rfl
theorem ze_1 : zerosB Tryd.prog 1 = some [.nilf] := by kernel_rfl
theorem sz_1 : szB Tryd.prog 1 = 1 := by kernel_rfl
theorem tk_2 : tk Tryd.prog 2 = (.it .i64) := by kernel_rfl
theorem ze_2 : zerosB Tryd.prog 2 = some [(.v (.int .i64 0))] := by kernel_rfl
theorem sz_2 : szB Tryd.prog 2 = 1 := by kernel_rfl
theorem tk_3 : tk Tryd.prog 3 = (.it .i64) := by kernel_rfl
theorem ze_3 : zerosB Tryd.prog 3 = some [(.v (.int .i64 0))] := by kernel_rfl
theorem sz_3 : szB Tryd.prog 3 = 1 := by kernel_rfl
theorem tk_4 : tk Tryd.prog 4 = .bl := by kernel_rfl
theorem ze_4 : zerosB Tryd.prog 4 = some [(.v (.bool false))] := by kernel_rfl
theorem sz_4 : szB Tryd.prog 4 = 1 := by kernel_rfl
theorem tk_5 : tk Tryd.prog 5 = (.it .u8) := by kernel_rfl
theorem ze_5 : zerosB Tryd.prog 5 = some [(.v (.int .u8 0))] := by kernel_rfl
theorem sz_5 : szB Tryd.prog 5 = 1 := by kernel_rfl
theorem tk_6 : tk Tryd.prog 6 = (.it .u8) := by kernel_rfl
theorem ze_6 : zerosB Tryd.prog 6 = some [(.v (.int .u8 0))] := by kernel_rfl
theorem sz_6 : szB Tryd.prog 6 = 1 := by kernel_rfl
theorem tk_7 : tk Tryd.prog 7 = (.st 4 [(0, 1), (1, 1), (2, 1), (3, 1)]) := by kernel_rfl
theorem ze_7 : zerosB Tryd.prog 7 = some [(.v (.int .i64 0)), (.v (.int .i64 0)), (.v (.bool false)), (.v (.int .u8 0))] := by kernel_rfl
theorem sz_7 : szB Tryd.prog 7 = 4 := by kernel_rfl
theorem kn_7 : knownB Tryd.prog 7 = true := by kernel_rfl
theorem tk_8 : tk Tryd.prog 8 = (.st 4 [(0, 1), (1, 1), (2, 1), (3, 1)]) := by kernel_rfl
theorem ze_8 : zerosB Tryd.prog 8 = some [(.v (.int .i64 0)), (.v (.int .i64 0)), (.v (.bool false)), (.v (.int .u8 0))] := by kernel_rfl
theorem sz_8 : szB Tryd.prog 8 = 4 := by kernel_rfl
theorem kn_8 : knownB Tryd.prog 8 = true := by kernel_rfl
theorem tk_9 : tk Tryd.prog 9 = .str := by kernel_rfl
theorem ze_9 : zerosB Tryd.prog 9 = some [(.v (.str []))] := by kernel_rfl
theorem sz_9 : szB Tryd.prog 9 = 1 := by kernel_rfl
theorem tk_10 : tk Tryd.prog 10 = .str := by kernel_rfl
theorem ze_10 : zerosB Tryd.prog 10 = some [(.v (.str []))] := by kernel_rfl
theorem sz_10 : szB Tryd.prog 10 = 1 := by kernel_rfl
theorem tk_11 : tk Tryd.prog 11 = .str := by kernel_rfl
theorem ze_11 : zerosB Tryd.prog 11 = some [(.v (.str []))] := by kernel_rfl
theorem sz_11 : szB Tryd.prog 11 = 1 := by kernel_rfl
theorem tk_12 : tk Tryd.prog 12 = (.it .u64) := by kernel_rfl
theorem ze_12 : zerosB Tryd.prog 12 = some [(.v (.int .u64 0))] := by kernel_rfl
theorem sz_12 : szB Tryd.prog 12 = 1 := by kernel_rfl
theorem tk_13 : tk Tryd.prog 13 = (.st 2 [(0, 1), (1, 1)]) := by kernel_rfl
theorem ze_13 : zerosB Tryd.prog 13 = some [(.v (.str [])), (.v (.int .u64 0))] := by kernel_rfl
theorem sz_13 : szB Tryd.prog 13 = 2 := by kernel_rfl
theorem kn_13 : knownB Tryd.prog 13 = true := by kernel_rfl
theorem tk_14 : tk Tryd.prog 14 = (.st 2 [(0, 1), (1, 1)]) := by kernel_rfl
theorem ze_14 : zerosB Tryd.prog 14 = some [(.v (.str [])), (.v (.int .u64 0))] := by kernel_rfl
theorem sz_14 : szB Tryd.prog 14 = 2 := by kernel_rfl
theorem kn_14 : knownB Tryd.prog 14 = true := by kernel_rfl
theorem tk_15 : tk Tryd.prog 15 = .pt := by kernel_rfl
theorem ze_15 : zerosB Tryd.prog 15 = some [.nilp] := by kernel_rfl
theorem sz_15 : szB Tryd.prog 15 = 1 := by kernel_rfl
theorem tk_16 : tk Tryd.prog 16 = .pt := by kernel_rfl
theorem ze_16 : zerosB Tryd.prog 16 = some [.nilp] := by kernel_rfl
theorem sz_16 : szB Tryd.prog 16 = 1 := by kernel_rfl
theorem tk_17 : tk Tryd.prog 17 = .pt := by kernel_rfl
theorem ze_17 : zerosB Tryd.prog 17 = some [.nilp] := by kernel_rfl
theorem sz_17 : szB Tryd.prog 17 = 1 := by kernel_rfl
theorem tk_18 : tk Tryd.prog 18 = (.st 1 [(0, 1)]) := by kernel_rfl
theorem ze_18 : zerosB Tryd.prog 18 = some [.nilp] := by kernel_rfl
theorem sz_18 : szB Tryd.prog 18 = 1 := by kernel_rfl
theorem kn_18 : knownB Tryd.prog 18 = true := by kernel_rfl
theorem tk_19 : tk Tryd.prog 19 = (.st 1 [(0, 1)]) := by kernel_rfl
theorem ze_19 : zerosB Tryd.prog 19 = some [.nilp] := by kernel_rfl
theorem sz_19 : szB Tryd.prog 19 = 1 := by kernel_rfl
theorem kn_19 : knownB Tryd.prog 19 = true := by kernel_rfl
theorem tk_20 : tk Tryd.prog 20 = .sc := by kernel_rfl
theorem ze_20 : zerosB Tryd.prog 20 = some [(.v .nili)] := by kernel_rfl
theorem sz_20 : szB Tryd.prog 20 = 1 := by kernel_rfl
theorem tk_21 : tk Tryd.prog 21 = (.it .i32) := by kernel_rfl
theorem ze_21 : zerosB Tryd.prog 21 = some [(.v (.int .i32 0))] := by kernel_rfl
theorem sz_21 : szB Tryd.prog 21 = 1 := by kernel_rfl
theorem tk_22 : tk Tryd.prog 22 = .sc := by kernel_rfl
theorem ze_22 : zerosB Tryd.prog 22 = some [.nilf] := by kernel_rfl
theorem sz_22 : szB Tryd.prog 22 = 1 := by kernel_rfl
theorem tk_23 : tk Tryd.prog 23 = (.sl 59 3 40) := by kernel_rfl
theorem ze_23 : zerosB Tryd.prog 23 = some [.nils] := by kernel_rfl
theorem sz_23 : szB Tryd.prog 23 = 1 := by kernel_rfl
theorem tk_24 : tk Tryd.prog 24 = (.it .i64) := by kernel_rfl
theorem ze_24 : zerosB Tryd.prog 24 = some [(.v (.int .i64 0))] := by kernel_rfl
theorem sz_24 : szB Tryd.prog 24 = 1 := by kernel_rfl
theorem tk_25 : tk Tryd.prog 25 = .sc := by kernel_rfl
theorem ze_25 : zerosB Tryd.prog 25 = some [.any] := by kernel_rfl
theorem sz_25 : szB Tryd.prog 25 = 1 := by kernel_rfl
theorem tk_26 : tk Tryd.prog 26 = .sc := by kernel_rfl
theorem ze_26 : zerosB Tryd.prog 26 = some [.nilf] := by kernel_rfl
theorem sz_26 : szB Tryd.prog 26 = 1 := by kernel_rfl
theorem tk_27 : tk Tryd.prog 27 = (.sl 68 3 40) := by kernel_rfl
theorem ze_27 : zerosB Tryd.prog 27 = some [.nils] := by kernel_rfl
theorem sz_27 : szB Tryd.prog 27 = 1 := by kernel_rfl
theorem tk_28 : tk Tryd.prog 28 = .sc := by kernel_rfl
theorem ze_28 : zerosB Tryd.prog 28 = some [.any] := by kernel_rfl
theorem sz_28 : szB Tryd.prog 28 = 1 := by kernel_rfl
theorem tk_29 : tk Tryd.prog 29 = .sc := by kernel_rfl
theorem ze_29 : zerosB Tryd.prog 29 = some [.nilf] := by kernel_rfl
theorem sz_29 : szB Tryd.prog 29 = 1 := by kernel_rfl
theorem tk_30 : tk Tryd.prog 30 = .sc := by kernel_rfl
theorem ze_30 : zerosB Tryd.prog 30 = some [.nilf] := by kernel_rfl
theorem sz_30 : szB Tryd.prog 30 = 1 := by kernel_rfl
theorem tk_31 : tk Tryd.prog 31 = .sc := by kernel_rfl
theorem ze_31 : zerosB Tryd.prog 31 = some [.nilf] := by kernel_rfl
theorem sz_31 : szB Tryd.prog 31 = 1 := by kernel_rfl
theorem tk_32 : tk Tryd.prog 32 = .sc := by kernel_rfl
theorem ze_32 : zerosB Tryd.prog 32 = some [.any] := by kernel_rfl
theorem sz_32 : szB Tryd.prog 32 = 1 := by kernel_rfl
theorem tk_33 : tk Tryd.prog 33 = .sc := by kernel_rfl
theorem ze_33 : zerosB Tryd.prog 33 = some [.nilf] := by kernel_rfl
theorem sz_33 : szB Tryd.prog 33 = 1 := by kernel_rfl
theorem tk_34 : tk Tryd.prog 34 = .sc := by kernel_rfl
theorem ze_34 : zerosB Tryd.prog 34 = some [.nilf] := by kernel_rfl
theorem sz_34 : szB Tryd.prog 34 = 1 := by kernel_rfl
theorem tk_35 : tk Tryd.prog 35 = (.sl 46 6 104) := by kernel_rfl
theorem ze_35 : zerosB Tryd.prog 35 = some [.nils] := by kernel_rfl
theorem sz_35 : szB Tryd.prog 35 = 1 := by kernel_rfl
theorem tk_36 : tk Tryd.prog 36 = .sc := by kernel_rfl
theorem ze_36 : zerosB Tryd.prog 36 = some [.nilf] := by kernel_rfl
theorem sz_36 : szB Tryd.prog 36 = 1 := by kernel_rfl
theorem tk_37 : tk Tryd.prog 37 = .sc := by kernel_rfl
theorem ze_37 : zerosB Tryd.prog 37 = some [.nilf] := by kernel_rfl
theorem sz_37 : szB Tryd.prog 37 = 1 := by kernel_rfl
theorem tk_38 : tk Tryd.prog 38 = .sc := by kernel_rfl
theorem ze_38 : zerosB Tryd.prog 38 = some [.any] := by kernel_rfl
theorem sz_38 : szB Tryd.prog 38 = 1 := by kernel_rfl
theorem tk_39 : tk Tryd.prog 39 = .sc := by kernel_rfl
theorem ze_39 : zerosB Tryd.prog 39 = some [.nilf] := by kernel_rfl
theorem sz_39 : szB Tryd.prog 39 = 1 := by kernel_rfl
theorem tk_40 : tk Tryd.prog 40 = .sc := by kernel_rfl
theorem ze_40 : zerosB Tryd.prog 40 = some [.nilf] := by kernel_rfl
theorem sz_40 : szB Tryd.prog 40 = 1 := by kernel_rfl
theorem tk_41 : tk Tryd.prog 41 = .sc := by kernel_rfl
theorem ze_41 : zerosB Tryd.prog 41 = some [.nilf] := by kernel_rfl
theorem sz_41 : szB Tryd.prog 41 = 1 := by kernel_rfl
theorem tk_42 : tk Tryd.prog 42 = .sc := by kernel_rfl
theorem ze_42 : zerosB Tryd.prog 42 = some [.nilf] := by kernel_rfl
theorem sz_42 : szB Tryd.prog 42 = 1 := by kernel_rfl
theorem tk_43 : tk Tryd.prog 43 = (.sl 73 2 32) := by kernel_rfl
theorem ze_43 : zerosB Tryd.prog 43 = some [.nils] := by kernel_rfl
theorem sz_43 : szB Tryd.prog 43 = 1 := by kernel_rfl
theorem tk_44 : tk Tryd.prog 44 = (.sl 52 3 48) := by kernel_rfl
theorem ze_44 : zerosB Tryd.prog 44 = some [.nils] := by kernel_rfl
theorem sz_44 : szB Tryd.prog 44 = 1 := by kernel_rfl
theorem tk_45 : tk Tryd.prog 45 = (.st 6 [(0, 1), (1, 1), (2, 1), (3, 1), (4, 1), (5, 1)]) := by kernel_rfl
theorem ze_45 : zerosB Tryd.prog 45 = some [(.v (.str [])), (.v (.str [])), (.v (.bool false)), (.v (.str [])), .nils, .nils] := by kernel_rfl
theorem sz_45 : szB Tryd.prog 45 = 6 := by kernel_rfl
theorem kn_45 : knownB Tryd.prog 45 = true := by kernel_rfl
theorem tk_46 : tk Tryd.prog 46 = (.st 6 [(0, 1), (1, 1), (2, 1), (3, 1), (4, 1), (5, 1)]) := by kernel_rfl
theorem ze_46 : zerosB Tryd.prog 46 = some [(.v (.str [])), (.v (.str [])), (.v (.bool false)), (.v (.str [])), .nils, .nils] := by kernel_rfl
theorem sz_46 : szB Tryd.prog 46 = 6 := by kernel_rfl
theorem kn_46 : knownB Tryd.prog 46 = true := by kernel_rfl
theorem tk_47 : tk Tryd.prog 47 = .sc := by kernel_rfl
theorem ze_47 : zerosB Tryd.prog 47 = some [.nilf] := by kernel_rfl
theorem sz_47 : szB Tryd.prog 47 = 1 := by kernel_rfl
theorem tk_48 : tk Tryd.prog 48 = .sc := by kernel_rfl
theorem ze_48 : zerosB Tryd.prog 48 = some [.nilf] := by kernel_rfl
theorem sz_48 : szB Tryd.prog 48 = 1 := by kernel_rfl
theorem tk_49 : tk Tryd.prog 49 = .sc := by kernel_rfl
theorem ze_49 : zerosB Tryd.prog 49 = some [.nilf] := by kernel_rfl
theorem sz_49 : szB Tryd.prog 49 = 1 := by kernel_rfl
theorem tk_50 : tk Tryd.prog 50 = (.sl 9 1 16) := by kernel_rfl
theorem ze_50 : zerosB Tryd.prog 50 = some [.nils] := by kernel_rfl
theorem sz_50 : szB Tryd.prog 50 = 1 := by kernel_rfl
theorem tk_51 : tk Tryd.prog 51 = (.st 3 [(0, 1), (1, 1), (2, 1)]) := by kernel_rfl
theorem ze_51 : zerosB Tryd.prog 51 = some [(.v (.str [])), (.v (.int .i64 0)), .nils] := by kernel_rfl
theorem sz_51 : szB Tryd.prog 51 = 3 := by kernel_rfl
theorem kn_51 : knownB Tryd.prog 51 = true := by kernel_rfl
theorem tk_52 : tk Tryd.prog 52 = (.st 3 [(0, 1), (1, 1), (2, 1)]) := by kernel_rfl
theorem ze_52 : zerosB Tryd.prog 52 = some [(.v (.str [])), (.v (.int .i64 0)), .nils] := by kernel_rfl
theorem sz_52 : szB Tryd.prog 52 = 3 := by kernel_rfl
theorem kn_52 : knownB Tryd.prog 52 = true := by kernel_rfl
theorem tk_53 : tk Tryd.prog 53 = .sc := by kernel_rfl
theorem ze_53 : zerosB Tryd.prog 53 = some [.nilf] := by kernel_rfl
theorem sz_53 : szB Tryd.prog 53 = 1 := by kernel_rfl
theorem tk_54 : tk Tryd.prog 54 = .sc := by kernel_rfl
theorem ze_54 : zerosB Tryd.prog 54 = some [.nilf] := by kernel_rfl
theorem sz_54 : szB Tryd.prog 54 = 1 := by kernel_rfl
theorem tk_55 : tk Tryd.prog 55 = .sc := by kernel_rfl
theorem ze_55 : zerosB Tryd.prog 55 = some [.nilf] := by kernel_rfl
theorem sz_55 : szB Tryd.prog 55 = 1 := by kernel_rfl
theorem tk_56 : tk Tryd.prog 56 = .sc := by kernel_rfl
theorem ze_56 : zerosB Tryd.prog 56 = some [.nilf] := by kernel_rfl
theorem sz_56 : szB Tryd.prog 56 = 1 := by kernel_rfl
theorem tk_57 : tk Tryd.prog 57 = .sc := by kernel_rfl
theorem ze_57 : zerosB Tryd.prog 57 = some [.nilf] := by kernel_rfl
theorem sz_57 : szB Tryd.prog 57 = 1 := by kernel_rfl
theorem tk_58 : tk Tryd.prog 58 = (.st 3 [(0, 1), (1, 1), (2, 1)]) := by kernel_rfl
theorem ze_58 : zerosB Tryd.prog 58 = some [(.v (.str [])), (.v (.bool false)), (.v (.str []))] := by kernel_rfl
theorem sz_58 : szB Tryd.prog 58 = 3 := by kernel_rfl
theorem kn_58 : knownB Tryd.prog 58 = true := by kernel_rfl
theorem tk_59 : tk Tryd.prog 59 = (.st 3 [(0, 1), (1, 1), (2, 1)]) := by kernel_rfl
theorem ze_59 : zerosB Tryd.prog 59 = some [(.v (.str [])), (.v (.bool false)), (.v (.str []))] := by kernel_rfl
theorem sz_59 : szB Tryd.prog 59 = 3 := by kernel_rfl
theorem kn_59 : knownB Tryd.prog 59 = true := by kernel_rfl
theorem tk_60 : tk Tryd.prog 60 = .sc := by kernel_rfl
theorem ze_60 : zerosB Tryd.prog 60 = some [.nilf] := by kernel_rfl
theorem sz_60 : szB Tryd.prog 60 = 1 := by kernel_rfl
theorem tk_61 : tk Tryd.prog 61 = .sc := by kernel_rfl
theorem ze_61 : zerosB Tryd.prog 61 = some [.any] := by kernel_rfl
theorem sz_61 : szB Tryd.prog 61 = 1 := by kernel_rfl
theorem tk_62 : tk Tryd.prog 62 = .sc := by kernel_rfl
theorem ze_62 : zerosB Tryd.prog 62 = some [.nilf] := by kernel_rfl
theorem sz_62 : szB Tryd.prog 62 = 1 := by kernel_rfl
theorem tk_63 : tk Tryd.prog 63 = .sc := by kernel_rfl
theorem ze_63 : zerosB Tryd.prog 63 = some [.nilf] := by kernel_rfl
theorem sz_63 : szB Tryd.prog 63 = 1 := by kernel_rfl
theorem tk_64 : tk Tryd.prog 64 = .sc := by kernel_rfl
theorem ze_64 : zerosB Tryd.prog 64 = some [.nilf] := by kernel_rfl
theorem sz_64 : szB Tryd.prog 64 = 1 := by kernel_rfl
theorem tk_65 : tk Tryd.prog 65 = .sc := by kernel_rfl
theorem ze_65 : zerosB Tryd.prog 65 = some [.any] := by kernel_rfl
theorem sz_65 : szB Tryd.prog 65 = 1 := by kernel_rfl
theorem tk_66 : tk Tryd.prog 66 = .sc := by kernel_rfl
theorem ze_66 : zerosB Tryd.prog 66 = some [.nilf] := by kernel_rfl
theorem sz_66 : szB Tryd.prog 66 = 1 := by kernel_rfl
theorem tk_67 : tk Tryd.prog 67 = .sc := by kernel_rfl
theorem ze_67 : zerosB Tryd.prog 67 = some [.nilf] := by kernel_rfl
theorem sz_67 : szB Tryd.prog 67 = 1 := by kernel_rfl
theorem tk_68 : tk Tryd.prog 68 = (.st 3 [(0, 1), (1, 1), (2, 1)]) := by kernel_rfl
theorem ze_68 : zerosB Tryd.prog 68 = some [(.v (.str [])), (.v (.bool false)), (.v (.str []))] := by kernel_rfl
theorem sz_68 : szB Tryd.prog 68 = 3 := by kernel_rfl
theorem kn_68 : knownB Tryd.prog 68 = true := by kernel_rfl
theorem tk_69 : tk Tryd.prog 69 = .sc := by kernel_rfl
theorem ze_69 : zerosB Tryd.prog 69 = some [.nilf] := by kernel_rfl
theorem sz_69 : szB Tryd.prog 69 = 1 := by kernel_rfl
theorem tk_70 : tk Tryd.prog 70 = .sc := by kernel_rfl
theorem ze_70 : zerosB Tryd.prog 70 = some [.nilf] := by kernel_rfl
theorem sz_70 : szB Tryd.prog 70 = 1 := by kernel_rfl
theorem tk_71 : tk Tryd.prog 71 = .sc := by kernel_rfl
theorem ze_71 : zerosB Tryd.prog 71 = some [.nilf] := by kernel_rfl
theorem sz_71 : szB Tryd.prog 71 = 1 := by kernel_rfl
theorem tk_72 : tk Tryd.prog 72 = (.st 2 [(0, 1), (1, 1)]) := by kernel_rfl
theorem ze_72 : zerosB Tryd.prog 72 = some [(.v (.str [])), (.v (.str []))] := by kernel_rfl
theorem sz_72 : szB Tryd.prog 72 = 2 := by kernel_rfl
theorem kn_72 : knownB Tryd.prog 72 = true := by kernel_rfl
theorem tk_73 : tk Tryd.prog 73 = (.st 2 [(0, 1), (1, 1)]) := by kernel_rfl
theorem ze_73 : zerosB Tryd.prog 73 = some [(.v (.str [])), (.v (.str []))] := by kernel_rfl
theorem sz_73 : szB Tryd.prog 73 = 2 := by kernel_rfl
theorem kn_73 : knownB Tryd.prog 73 = true := by kernel_rfl
theorem tk_74 : tk Tryd.prog 74 = .sc := by kernel_rfl
theorem ze_74 : zerosB Tryd.prog 74 = some [.nilf] := by kernel_rfl
theorem sz_74 : szB Tryd.prog 74 = 1 := by kernel_rfl
theorem tk_75 : tk Tryd.prog 75 = .sc := by kernel_rfl
theorem ze_75 : zerosB Tryd.prog 75 = some [.nilf] := by kernel_rfl
theorem sz_75 : szB Tryd.prog 75 = 1 := by kernel_rfl
theorem tk_76 : tk Tryd.prog 76 = .sc := by kernel_rfl
theorem ze_76 : zerosB Tryd.prog 76 = some [.nilf] := by kernel_rfl
theorem sz_76 : szB Tryd.prog 76 = 1 := by kernel_rfl
theorem tk_77 : tk Tryd.prog 77 = .sc := by kernel_rfl
theorem ze_77 : zerosB Tryd.prog 77 = some [.nilf] := by kernel_rfl
theorem sz_77 : szB Tryd.prog 77 = 1 := by kernel_rfl
theorem tk_78 : tk Tryd.prog 78 = .sc := by kernel_rfl
theorem ze_78 : zerosB Tryd.prog 78 = some [.nilf] := by kernel_rfl
theorem sz_78 : szB Tryd.prog 78 = 1 := by kernel_rfl
theorem tk_79 : tk Tryd.prog 79 = .sc := by kernel_rfl
theorem ze_79 : zerosB Tryd.prog 79 = some [.any] := by kernel_rfl
theorem sz_79 : szB Tryd.prog 79 = 1 := by kernel_rfl
theorem tk_80 : tk Tryd.prog 80 = .sc := by kernel_rfl
theorem ze_80 : zerosB Tryd.prog 80 = some [.nilf] := by kernel_rfl
theorem sz_80 : szB Tryd.prog 80 = 1 := by kernel_rfl
theorem tk_81 : tk Tryd.prog 81 = .sc := by kernel_rfl
theorem ze_81 : zerosB Tryd.prog 81 = some [.nilf] := by kernel_rfl
theorem sz_81 : szB Tryd.prog 81 = 1 := by kernel_rfl
theorem tk_82 : tk Tryd.prog 82 = .sc := by kernel_rfl
theorem ze_82 : zerosB Tryd.prog 82 = some [.nilf] := by kernel_rfl
theorem sz_82 : szB Tryd.prog 82 = 1 := by kernel_rfl
theorem tk_83 : tk Tryd.prog 83 = (.mp 87 3) := by kernel_rfl
theorem ze_83 : zerosB Tryd.prog 83 = some [.nilm] := by kernel_rfl
theorem sz_83 : szB Tryd.prog 83 = 1 := by kernel_rfl
theorem tk_84 : tk Tryd.prog 84 = (.sl 87 2 24) := by kernel_rfl
theorem ze_84 : zerosB Tryd.prog 84 = some [.nils] := by kernel_rfl
theorem sz_84 : szB Tryd.prog 84 = 1 := by kernel_rfl
theorem tk_85 : tk Tryd.prog 85 = .sc := by kernel_rfl
theorem ze_85 : zerosB Tryd.prog 85 = some [.nilf] := by kernel_rfl
theorem sz_85 : szB Tryd.prog 85 = 1 := by kernel_rfl
theorem tk_86 : tk Tryd.prog 86 = (.st 2 [(0, 1), (1, 1)]) := by kernel_rfl
theorem ze_86 : zerosB Tryd.prog 86 = some [(.v (.bool false)), (.v (.str []))] := by kernel_rfl
theorem sz_86 : szB Tryd.prog 86 = 2 := by kernel_rfl
theorem kn_86 : knownB Tryd.prog 86 = true := by kernel_rfl
theorem tk_87 : tk Tryd.prog 87 = (.st 2 [(0, 1), (1, 1)]) := by kernel_rfl
theorem ze_87 : zerosB Tryd.prog 87 = some [(.v (.bool false)), (.v (.str []))] := by kernel_rfl
theorem sz_87 : szB Tryd.prog 87 = 2 := by kernel_rfl
theorem kn_87 : knownB Tryd.prog 87 = true := by kernel_rfl
theorem tk_88 : tk Tryd.prog 88 = .sc := by kernel_rfl
theorem ze_88 : zerosB Tryd.prog 88 = some [.nilf] := by kernel_rfl
theorem sz_88 : szB Tryd.prog 88 = 1 := by kernel_rfl
theorem tk_89 : tk Tryd.prog 89 = .sc := by kernel_rfl
theorem ze_89 : zerosB Tryd.prog 89 = some [.nilf] := by kernel_rfl
theorem sz_89 : szB Tryd.prog 89 = 1 := by kernel_rfl
theorem tk_90 : tk Tryd.prog 90 = .sc := by kernel_rfl
theorem ze_90 : zerosB Tryd.prog 90 = some [.nilf] := by kernel_rfl
theorem sz_90 : szB Tryd.prog 90 = 1 := by kernel_rfl
theorem tk_91 : tk Tryd.prog 91 = .sc := by kernel_rfl
theorem ze_91 : zerosB Tryd.prog 91 = some [.nilf] := by kernel_rfl
theorem sz_91 : szB Tryd.prog 91 = 1 := by kernel_rfl
theorem tk_92 : tk Tryd.prog 92 = .pt := by kernel_rfl
theorem ze_92 : zerosB Tryd.prog 92 = some [.nilp] := by kernel_rfl
theorem sz_92 : szB Tryd.prog 92 = 1 := by kernel_rfl
theorem tk_93 : tk Tryd.prog 93 = (.sl 5 1 1) := by kernel_rfl
theorem ze_93 : zerosB Tryd.prog 93 = some [.nils] := by kernel_rfl
theorem sz_93 : szB Tryd.prog 93 = 1 := by kernel_rfl
theorem tk_94 : tk Tryd.prog 94 = (.st 2 [(0, 1), (1, 1)]) := by kernel_rfl
theorem ze_94 : zerosB Tryd.prog 94 = some [.nilp, .nils] := by kernel_rfl
theorem sz_94 : szB Tryd.prog 94 = 2 := by kernel_rfl
theorem kn_94 : knownB Tryd.prog 94 = true := by kernel_rfl
theorem tk_95 : tk Tryd.prog 95 = (.st 2 [(0, 1), (1, 1)]) := by kernel_rfl
theorem ze_95 : zerosB Tryd.prog 95 = some [.nilp, .nils] := by kernel_rfl
theorem sz_95 : szB Tryd.prog 95 = 2 := by kernel_rfl
theorem kn_95 : knownB Tryd.prog 95 = true := by kernel_rfl
theorem tk_96 : tk Tryd.prog 96 = .sc := by kernel_rfl
theorem ze_96 : zerosB Tryd.prog 96 = some [.nilf] := by kernel_rfl
theorem sz_96 : szB Tryd.prog 96 = 1 := by kernel_rfl
theorem tk_97 : tk Tryd.prog 97 = .sc := by kernel_rfl
theorem ze_97 : zerosB Tryd.prog 97 = some [(.v .nili)] := by kernel_rfl
theorem sz_97 : szB Tryd.prog 97 = 1 := by kernel_rfl
theorem tk_98 : tk Tryd.prog 98 = .sc := by kernel_rfl
theorem ze_98 : zerosB Tryd.prog 98 = some [(.v .nili)] := by kernel_rfl
theorem sz_98 : szB Tryd.prog 98 = 1 := by kernel_rfl
theorem tk_99 : tk Tryd.prog 99 = .sc := by kernel_rfl
theorem ze_99 : zerosB Tryd.prog 99 = some [.any] := by kernel_rfl
theorem sz_99 : szB Tryd.prog 99 = 1 := by kernel_rfl
theorem tk_100 : tk Tryd.prog 100 = .sc := by kernel_rfl
theorem ze_100 : zerosB Tryd.prog 100 = some [.nilf] := by kernel_rfl
theorem sz_100 : szB Tryd.prog 100 = 1 := by kernel_rfl
theorem tk_101 : tk Tryd.prog 101 = .sc := by kernel_rfl
theorem ze_101 : zerosB Tryd.prog 101 = some [.nilf] := by kernel_rfl
theorem sz_101 : szB Tryd.prog 101 = 1 := by kernel_rfl
theorem tk_102 : tk Tryd.prog 102 = .sc := by kernel_rfl
theorem ze_102 : zerosB Tryd.prog 102 = some [.nilf] := by kernel_rfl
theorem sz_102 : szB Tryd.prog 102 = 1 := by kernel_rfl
theorem tk_103 : tk Tryd.prog 103 = .sc := by kernel_rfl
theorem ze_103 : zerosB Tryd.prog 103 = some [.nilf] := by kernel_rfl
theorem sz_103 : szB Tryd.prog 103 = 1 := by kernel_rfl
theorem tk_104 : tk Tryd.prog 104 = (.it .u64) := by kernel_rfl
theorem ze_104 : zerosB Tryd.prog 104 = some [(.v (.int .u64 0))] := by kernel_rfl
theorem sz_104 : szB Tryd.prog 104 = 1 := by kernel_rfl
theorem tk_105 : tk Tryd.prog 105 = (.ar 20 1 20) := by kernel_rfl
theorem ze_105 : zerosB Tryd.prog 105 = some [(.v (.int .u8 0)), (.v (.int .u8 0)), (.v (.int .u8 0)), (.v (.int .u8 0)), (.v (.int .u8 0)), (.v (.int .u8 0)), (.v (.int .u8 0)), (.v (.int .u8 0)), (.v (.int .u8 0)), (.v (.int .u8 0)), (.v (.int .u8 0)), (.v (.int .u8 0)), (.v (.int .u8 0)), (.v (.int .u8 0)), (.v (.int .u8 0)), (.v (.int .u8 0)), (.v (.int .u8 0)), (.v (.int .u8 0)), (.v (.int .u8 0)), (.v (.int .u8 0))] := by kernel_rfl
theorem sz_105 : szB Tryd.prog 105 = 20 := by kernel_rfl
theorem kn_105 : knownB Tryd.prog 105 = true := by kernel_rfl
theorem tk_106 : tk Tryd.prog 106 = .sc := by kernel_rfl
theorem ze_106 : zerosB Tryd.prog 106 = some [.nilf] := by kernel_rfl
theorem sz_106 : szB Tryd.prog 106 = 1 := by kernel_rfl
theorem tk_107 : tk Tryd.prog 107 = .sc := by kernel_rfl
theorem ze_107 : zerosB Tryd.prog 107 = some [.nilf] := by kernel_rfl
theorem sz_107 : szB Tryd.prog 107 = 1 := by kernel_rfl
theorem tk_108 : tk Tryd.prog 108 = .pt := by kernel_rfl
theorem ze_108 : zerosB Tryd.prog 108 = some [.nilp] := by kernel_rfl
theorem sz_108 : szB Tryd.prog 108 = 1 := by kernel_rfl
theorem tk_109 : tk Tryd.prog 109 = .sc := by kernel_rfl
theorem ze_109 : zerosB Tryd.prog 109 = some [.any] := by kernel_rfl
theorem sz_109 : szB Tryd.prog 109 = 1 := by kernel_rfl
theorem tk_110 : tk Tryd.prog 110 = .sc := by kernel_rfl
theorem ze_110 : zerosB Tryd.prog 110 = some [.nilf] := by kernel_rfl
theorem sz_110 : szB Tryd.prog 110 = 1 := by kernel_rfl
theorem tk_111 : tk Tryd.prog 111 = .sc := by kernel_rfl
theorem ze_111 : zerosB Tryd.prog 111 = some [.nilf] := by kernel_rfl
theorem sz_111 : szB Tryd.prog 111 = 1 := by kernel_rfl
theorem tk_112 : tk Tryd.prog 112 = .sc := by kernel_rfl
theorem ze_112 : zerosB Tryd.prog 112 = some [.nilf] := by kernel_rfl
theorem sz_112 : szB Tryd.prog 112 = 1 := by kernel_rfl
theorem tk_113 : tk Tryd.prog 113 = .sc := by kernel_rfl
theorem ze_113 : zerosB Tryd.prog 113 = some [.nilf] := by kernel_rfl
theorem sz_113 : szB Tryd.prog 113 = 1 := by kernel_rfl
theorem tk_114 : tk Tryd.prog 114 = .pt := by kernel_rfl
theorem ze_114 : zerosB Tryd.prog 114 = some [.nilp] := by kernel_rfl
theorem sz_114 : szB Tryd.prog 114 = 1 := by kernel_rfl
theorem tk_115 : tk Tryd.prog 115 = .sc := by kernel_rfl
theorem ze_115 : zerosB Tryd.prog 115 = some [.nilf] := by kernel_rfl
theorem sz_115 : szB Tryd.prog 115 = 1 := by kernel_rfl
theorem tk_116 : tk Tryd.prog 116 = .sc := by kernel_rfl
theorem ze_116 : zerosB Tryd.prog 116 = some [.nilf] := by kernel_rfl
theorem sz_116 : szB Tryd.prog 116 = 1 := by kernel_rfl
theorem tk_117 : tk Tryd.prog 117 = .sc := by kernel_rfl
theorem ze_117 : zerosB Tryd.prog 117 = some [.nilf] := by kernel_rfl
theorem sz_117 : szB Tryd.prog 117 = 1 := by kernel_rfl
theorem tk_118 : tk Tryd.prog 118 = .sc := by kernel_rfl
theorem ze_118 : zerosB Tryd.prog 118 = some [.nilf] := by kernel_rfl
theorem sz_118 : szB Tryd.prog 118 = 1 := by kernel_rfl
theorem tk_119 : tk Tryd.prog 119 = .sc := by kernel_rfl
theorem ze_119 : zerosB Tryd.prog 119 = some [.nilf] := by kernel_rfl
theorem sz_119 : szB Tryd.prog 119 = 1 := by kernel_rfl
theorem tk_120 : tk Tryd.prog 120 = .sc := by kernel_rfl
theorem ze_120 : zerosB Tryd.prog 120 = some [.any] := by kernel_rfl
theorem sz_120 : szB Tryd.prog 120 = 1 := by kernel_rfl
theorem tk_121 : tk Tryd.prog 121 = .sc := by kernel_rfl
theorem ze_121 : zerosB Tryd.prog 121 = some [.nilf] := by kernel_rfl
theorem sz_121 : szB Tryd.prog 121 = 1 := by kernel_rfl
theorem tk_122 : tk Tryd.prog 122 = .sc := by kernel_rfl
theorem ze_122 : zerosB Tryd.prog 122 = some [.nilf] := by kernel_rfl
theorem sz_122 : szB Tryd.prog 122 = 1 := by kernel_rfl
theorem tk_123 : tk Tryd.prog 123 = .sc := by kernel_rfl
theorem ze_123 : zerosB Tryd.prog 123 = some [.any] := by kernel_rfl
theorem sz_123 : szB Tryd.prog 123 = 1 := by kernel_rfl
theorem tk_124 : tk Tryd.prog 124 = .sc := by kernel_rfl
theorem ze_124 : zerosB Tryd.prog 124 = some [.nilf] := by kernel_rfl
theorem sz_124 : szB Tryd.prog 124 = 1 := by kernel_rfl
theorem tk_125 : tk Tryd.prog 125 = .sc := by kernel_rfl
theorem ze_125 : zerosB Tryd.prog 125 = some [.nilf] := by kernel_rfl
theorem sz_125 : szB Tryd.prog 125 = 1 := by kernel_rfl
theorem tk_126 : tk Tryd.prog 126 = .sc := by kernel_rfl
theorem ze_126 : zerosB Tryd.prog 126 = some [.nilp] := by kernel_rfl
theorem sz_126 : szB Tryd.prog 126 = 1 := by kernel_rfl
theorem tk_127 : tk Tryd.prog 127 = .sc := by kernel_rfl
theorem ze_127 : zerosB Tryd.prog 127 = some [.nilf] := by kernel_rfl
theorem sz_127 : szB Tryd.prog 127 = 1 := by kernel_rfl
theorem tk_128 : tk Tryd.prog 128 = .sc := by kernel_rfl
theorem ze_128 : zerosB Tryd.prog 128 = some [.nilf] := by kernel_rfl
theorem sz_128 : szB Tryd.prog 128 = 1 := by kernel_rfl
theorem tk_129 : tk Tryd.prog 129 = .sc := by kernel_rfl
theorem ze_129 : zerosB Tryd.prog 129 = some [.nilf] := by kernel_rfl
theorem sz_129 : szB Tryd.prog 129 = 1 := by kernel_rfl
theorem tk_130 : tk Tryd.prog 130 = .sc := by kernel_rfl
theorem ze_130 : zerosB Tryd.prog 130 = some [.nilf] := by kernel_rfl
theorem sz_130 : szB Tryd.prog 130 = 1 := by kernel_rfl
theorem tk_131 : tk Tryd.prog 131 = (.it .u64) := by kernel_rfl
theorem ze_131 : zerosB Tryd.prog 131 = some [(.v (.int .u64 0))] := by kernel_rfl
theorem sz_131 : szB Tryd.prog 131 = 1 := by kernel_rfl
theorem tk_132 : tk Tryd.prog 132 = .sc := by kernel_rfl
theorem ze_132 : zerosB Tryd.prog 132 = some [.nilf] := by kernel_rfl
theorem sz_132 : szB Tryd.prog 132 = 1 := by kernel_rfl
theorem tk_133 : tk Tryd.prog 133 = .sc := by kernel_rfl
theorem ze_133 : zerosB Tryd.prog 133 = some [.nilf] := by kernel_rfl
theorem sz_133 : szB Tryd.prog 133 = 1 := by kernel_rfl
theorem tk_134 : tk Tryd.prog 134 = .sc := by kernel_rfl
theorem ze_134 : zerosB Tryd.prog 134 = some [.nilf] := by kernel_rfl
theorem sz_134 : szB Tryd.prog 134 = 1 := by kernel_rfl
theorem tk_135 : tk Tryd.prog 135 = (.it .i64) := by kernel_rfl
theorem ze_135 : zerosB Tryd.prog 135 = some [(.v (.int .i64 0))] := by kernel_rfl
theorem sz_135 : szB Tryd.prog 135 = 1 := by kernel_rfl
theorem tk_136 : tk Tryd.prog 136 = .sc := by kernel_rfl
theorem ze_136 : zerosB Tryd.prog 136 = some [.any] := by kernel_rfl
theorem sz_136 : szB Tryd.prog 136 = 1 := by kernel_rfl
theorem tk_137 : tk Tryd.prog 137 = .sc := by kernel_rfl
theorem ze_137 : zerosB Tryd.prog 137 = some [.nilf] := by kernel_rfl
theorem sz_137 : szB Tryd.prog 137 = 1 := by kernel_rfl
theorem tk_138 : tk Tryd.prog 138 = .sc := by kernel_rfl
theorem ze_138 : zerosB Tryd.prog 138 = some [.nilf] := by kernel_rfl
theorem sz_138 : szB Tryd.prog 138 = 1 := by kernel_rfl
theorem tk_139 : tk Tryd.prog 139 = .sc := by kernel_rfl
theorem ze_139 : zerosB Tryd.prog 139 = some [.nilf] := by kernel_rfl
theorem sz_139 : szB Tryd.prog 139 = 1 := by kernel_rfl
theorem tk_140 : tk Tryd.prog 140 = .sc := by kernel_rfl
theorem ze_140 : zerosB Tryd.prog 140 = some [.any] := by kernel_rfl
theorem sz_140 : szB Tryd.prog 140 = 1 := by kernel_rfl
theorem tk_141 : tk Tryd.prog 141 = .sc := by kernel_rfl
theorem ze_141 : zerosB Tryd.prog 141 = some [.nilf] := by kernel_rfl
theorem sz_141 : szB Tryd.prog 141 = 1 := by kernel_rfl
theorem tk_142 : tk Tryd.prog 142 = .sc := by kernel_rfl
theorem ze_142 : zerosB Tryd.prog 142 = some [.nilf] := by kernel_rfl
theorem sz_142 : szB Tryd.prog 142 = 1 := by kernel_rfl
theorem tk_143 : tk Tryd.prog 143 = (.it .u32) := by kernel_rfl
theorem ze_143 : zerosB Tryd.prog 143 = some [(.v (.int .u32 0))] := by kernel_rfl
theorem sz_143 : szB Tryd.prog 143 = 1 := by kernel_rfl
theorem tk_144 : tk Tryd.prog 144 = .sc := by kernel_rfl
theorem ze_144 : zerosB Tryd.prog 144 = some [.nilf] := by kernel_rfl
theorem sz_144 : szB Tryd.prog 144 = 1 := by kernel_rfl
theorem tk_145 : tk Tryd.prog 145 = (.ar 256 1 256) := by kernel_rfl
theorem sz_145 : szB Tryd.prog 145 = 256 := by kernel_rfl
theorem kn_145 : knownB Tryd.prog 145 = true := by kernel_rfl
theorem tk_146 : tk Tryd.prog 146 = (.st 2 [(0, 1), (1, 1)]) := by kernel_rfl
theorem ze_146 : zerosB Tryd.prog 146 = some [(.v (.int .u8 0)), (.v (.int .u8 0))] := by kernel_rfl
theorem sz_146 : szB Tryd.prog 146 = 2 := by kernel_rfl
theorem kn_146 : knownB Tryd.prog 146 = true := by kernel_rfl
theorem tk_147 : tk Tryd.prog 147 = (.st 2 [(0, 1), (1, 1)]) := by kernel_rfl
theorem ze_147 : zerosB Tryd.prog 147 = some [(.v (.int .u8 0)), (.v (.int .u8 0))] := by kernel_rfl
theorem sz_147 : szB Tryd.prog 147 = 2 := by kernel_rfl
theorem kn_147 : knownB Tryd.prog 147 = true := by kernel_rfl
theorem tk_148 : tk Tryd.prog 148 = (.ar 16 2 32) := by kernel_rfl
theorem ze_148 : zerosB Tryd.prog 148 = some [(.v (.int .u8 0)), (.v (.int .u8 0)), (.v (.int .u8 0)), (.v (.int .u8 0)), (.v (.int .u8 0)), (.v (.int .u8 0)), (.v (.int .u8 0)), (.v (.int .u8 0)), (.v (.int .u8 0)), (.v (.int .u8 0)), (.v (.int .u8 0)), (.v (.int .u8 0)), (.v (.int .u8 0)), (.v (.int .u8 0)), (.v (.int .u8 0)), (.v (.int .u8 0)), (.v (.int .u8 0)), (.v (.int .u8 0)), (.v (.int .u8 0)), (.v (.int .u8 0)), (.v (.int .u8 0)), (.v (.int .u8 0)), (.v (.int .u8 0)), (.v (.int .u8 0)), (.v (.int .u8 0)), (.v (.int .u8 0)), (.v (.int .u8 0)), (.v (.int .u8 0)), (.v (.int .u8 0)), (.v (.int .u8 0)), (.v (.int .u8 0)), (.v (.int .u8 0))] := by kernel_rfl
theorem sz_148 : szB Tryd.prog 148 = 32 := by kernel_rfl
theorem kn_148 : knownB Tryd.prog 148 = true := by kernel_rfl
theorem tk_149 : tk Tryd.prog 149 = .sc := by kernel_rfl
theorem ze_149 : zerosB Tryd.prog 149 = some [.any] := by kernel_rfl
theorem sz_149 : szB Tryd.prog 149 = 1 := by kernel_rfl
theorem tk_150 : tk Tryd.prog 150 = .sc := by kernel_rfl
theorem ze_150 : zerosB Tryd.prog 150 = some [.nilf] := by kernel_rfl
theorem sz_150 : szB Tryd.prog 150 = 1 := by kernel_rfl
theorem tk_151 : tk Tryd.prog 151 = (.it .u64) := by kernel_rfl
theorem ze_151 : zerosB Tryd.prog 151 = some [(.v (.int .u64 0))] := by kernel_rfl
theorem sz_151 : szB Tryd.prog 151 = 1 := by kernel_rfl
theorem tk_152 : tk Tryd.prog 152 = .sc := by kernel_rfl
theorem ze_152 : zerosB Tryd.prog 152 = some [.nilf] := by kernel_rfl
theorem sz_152 : szB Tryd.prog 152 = 1 := by kernel_rfl
theorem tk_153 : tk Tryd.prog 153 = .sc := by kernel_rfl
theorem ze_153 : zerosB Tryd.prog 153 = some [.nilf] := by kernel_rfl
theorem sz_153 : szB Tryd.prog 153 = 1 := by kernel_rfl
theorem tk_154 : tk Tryd.prog 154 = .sc := by kernel_rfl
theorem ze_154 : zerosB Tryd.prog 154 = some [.nilf] := by kernel_rfl
theorem sz_154 : szB Tryd.prog 154 = 1 := by kernel_rfl
theorem tk_155 : tk Tryd.prog 155 = .pt := by kernel_rfl
theorem ze_155 : zerosB Tryd.prog 155 = some [.nilp] := by kernel_rfl
theorem sz_155 : szB Tryd.prog 155 = 1 := by kernel_rfl
theorem tk_156 : tk Tryd.prog 156 = .sc := by kernel_rfl
theorem ze_156 : zerosB Tryd.prog 156 = some [.nilf] := by kernel_rfl
theorem sz_156 : szB Tryd.prog 156 = 1 := by kernel_rfl
theorem tk_157 : tk Tryd.prog 157 = .pt := by kernel_rfl
theorem ze_157 : zerosB Tryd.prog 157 = some [.nilp] := by kernel_rfl
theorem sz_157 : szB Tryd.prog 157 = 1 := by kernel_rfl
theorem tk_158 : tk Tryd.prog 158 = .sc := by kernel_rfl
theorem ze_158 : zerosB Tryd.prog 158 = some [.any] := by kernel_rfl
theorem sz_158 : szB Tryd.prog 158 = 1 := by kernel_rfl
theorem tk_159 : tk Tryd.prog 159 = .sc := by kernel_rfl
theorem ze_159 : zerosB Tryd.prog 159 = some [.nilf] := by kernel_rfl
theorem sz_159 : szB Tryd.prog 159 = 1 := by kernel_rfl
theorem tk_160 : tk Tryd.prog 160 = (.st 4 [(0, 1), (1, 1), (2, 1), (3, 1)]) := by kernel_rfl
theorem ze_160 : zerosB Tryd.prog 160 = some [.nilp, .nilp, .nilp, (.v (.str []))] := by kernel_rfl
theorem sz_160 : szB Tryd.prog 160 = 4 := by kernel_rfl
theorem kn_160 : knownB Tryd.prog 160 = true := by kernel_rfl
theorem tk_161 : tk Tryd.prog 161 = (.st 4 [(0, 1), (1, 1), (2, 1), (3, 1)]) := by kernel_rfl
theorem ze_161 : zerosB Tryd.prog 161 = some [.nilp, .nilp, .nilp, (.v (.str []))] := by kernel_rfl
theorem sz_161 : szB Tryd.prog 161 = 4 := by kernel_rfl
theorem kn_161 : knownB Tryd.prog 161 = true := by kernel_rfl
theorem tk_162 : tk Tryd.prog 162 = (.ar 0 1 0) := by kernel_rfl
theorem ze_162 : zerosB Tryd.prog 162 = some [] := by kernel_rfl
theorem sz_162 : szB Tryd.prog 162 = 0 := by kernel_rfl
theorem kn_162 : knownB Tryd.prog 162 = true := by kernel_rfl
theorem tk_163 : tk Tryd.prog 163 = (.st 0 [(0, 0)]) := by kernel_rfl
theorem ze_163 : zerosB Tryd.prog 163 = some [] := by kernel_rfl
theorem sz_163 : szB Tryd.prog 163 = 0 := by kernel_rfl
theorem kn_163 : knownB Tryd.prog 163 = true := by kernel_rfl
theorem tk_164 : tk Tryd.prog 164 = (.st 0 [(0, 0)]) := by kernel_rfl
theorem ze_164 : zerosB Tryd.prog 164 = some [] := by kernel_rfl
theorem sz_164 : szB Tryd.prog 164 = 0 := by kernel_rfl
theorem kn_164 : knownB Tryd.prog 164 = true := by kernel_rfl
theorem tk_165 : tk Tryd.prog 165 = .sc := by kernel_rfl
theorem ze_165 : zerosB Tryd.prog 165 = some [.nilf] := by kernel_rfl
theorem sz_165 : szB Tryd.prog 165 = 1 := by kernel_rfl
theorem tk_166 : tk Tryd.prog 166 = (.it .u8) := by kernel_rfl
theorem ze_166 : zerosB Tryd.prog 166 = some [(.v (.int .u8 0))] := by kernel_rfl
theorem sz_166 : szB Tryd.prog 166 = 1 := by kernel_rfl
theorem tk_167 : tk Tryd.prog 167 = (.it .u8) := by kernel_rfl
theorem ze_167 : zerosB Tryd.prog 167 = some [(.v (.int .u8 0))] := by kernel_rfl
theorem sz_167 : szB Tryd.prog 167 = 1 := by kernel_rfl
theorem tk_168 : tk Tryd.prog 168 = .sc := by kernel_rfl
theorem ze_168 : zerosB Tryd.prog 168 = some [.nilf] := by kernel_rfl
theorem sz_168 : szB Tryd.prog 168 = 1 := by kernel_rfl
theorem tk_169 : tk Tryd.prog 169 = (.it .i32) := by kernel_rfl
theorem ze_169 : zerosB Tryd.prog 169 = some [(.v (.int .i32 0))] := by kernel_rfl
theorem sz_169 : szB Tryd.prog 169 = 1 := by kernel_rfl
theorem tk_170 : tk Tryd.prog 170 = (.it .i32) := by kernel_rfl
theorem ze_170 : zerosB Tryd.prog 170 = some [(.v (.int .i32 0))] := by kernel_rfl
theorem sz_170 : szB Tryd.prog 170 = 1 := by kernel_rfl
theorem tk_171 : tk Tryd.prog 171 = (.st 11 [(0, 1), (1, 1), (2, 1), (3, 1), (4, 1), (5, 1), (6, 1), (7, 1), (8, 1), (9, 1), (10, 1)]) := by kernel_rfl
theorem ze_171 : zerosB Tryd.prog 171 = some [(.v (.int .u64 0)), (.v (.int .u64 0)), (.v (.int .u32 0)), (.v (.int .u8 0)), (.v (.int .u8 0)), (.v (.int .u8 0)), (.v (.int .u8 0)), .nilf, .nilp, (.v (.int .i32 0)), (.v (.int .i32 0))] := by kernel_rfl
theorem sz_171 : szB Tryd.prog 171 = 11 := by kernel_rfl
theorem kn_171 : knownB Tryd.prog 171 = true := by kernel_rfl
theorem tk_172 : tk Tryd.prog 172 = (.st 11 [(0, 1), (1, 1), (2, 1), (3, 1), (4, 1), (5, 1), (6, 1), (7, 1), (8, 1), (9, 1), (10, 1)]) := by kernel_rfl
theorem ze_172 : zerosB Tryd.prog 172 = some [(.v (.int .u64 0)), (.v (.int .u64 0)), (.v (.int .u32 0)), (.v (.int .u8 0)), (.v (.int .u8 0)), (.v (.int .u8 0)), (.v (.int .u8 0)), .nilf, .nilp, (.v (.int .i32 0)), (.v (.int .i32 0))] := by kernel_rfl
theorem sz_172 : szB Tryd.prog 172 = 11 := by kernel_rfl
theorem kn_172 : knownB Tryd.prog 172 = true := by kernel_rfl
end Go.Ag
/- AGo, part 18: some of the library's functions, from the shelf's contracts. -/
namespace Go.Ag
open Go Go.RowKit
variable {P : Program} {G : Nat → Option (List V)} {f : FuncId} {H : List Ob} {K : D → List Ob → Prop}

theorem toList_mkd (s : List UInt8) : (ByteArray.mk s.toArray).data.toList = s := by simp
theorem RelL.one {M : Mem} {μ : Mu} {a : D} {vs : List Value} (h : RelL M μ [a] vs) : ∃ y, vs = [y] ∧ Rel M μ a y := by
  simp only [RelL] at h; obtain ⟨y, _, rfl, h1, rfl⟩ := h; exact ⟨y, rfl, h1⟩
theorem RelL.two {M : Mem} {μ : Mu} {a b : D} {vs : List Value} (h : RelL M μ [a, b] vs) : ∃ y z, vs = [y, z] ∧ Rel M μ a y ∧ Rel M μ b z := by
  simp only [RelL] at h; obtain ⟨y, _, rfl, h1, z, _, rfl, h2, rfl⟩ := h; exact ⟨y, z, rfl, h1, h2⟩
theorem RelL.three {M : Mem} {μ : Mu} {a b c : D} {vs : List Value} (h : RelL M μ [a, b, c] vs) : ∃ x y z, vs = [x, y, z] ∧ Rel M μ a x ∧ Rel M μ b y ∧ Rel M μ c z := by
  simp only [RelL] at h; obtain ⟨x, _, rfl, h1, y, _, rfl, h2, z, _, rfl, h3, rfl⟩ := h; exact ⟨x, y, z, rfl, h1, h2, h3⟩
theorem map_mk (l : List (List UInt8)) : (l.map fun s => ByteArray.mk s.toArray).map (·.data.toList) = l := by
  rw [List.map_map]
  conv => rhs; rw [← List.map_id l]
  exact List.map_congr_left fun s _ => by simp
theorem size_mk (s : List UInt8) : (ByteArray.mk s.toArray).size = s.length := by simp [ByteArray.size]
theorem mk_toList (s : ByteArray) : ByteArray.mk s.data.toList.toArray = s := by simp

/-- Two strings in, a bool out. -/
theorem lib_bool2 (g : List UInt8 → List UInt8 → Bool) (hc : callB P f = true) (s p : List UInt8)
    (h : ∀ w, Calls P f #[.string ⟨s.toArray⟩, .string ⟨p.toArray⟩] w fun e w' => e = .returned (.bool (g (ByteArray.mk s.toArray).data.toList (ByteArray.mk p.toArray).data.toList)) ∧ w' = w) (hK : K (.v (.bool (g s p))) H) : ACalls P G f [.v (.str s), .v (.str p)] H K := by
  refine ACalls.of_calls hc fun E e1 e2 M μ w vs hr hv => ?_
  obtain ⟨y1, y2, rfl, h1, h2⟩ := hv.two
  simp only [Rel, RelV] at h1 h2
  subst h1; subst h2
  refine (h w).mono ?_
  rintro e w' ⟨rfl, rfl⟩
  exact ⟨_, _, rfl, .refl _ _, by simp only [Rel, RelV], hK⟩

theorem relV_strs_nil {M : Mem} {c : Nat} {a : Option Addr} : RelV M (.list 1 []) (.slice a 0 c) := by
  simp only [RelV]; exact ⟨a, c, rfl, Nat.zero_le _, .inl trivial⟩

theorem lib_Join (hc : callB P f = true) (l : List (List UInt8)) (sep : List UInt8)
    (h0 : ∀ a c sep w, Calls P f #[.slice a 0 c, .string sep] w fun e w' => e = .returned (.string ⟨#[]⟩) ∧ w' = w)
    (h1 : ∀ (bk o c : Nat) (xs : List ByteArray) (sep : ByteArray) (w : World) (hcells : ∀ (j : Nat) x, xs[j]? = some x → w.cell? ⟨bk, o + j, none⟩ = some (.string x)) (hbk : bk < w.heap.size) (hN : xs.length ≤ 140737488355328) (hcap : xs.length ≤ c) (hlen : (Lib.join (xs.map (·.data.toList)) sep.data.toList).length ≤ 140737488355328),
      Calls P f #[.slice (some ⟨bk, o, none⟩) xs.length c, .string sep] w fun e w' => e = .returned (.string ⟨(Lib.join (xs.map (·.data.toList)) sep.data.toList).toArray⟩) ∧ Below w.heap.size w w')
    (hN : l.length ≤ 140737488355328) (hlen : (Lib.join l sep).length ≤ 140737488355328) (hK : K (.v (.str (Lib.join l sep))) H) : ACalls P G f [.v (.list 1 (l.map fun s => [.str s])), .v (.str sep)] H K := by
  refine ACalls.of_calls hc fun E e1 e2 M μ w vs hr hv => ?_
  obtain ⟨y1, y2, rfl, g1, g2⟩ := hv.two
  simp only [Rel, RelV] at g2
  subst g2
  obtain ⟨A, c, rfl, hcap, hh⟩ := hr.strs g1
  have em : (l.map fun s => ByteArray.mk s.toArray).map (·.data.toList) = l := map_mk l
  rcases hh with rfl | ⟨b, o, rfl, hb, _, hcell⟩
  · refine (h0 A c _ w).mono ?_
    rintro e w' ⟨rfl, rfl⟩
    exact ⟨_, _, rfl, .refl _ _, by simp only [Rel, RelV]; rfl, hK⟩
  · have := h1 b o c (l.map fun s => ByteArray.mk s.toArray) ⟨sep.toArray⟩ w (fun j x hx => by
      rw [List.getElem?_map] at hx
      cases hs : l[j]? with
      | none => rw [hs] at hx; cases hx
      | some s => rw [hs] at hx; cases hx; exact hcell j s hs) hb (by simpa using hN) (by simpa using hcap) (by rw [em]; simpa using hlen)
    rw [em, List.length_map] at this
    refine this.mono ?_
    rintro e w' ⟨rfl, hbel⟩
    exact ⟨_, _, rfl, hbel, by simp only [Rel, RelV], hK⟩

theorem lib_Split (hc : callB P f = true) (s : List UInt8) (c : UInt8) (t : TypeId) (g : Nat) (m : Int) (hG : G g = some [.int .i64 m])
    (h : ∀ (s sep : ByteArray) (m : Int) (w : World) (hs : s.size < 4294967281) (hm : w.cell? ⟨g, 0, none⟩ = some (.int .i64 m)) (h1 : 1 ≤ sep.size),
      Calls P f #[.string s, .string sep] w fun e w' => e = .returned (.slice (some ⟨w.heap.size, 0, none⟩) (Lib.countB s sep + 1) (Lib.countB s sep + 1)) ∧ w' = w.alloc (.cells ((Lib.splitB sep 0 (Lib.countB s sep) s).map Value.string).toArray t))
    (hs : s.length < 4294967281) (hK : K (.v (.list 1 ((splitC c s).map fun s => [.str s]))) H) : ACalls P G f [.v (.str s), .v (.str [c])] H K := by
  refine ACalls.of_new hc fun E e1 e2 M μ w vs hr hv => ?_
  obtain ⟨y1, y2, rfl, g1, g2⟩ := hv.two
  simp only [Rel, RelV] at g1 g2
  subst g1; subst g2
  have hm : w.cell? ⟨g, 0, none⟩ = some (.int .i64 m) := by
    have := hr.glob g _ (e2 ▸ hG)
    simp only [RelRow, RelV] at this
    obtain ⟨⟨y, hy, rfl⟩, _⟩ := this
    exact hr.imm _ _ _ hy
  refine (h _ _ m w (by rw [size_mk]; exact hs) hm (by simp [ByteArray.size])).mono ?_
  rintro e w' ⟨rfl, rfl⟩
  have e1 : (Lib.splitB ⟨[c].toArray⟩ 0 (Lib.countB ⟨s.toArray⟩ ⟨[c].toArray⟩) ⟨s.toArray⟩).map (·.data.toList) = splitC c s := by
    rw [Lib.splitB_data]
    exact (split_eq c s.length s (Nat.le_refl _)).1
  have e2 : Lib.countB ⟨s.toArray⟩ ⟨[c].toArray⟩ + 1 = (splitC c s).length := (split_eq c s.length s (Nat.le_refl _)).2.symm
  generalize hX : Lib.splitB ⟨[c].toArray⟩ 0 (Lib.countB ⟨s.toArray⟩ ⟨[c].toArray⟩) ⟨s.toArray⟩ = X at e1
  have e3 : X.map Value.string = (splitC c s).map fun s => Value.string ⟨s.toArray⟩ := by
    rw [← e1, List.map_map]
    exact List.map_congr_left fun x _ => by simp
  refine ⟨_, _, w.heap.size, X.map Value.string, rfl, (Below.refl _ _).alloc (Nat.le_refl _) _, Nat.le_refl _, fun o y hy => ?_, ?_, hK⟩
  · rw [cell?_block (vs := X.map Value.string) (t := t) (by show (w.heap.push _)[w.heap.size]? = _; simp)]; exact hy
  · simp only [Rel, RelV]
    refine ⟨_, _, by rw [List.length_map, ← e2], by rw [List.length_map, ← e2]; exact Nat.le_refl _, .inr ⟨_, _, rfl, ?_⟩⟩
    refine relRows_strs _ _ fun j t ht => ?_
    rw [memWith_self, e3, Nat.zero_add, List.getElem?_map, ht]
    rfl
end Go.Ag
namespace Go.Ag
open Go Go.Proofs
variable {G : Nat → Option (List V)}
attribute [local irreducible] aops qops Sat aop

theorem mixed : Tryd.prog.follows .mixedOrders = true := by kernel_rfl

set_option maxHeartbeats 4000000 in
theorem spec_Name (s : Str) (hs : s.length ≤ 1099511627776) (H : List Ob) (K : D → List Ob → Prop) (hK : K (.v (.bool (nameOk s))) H) : ACalls Tryd.prog G 55 [.v (.str s)] H K := by
  refine ACalls.go Tryd.f55 _ 55 [2] Tryd.func55 rfl Tryd.ntmps55 (by kernel_rfl) rfl (by simp) (fun E hE hP hG hH => ?_)
  subst hH
  simp only [args0]
  repeat (first | refine wa ?_ | refine wb rfl ?_ | refine wc rfl rfl hM ?_ | refine wd rfl hM ?_ | ((first | refine we rfl fun K hK => ?_ | refine wf rfl rfl fun K hK => ?_ | refine wg rfl rfl fun K hK => ?_ | refine wh rfl fun K hK => ?_); (simp only [lo, ld, ↓aop, ↓aCall, hP, hG, Nat.reduceLT, ↓reduceIte, Nat.reduceEqDiff, Nat.reduceAdd, Nat.reduceMul, Nat.reduceLeDiff, reduceCtorEq, D.cs, D.plain, fillD, chop, List.replicate, tk_9, ze_9, sz_9]; repeat (with_reducible refine And.intro ?_ ?_; focus (first | decide | omega | (simp only [ln]; omega)))); try ((first | refine hK _ _ ?_ | refine hK _ ?_); clear hK K; simp only [lp])) | ((first | refine wi ?_ | refine wj ?_ | refine wk ?_ | refine wl ?_ | refine wm ?_ | refine wn ?_); simp only [lt, ↓reduceIte, Nat.reduceEqDiff]) | refine wo ?_)
  refine sat_thru (fr 55 [(13, .v (.bool (((s.length : Int) == 0) || decide ((s.length : Int) > 60)))), (2, .v (.bool false)), (0, .v (.str s))]) E.H0 ?_ ?_
  · (first | refine wr ?_ | refine wp rfl hM ?_ | refine wq hM ?_); repeat' (first | ((first | refine wx ?_ | refine wy ?_ | refine wz ?_); (simp only [lo, ld, ↓aop, ↓aCall, hP, hG, Nat.reduceLT, ↓reduceIte, Nat.reduceEqDiff, Nat.reduceAdd, Nat.reduceMul, Nat.reduceLeDiff, reduceCtorEq, D.cs, D.plain, fillD, chop, List.replicate, tk_9, ze_9, sz_9]; repeat (with_reducible refine And.intro ?_ ?_; focus (first | decide | omega | (simp only [ln]; omega)))); try ((first | refine hK _ _ ?_ | refine hK _ ?_); clear hK K; simp only [lp])) | refine we rfl fun K hK => ?_ | refine wf rfl rfl fun K hK => ?_ | refine wg rfl rfl fun K hK => ?_ | refine wh rfl fun K hK => ?_ | ((first | refine Xg rfl rfl (by decide) ?_ fun K hK => ?_ | refine Yg rfl rfl (by decide) ?_ fun K hK => ?_ | refine Zg rfl rfl rfl (by decide) ?_ fun K hK => ?_); (focus (simp only [look_cons, ↓reduceIte, Nat.reduceEqDiff, Bool.not_true, Bool.not_false]; done))) | ((first | refine Xn rfl rfl (by decide) ?_ ?_ | refine Yn rfl rfl (by decide) ?_ ?_ | refine Zn rfl rfl rfl (by decide) ?_ ?_); (focus (simp only [look_cons, ↓reduceIte, Nat.reduceEqDiff, Bool.not_true, Bool.not_false]; done)); simp only [lp]) | ((first | refine Xo rfl rfl (by decide) ?_ ?_ | refine Yo rfl rfl (by decide) ?_ ?_ | refine Zo rfl rfl rfl (by decide) ?_ ?_); (focus (simp only [look_cons, ↓reduceIte, Nat.reduceEqDiff, Bool.not_true, Bool.not_false]; done)); simp only [lp]) | ((first | refine Xs rfl rfl (by decide) rfl (fun h K hK => ?_) fun h => ?_ | refine Ys rfl rfl (by decide) rfl (fun h K hK => ?_) fun h => ?_ | refine Zs rfl rfl rfl (by decide) rfl (fun h K hK => ?_) fun h => ?_); rotate_left; (focus (simp only [Bool.not_true, Bool.not_false, lp])); rotate_left) | ((first | refine wi ?_ | refine wj ?_ | refine wk ?_); simp only [lt, ↓reduceIte, Nat.reduceEqDiff]))
    all_goals refine .weakFr ?_
    all_goals simp only [le, ↓reduceIte, Nat.reduceEqDiff, and_true]; repeat' (first | exact trivial | exact D.le_refl _ | exact D.le_any _ | with_reducible refine And.intro ?_ ?_)
    all_goals refine D.le_eq (congrArg D.v (congrArg V.bool ?_)); (try simp only [Bool.not_eq_eq_eq_not, Bool.not_true, Bool.not_false] at *); simp only [*, List.getD_eq_getElem?_getD, Bool.and_true, Bool.true_and, Bool.and_false, Bool.false_and, Bool.or_true, Bool.true_or, Bool.or_false, Bool.false_or, Bool.not_true, Bool.not_false, Bool.not_not]
  refine sat_cond rfl (fun hb => ?_) (fun hb => ?_)
  · repeat (first | refine wa ?_ | refine wb rfl ?_ | refine wc rfl rfl hM ?_ | refine wd rfl hM ?_ | ((first | refine we rfl fun K hK => ?_ | refine wf rfl rfl fun K hK => ?_ | refine wg rfl rfl fun K hK => ?_ | refine wh rfl fun K hK => ?_); (simp only [lo, ld, ↓aop, ↓aCall, hP, hG, Nat.reduceLT, ↓reduceIte, Nat.reduceEqDiff, Nat.reduceAdd, Nat.reduceMul, Nat.reduceLeDiff, reduceCtorEq, D.cs, D.plain, fillD, chop, List.replicate]; repeat (with_reducible refine And.intro ?_ ?_; focus (first | decide | omega | (simp only [ln]; omega)))); try ((first | refine hK _ _ ?_ | refine hK _ ?_); clear hK K; simp only [lp])) | ((first | refine wi ?_ | refine wj ?_ | refine wk ?_ | refine wl ?_ | refine wm ?_ | refine wn ?_); simp only [lt, ↓reduceIte, Nat.reduceEqDiff]) | refine wo ?_)
    refine Fin.is (.v (.bool false)) (by decide) rfl ?_
    have : nameOk s = false := by
      simp only [nameOk, ← Bool.not_or, hb, Bool.not_true, Bool.false_and]
    rwa [this] at hK
  repeat (first | refine wa ?_ | refine wb rfl ?_ | refine wc rfl rfl hM ?_ | refine wd rfl hM ?_ | ((first | refine we rfl fun K hK => ?_ | refine wf rfl rfl fun K hK => ?_ | refine wg rfl rfl fun K hK => ?_ | refine wh rfl fun K hK => ?_); (simp only [lo, ld, ↓aop, ↓aCall, hP, hG, Nat.reduceLT, ↓reduceIte, Nat.reduceEqDiff, Nat.reduceAdd, Nat.reduceMul, Nat.reduceLeDiff, reduceCtorEq, D.cs, D.plain, fillD, chop, List.replicate, tk_9, ze_9, sz_9]; repeat (with_reducible refine And.intro ?_ ?_; focus (first | decide | omega | (simp only [ln]; omega)))); try ((first | refine hK _ _ ?_ | refine hK _ ?_); clear hK K; simp only [lp])) | ((first | refine wi ?_ | refine wj ?_ | refine wk ?_ | refine wl ?_ | refine wm ?_ | refine wn ?_); simp only [lt, ↓reduceIte, Nat.reduceEqDiff]) | refine wo ?_)
  refine sat_loop_ent (fun n ts H => ∃ (i : Nat), n = s.length - i ∧ i ≤ s.length ∧ (∀ j, j < i → nameAt s j = true) ∧
    ts = fr 55 [(16, .v (.int .i64 i)), (15, .v (.int .i64 s.length)), (2, .v (.bool false)), (0, .v (.str s))] ∧ H = E.H0) (s.length) (.weakFr ?_) ⟨0, rfl, Nat.zero_le _, by simp, rfl, rfl⟩ ?_
  · simp only [le, ↓reduceIte, Nat.reduceEqDiff, and_true]; repeat' (first | exact trivial | exact D.le_refl _ | exact D.le_any _ | with_reducible refine And.intro ?_ ?_)
  rintro n ts H ⟨i, rfl, hi, hall, rfl, rfl⟩
  repeat (first | refine wa ?_ | refine wb rfl ?_ | refine wc rfl rfl hM ?_ | refine wd rfl hM ?_ | ((first | refine we rfl fun K hK => ?_ | refine wf rfl rfl fun K hK => ?_ | refine wg rfl rfl fun K hK => ?_ | refine wh rfl fun K hK => ?_); (simp only [lo, ld, ↓aop, ↓aCall, hP, hG, Nat.reduceLT, ↓reduceIte, Nat.reduceEqDiff, Nat.reduceAdd, Nat.reduceMul, Nat.reduceLeDiff, reduceCtorEq, D.cs, D.plain, fillD, chop, List.replicate, tk_9, ze_9, sz_9]; repeat (with_reducible refine And.intro ?_ ?_; focus (first | decide | omega | (simp only [ln]; omega)))); try ((first | refine hK _ _ ?_ | refine hK _ ?_); clear hK K; simp only [lp])) | ((first | refine wi ?_ | refine wj ?_ | refine wk ?_ | refine wl ?_ | refine wm ?_ | refine wn ?_); simp only [lt, ↓reduceIte, Nat.reduceEqDiff]) | refine wo ?_)
  refine sat_cond rfl (fun hc => ?_) (fun hc => ?_)
  · simp at hc
    repeat (first | refine wa ?_ | refine wb rfl ?_ | refine wc rfl rfl hM ?_ | refine wd rfl hM ?_ | ((first | refine we rfl fun K hK => ?_ | refine wf rfl rfl fun K hK => ?_ | refine wg rfl rfl fun K hK => ?_ | refine wh rfl fun K hK => ?_); (simp only [lo, ld, ↓aop, ↓aCall, hP, hG, Nat.reduceLT, ↓reduceIte, Nat.reduceEqDiff, Nat.reduceAdd, Nat.reduceMul, Nat.reduceLeDiff, reduceCtorEq, D.cs, D.plain, fillD, chop, List.replicate, tk_9, ze_9, sz_9, hc]; repeat (with_reducible refine And.intro ?_ ?_; focus (first | decide | omega | (simp only [ln]; omega)))); try ((first | refine hK _ _ ?_ | refine hK _ ?_); clear hK K; simp only [lp])) | ((first | refine wi ?_ | refine wj ?_ | refine wk ?_ | refine wl ?_ | refine wm ?_ | refine wn ?_); simp only [lt, ↓reduceIte, Nat.reduceEqDiff]) | refine wo ?_)
    refine sat_thru (fr 55 [(5, .v (.bool (wordB (s.getD i 0)))), (4, .v (.int .u8 (s.getD i 0).toNat)), (3, .v (.int .i64 i)), (16, .v (.int .i64 i)), (15, .v (.int .i64 s.length)), (2, .v (.bool false)), (0, .v (.str s))]) E.H0 ?_ ?_
    · (first | refine wr ?_ | refine wp rfl hM ?_ | refine wq hM ?_); repeat' (first | ((first | refine wx ?_ | refine wy ?_ | refine wz ?_); (simp only [lo, ld, ↓aop, ↓aCall, hP, hG, Nat.reduceLT, ↓reduceIte, Nat.reduceEqDiff, Nat.reduceAdd, Nat.reduceMul, Nat.reduceLeDiff, reduceCtorEq, D.cs, D.plain, fillD, chop, List.replicate, tk_9, ze_9, sz_9]; repeat (with_reducible refine And.intro ?_ ?_; focus (first | decide | omega | (simp only [ln]; omega)))); try ((first | refine hK _ _ ?_ | refine hK _ ?_); clear hK K; simp only [lp])) | refine we rfl fun K hK => ?_ | refine wf rfl rfl fun K hK => ?_ | refine wg rfl rfl fun K hK => ?_ | refine wh rfl fun K hK => ?_ | ((first | refine Xg rfl rfl (by decide) ?_ fun K hK => ?_ | refine Yg rfl rfl (by decide) ?_ fun K hK => ?_ | refine Zg rfl rfl rfl (by decide) ?_ fun K hK => ?_); (focus (simp only [look_cons, ↓reduceIte, Nat.reduceEqDiff, Bool.not_true, Bool.not_false]; done))) | ((first | refine Xn rfl rfl (by decide) ?_ ?_ | refine Yn rfl rfl (by decide) ?_ ?_ | refine Zn rfl rfl rfl (by decide) ?_ ?_); (focus (simp only [look_cons, ↓reduceIte, Nat.reduceEqDiff, Bool.not_true, Bool.not_false]; done)); simp only [lp]) | ((first | refine Xo rfl rfl (by decide) ?_ ?_ | refine Yo rfl rfl (by decide) ?_ ?_ | refine Zo rfl rfl rfl (by decide) ?_ ?_); (focus (simp only [look_cons, ↓reduceIte, Nat.reduceEqDiff, Bool.not_true, Bool.not_false]; done)); simp only [lp]) | ((first | refine Xs rfl rfl (by decide) rfl (fun h K hK => ?_) fun h => ?_ | refine Ys rfl rfl (by decide) rfl (fun h K hK => ?_) fun h => ?_ | refine Zs rfl rfl rfl (by decide) rfl (fun h K hK => ?_) fun h => ?_); rotate_left; (focus (simp only [Bool.not_true, Bool.not_false, lp])); rotate_left) | ((first | refine wi ?_ | refine wj ?_ | refine wk ?_); simp only [lt, ↓reduceIte, Nat.reduceEqDiff]))
      all_goals refine .weakFr ?_
      all_goals simp only [le, ↓reduceIte, Nat.reduceEqDiff, and_true]; repeat' (first | exact trivial | exact D.le_refl _ | exact D.le_any _ | with_reducible refine And.intro ?_ ?_)
      all_goals refine D.le_eq (congrArg D.v (congrArg V.bool ?_)); (try simp only [Bool.not_eq_eq_eq_not, Bool.not_true, Bool.not_false] at *); simp only [*, List.getD_eq_getElem?_getD, Bool.and_true, Bool.true_and, Bool.and_false, Bool.false_and, Bool.or_true, Bool.true_or, Bool.or_false, Bool.false_or, Bool.not_true, Bool.not_false, Bool.not_not, wordB]
    repeat (first | refine wa ?_ | refine wb rfl ?_ | refine wc rfl rfl hM ?_ | refine wd rfl hM ?_ | ((first | refine we rfl fun K hK => ?_ | refine wf rfl rfl fun K hK => ?_ | refine wg rfl rfl fun K hK => ?_ | refine wh rfl fun K hK => ?_); (simp only [lo, ld, ↓aop, ↓aCall, hP, hG, Nat.reduceLT, ↓reduceIte, Nat.reduceEqDiff, Nat.reduceAdd, Nat.reduceMul, Nat.reduceLeDiff, reduceCtorEq, D.cs, D.plain, fillD, chop, List.replicate, tk_9, ze_9, sz_9]; repeat (with_reducible refine And.intro ?_ ?_; focus (first | decide | omega | (simp only [ln]; omega)))); try ((first | refine hK _ _ ?_ | refine hK _ ?_); clear hK K; simp only [lp])) | ((first | refine wi ?_ | refine wj ?_ | refine wk ?_ | refine wl ?_ | refine wm ?_ | refine wn ?_); simp only [lt, ↓reduceIte, Nat.reduceEqDiff]) | refine wo ?_)
    refine sat_thru (fr 55 [(53, .v (.bool (!nameAt s i))), (16, .v (.int .i64 i)), (15, .v (.int .i64 s.length)), (2, .v (.bool false)), (0, .v (.str s))]) E.H0 ?_ ?_
    · (first | refine wr ?_ | refine wp rfl hM ?_ | refine wq hM ?_); repeat' (first | ((first | refine wx ?_ | refine wy ?_ | refine wz ?_); (simp only [lo, ld, ↓aop, ↓aCall, hP, hG, Nat.reduceLT, ↓reduceIte, Nat.reduceEqDiff, Nat.reduceAdd, Nat.reduceMul, Nat.reduceLeDiff, reduceCtorEq, D.cs, D.plain, fillD, chop, List.replicate, tk_9, ze_9, sz_9]; repeat (with_reducible refine And.intro ?_ ?_; focus (first | decide | omega | (simp only [ln]; omega)))); try ((first | refine hK _ _ ?_ | refine hK _ ?_); clear hK K; simp only [lp])) | refine we rfl fun K hK => ?_ | refine wf rfl rfl fun K hK => ?_ | refine wg rfl rfl fun K hK => ?_ | refine wh rfl fun K hK => ?_ | ((first | refine Xg rfl rfl (by decide) ?_ fun K hK => ?_ | refine Yg rfl rfl (by decide) ?_ fun K hK => ?_ | refine Zg rfl rfl rfl (by decide) ?_ fun K hK => ?_); (focus (simp only [look_cons, ↓reduceIte, Nat.reduceEqDiff, Bool.not_true, Bool.not_false]; done))) | ((first | refine Xn rfl rfl (by decide) ?_ ?_ | refine Yn rfl rfl (by decide) ?_ ?_ | refine Zn rfl rfl rfl (by decide) ?_ ?_); (focus (simp only [look_cons, ↓reduceIte, Nat.reduceEqDiff, Bool.not_true, Bool.not_false]; done)); simp only [lp]) | ((first | refine Xo rfl rfl (by decide) ?_ ?_ | refine Yo rfl rfl (by decide) ?_ ?_ | refine Zo rfl rfl rfl (by decide) ?_ ?_); (focus (simp only [look_cons, ↓reduceIte, Nat.reduceEqDiff, Bool.not_true, Bool.not_false]; done)); simp only [lp]) | ((first | refine Xs rfl rfl (by decide) rfl (fun h K hK => ?_) fun h => ?_ | refine Ys rfl rfl (by decide) rfl (fun h K hK => ?_) fun h => ?_ | refine Zs rfl rfl rfl (by decide) rfl (fun h K hK => ?_) fun h => ?_); rotate_left; (focus (simp only [Bool.not_true, Bool.not_false, lp])); rotate_left) | ((first | refine wi ?_ | refine wj ?_ | refine wk ?_); simp only [lt, ↓reduceIte, Nat.reduceEqDiff]))
      all_goals refine .weakFr ?_
      all_goals simp only [le, ↓reduceIte, Nat.reduceEqDiff, and_true]; repeat' (first | exact trivial | exact D.le_refl _ | exact D.le_any _ | with_reducible refine And.intro ?_ ?_)
      all_goals clear hall
      all_goals refine D.le_eq (congrArg D.v (congrArg V.bool ?_)); (try simp only [Bool.not_eq_eq_eq_not, Bool.not_true, Bool.not_false] at *); simp only [*, List.getD_eq_getElem?_getD, Bool.and_true, Bool.true_and, Bool.and_false, Bool.false_and, Bool.or_true, Bool.true_or, Bool.or_false, Bool.false_or, Bool.not_true, Bool.not_false, Bool.not_not, nameAt, markB]
    refine sat_cond rfl (fun hb => ?_) (fun hb => ?_)
    · repeat (first | refine wa ?_ | refine wb rfl ?_ | refine wc rfl rfl hM ?_ | refine wd rfl hM ?_ | ((first | refine we rfl fun K hK => ?_ | refine wf rfl rfl fun K hK => ?_ | refine wg rfl rfl fun K hK => ?_ | refine wh rfl fun K hK => ?_); (simp only [lo, ld, ↓aop, ↓aCall, hP, hG, Nat.reduceLT, ↓reduceIte, Nat.reduceEqDiff, Nat.reduceAdd, Nat.reduceMul, Nat.reduceLeDiff, reduceCtorEq, D.cs, D.plain, fillD, chop, List.replicate]; repeat (with_reducible refine And.intro ?_ ?_; focus (first | decide | omega | (simp only [ln]; omega)))); try ((first | refine hK _ _ ?_ | refine hK _ ?_); clear hK K; simp only [lp])) | ((first | refine wi ?_ | refine wj ?_ | refine wk ?_ | refine wl ?_ | refine wm ?_ | refine wn ?_); simp only [lt, ↓reduceIte, Nat.reduceEqDiff]) | refine wo ?_)
      refine Fin.is (.v (.bool false)) (by decide) rfl ?_
      have : nameOk s = false := by
        simp only [nameOk, Bool.and_eq_false_iff]
        right
        rw [List.all_eq_false]
        exact ⟨i, by simpa using hc, by simpa using hb⟩
      rwa [this] at hK
    · have hw := wrap_succ (i := i) (by omega)
      simp at hb
      repeat (first | refine wa ?_ | refine wb rfl ?_ | refine wc rfl rfl hM ?_ | refine wd rfl hM ?_ | ((first | refine we rfl fun K hK => ?_ | refine wf rfl rfl fun K hK => ?_ | refine wg rfl rfl fun K hK => ?_ | refine wh rfl fun K hK => ?_); (simp only [lo, ld, ↓aop, ↓aCall, hP, hG, Nat.reduceLT, ↓reduceIte, Nat.reduceEqDiff, Nat.reduceAdd, Nat.reduceMul, Nat.reduceLeDiff, reduceCtorEq, D.cs, D.plain, fillD, chop, List.replicate, hw]; repeat (with_reducible refine And.intro ?_ ?_; focus (first | decide | omega | (simp only [ln]; omega)))); try ((first | refine hK _ _ ?_ | refine hK _ ?_); clear hK K; simp only [lp])) | ((first | refine wi ?_ | refine wj ?_ | refine wk ?_ | refine wl ?_ | refine wm ?_ | refine wn ?_); simp only [lt, ↓reduceIte, Nat.reduceEqDiff]) | refine wo ?_)
      refine ⟨s.length - (i + 1), _, _, by omega, .weakFr ?_, i + 1, rfl, by omega, fun j hj => ?_, rfl, rfl⟩
      · simp only [le, ↓reduceIte, Nat.reduceEqDiff, and_true]; repeat' (first | exact trivial | exact D.le_refl _ | exact D.le_any _ | with_reducible refine And.intro ?_ ?_)
      · rcases Nat.lt_succ_iff_lt_or_eq.1 hj with h | rfl
        · exact hall j h
        · exact hb
  · simp at hc
    repeat (first | refine wa ?_ | refine wb rfl ?_ | refine wc rfl rfl hM ?_ | refine wd rfl hM ?_ | ((first | refine we rfl fun K hK => ?_ | refine wf rfl rfl fun K hK => ?_ | refine wg rfl rfl fun K hK => ?_ | refine wh rfl fun K hK => ?_); (simp only [lo, ld, ↓aop, ↓aCall, hP, hG, Nat.reduceLT, ↓reduceIte, Nat.reduceEqDiff, Nat.reduceAdd, Nat.reduceMul, Nat.reduceLeDiff, reduceCtorEq, D.cs, D.plain, fillD, chop, List.replicate, tk_9, ze_9, sz_9]; repeat (with_reducible refine And.intro ?_ ?_; focus (first | decide | omega | (simp only [ln]; omega)))); try ((first | refine hK _ _ ?_ | refine hK _ ?_); clear hK K; simp only [lp])) | ((first | refine wi ?_ | refine wj ?_ | refine wk ?_ | refine wl ?_ | refine wm ?_ | refine wn ?_); simp only [lt, ↓reduceIte, Nat.reduceEqDiff]) | refine wo ?_)
    refine Fin.is (.v (.bool true)) (by decide) rfl ?_
    have : nameOk s = true := by
      simp only [nameOk, ← Bool.not_or, hb, Bool.not_false, Bool.true_and, List.all_eq_true, List.mem_range]
      exact fun j hj => hall j (by omega)
    rwa [this] at hK
end Go.Ag
namespace Go.Ag
open Go Go.Proofs
variable {G : Nat → Option (List V)}

theorem spec_mode (b : Bool) (H : List Ob) (K : D → List Ob → Prop) (hK : K (.v (.str (if b then [109, 97, 110, 117, 97, 108] else [97, 117, 116, 111]))) H) : ACalls Tryd.prog G 32 [.v (.bool b)] H K := by
  refine ACalls.go Tryd.f32 _ 4 [2] Tryd.func32 rfl Tryd.ntmps32 (by kernel_rfl) rfl (by simp) (fun E hE hP hG hH => ?_)
  subst hH
  simp only [args0]
  repeat (first | refine wa ?_ | refine wb rfl ?_ | refine wc rfl rfl hM ?_ | refine wd rfl hM ?_ | ((first | refine we rfl fun K hK => ?_ | refine wf rfl rfl fun K hK => ?_ | refine wg rfl rfl fun K hK => ?_ | refine wh rfl fun K hK => ?_); (simp only [lo, ld, ↓aop, ↓aCall, hP, hG, Nat.reduceLT, ↓reduceIte, Nat.reduceEqDiff, Nat.reduceAdd, Nat.reduceMul, Nat.reduceLeDiff, reduceCtorEq, D.cs, D.plain, fillD, chop, List.replicate]; repeat (with_reducible refine And.intro ?_ ?_; focus (first | decide | omega | (simp only [ln]; omega)))); try ((first | refine hK _ _ ?_ | refine hK _ ?_); clear hK K; simp only [lp])) | ((first | refine wi ?_ | refine wj ?_ | refine wk ?_ | refine wl ?_ | refine wm ?_ | refine wn ?_); simp only [lt, ↓reduceIte, Nat.reduceEqDiff]) | refine wo ?_)
  refine sat_cond (b := b) rfl (fun hb => ?_) (fun hb => ?_)
  · subst hb
    repeat (first | refine wa ?_ | refine wb rfl ?_ | refine wc rfl rfl hM ?_ | refine wd rfl hM ?_ | ((first | refine we rfl fun K hK => ?_ | refine wf rfl rfl fun K hK => ?_ | refine wg rfl rfl fun K hK => ?_ | refine wh rfl fun K hK => ?_); (simp only [lo, ld, ↓aop, ↓aCall, hP, hG, Nat.reduceLT, ↓reduceIte, Nat.reduceEqDiff, Nat.reduceAdd, Nat.reduceMul, Nat.reduceLeDiff, reduceCtorEq, D.cs, D.plain, fillD, chop, List.replicate]; repeat (with_reducible refine And.intro ?_ ?_; focus (first | decide | omega | (simp only [ln]; omega)))); try ((first | refine hK _ _ ?_ | refine hK _ ?_); clear hK K; simp only [lp])) | ((first | refine wi ?_ | refine wj ?_ | refine wk ?_ | refine wl ?_ | refine wm ?_ | refine wn ?_); simp only [lt, ↓reduceIte, Nat.reduceEqDiff]) | refine wo ?_)
    exact Fin.is _ (by decide) rfl hK
  · subst hb
    repeat (first | refine wa ?_ | refine wb rfl ?_ | refine wc rfl rfl hM ?_ | refine wd rfl hM ?_ | ((first | refine we rfl fun K hK => ?_ | refine wf rfl rfl fun K hK => ?_ | refine wg rfl rfl fun K hK => ?_ | refine wh rfl fun K hK => ?_); (simp only [lo, ld, ↓aop, ↓aCall, hP, hG, Nat.reduceLT, ↓reduceIte, Nat.reduceEqDiff, Nat.reduceAdd, Nat.reduceMul, Nat.reduceLeDiff, reduceCtorEq, D.cs, D.plain, fillD, chop, List.replicate]; repeat (with_reducible refine And.intro ?_ ?_; focus (first | decide | omega | (simp only [ln]; omega)))); try ((first | refine hK _ _ ?_ | refine hK _ ?_); clear hK K; simp only [lp])) | ((first | refine wi ?_ | refine wj ?_ | refine wk ?_ | refine wl ?_ | refine wm ?_ | refine wn ?_); simp only [lt, ↓reduceIte, Nat.reduceEqDiff]) | refine wo ?_)
    exact Fin.is _ (by decide) rfl hK


structure Slv where
  name : Str
  link : Str
structure Cho where
  path : Str
  prio : Int
  slaves : List Str
structure Alt where
  name : Str
  link : Str
  manual : Bool
  cur : Str
  slaves : List Slv
  choices : List Cho
def slvs (l : List Slv) : V := .list 2 (l.map fun s => [.str s.name, .str s.link])
def chos (l : List Cho) : V := .list 3 (l.map fun c => [.str c.path, .int .i64 c.prio, strs c.slaves])
def altd (x : Alt) : D := .agg [.v (.str x.name), .v (.str x.link), .v (.bool x.manual), .v (.str x.cur), .v (slvs x.slaves), .v (chos x.choices)]

def links (x : Alt) : List Str := x.link :: x.slaves.map (·.link)

theorem spec_Links (x : Alt) (hx : x.slaves.length ≤ 1099511627776) (H : List Ob) (K : D → List Ob → Prop) (hK : K (.v (strs (links x))) H) : ACalls Tryd.prog G 25 [altd x] H K := by
  refine ACalls.go Tryd.f25 _ 23 [2] Tryd.func25 rfl Tryd.ntmps25 (by kernel_rfl) rfl (by simp) (fun E hE hP hG hH => ?_)
  subst hH
  simp only [args0, altd]
  repeat (first | refine wa ?_ | refine wb rfl ?_ | refine wc rfl rfl hM ?_ | refine wd rfl hM ?_ | ((first | refine we rfl fun K hK => ?_ | refine wf rfl rfl fun K hK => ?_ | refine wg rfl rfl fun K hK => ?_ | refine wh rfl fun K hK => ?_); (simp only [lo, ld, ↓aop, ↓aCall, hP, hG, Nat.reduceLT, ↓reduceIte, Nat.reduceEqDiff, Nat.reduceAdd, Nat.reduceMul, Nat.reduceLeDiff, reduceCtorEq, D.cs, D.plain, fillD, chop, List.replicate, tk_9, ze_9, sz_9, tk_43, ze_43, sz_43, tk_46, ze_46, sz_46, kn_46, tk_50, ze_50, sz_50, tk_73, ze_73, sz_73, kn_73]; repeat (with_reducible refine And.intro ?_ ?_; focus (first | decide | omega | (simp only [ln]; omega)))); try ((first | refine hK _ _ ?_ | refine hK _ ?_); clear hK K; simp only [lp])) | ((first | refine wi ?_ | refine wj ?_ | refine wk ?_ | refine wl ?_ | refine wm ?_ | refine wn ?_); simp only [lt, ↓reduceIte, Nat.reduceEqDiff]) | refine wo ?_)
  refine sat_loop_ent (fun n ts H => ∃ (i ver : Nat) (out : List Str), n = x.slaves.length - i ∧ i ≤ x.slaves.length ∧ 1 ≤ ver ∧ out = x.link :: (x.slaves.take i).map (·.link) ∧
    ts = fr 23 [(12, .v (.int .i64 i)), (11, .v (.int .i64 x.slaves.length)), (10, .v (slvs x.slaves)), (3, .own (E.H0.length + 1) ver out.length), (1, .ptr E.H0.length 0)] ∧
    H = E.H0 ++ [.box [.v (.str x.name), .v (.str x.link), .v (.bool x.manual), .v (.str x.cur), .v (slvs x.slaves), .v (chos x.choices)], .arr ver 1 (out.map fun s => [.v (.str s)]) 0]) (x.slaves.length) (.weakFr ?_) ⟨0, 1, _, rfl, Nat.zero_le _, Nat.le_refl _, rfl, rfl, rfl⟩ ?_
  · simp only [List.length_map]; simp only [le, ↓reduceIte, Nat.reduceEqDiff, and_true]; repeat' (first | exact trivial | exact D.le_refl _ | exact D.le_any _ | with_reducible refine And.intro ?_ ?_)
  · rintro n ts H ⟨i, ver, out, rfl, hi, hv, ho, rfl, rfl⟩
    have hol : out.length = i + 1 := by subst ho; simp; omega
    repeat (first | refine wa ?_ | refine wb rfl ?_ | refine wc rfl rfl hM ?_ | refine wd rfl hM ?_ | ((first | refine we rfl fun K hK => ?_ | refine wf rfl rfl fun K hK => ?_ | refine wg rfl rfl fun K hK => ?_ | refine wh rfl fun K hK => ?_); (simp only [lo, ld, ↓aop, ↓aCall, hP, hG, Nat.reduceLT, ↓reduceIte, Nat.reduceEqDiff, Nat.reduceAdd, Nat.reduceMul, Nat.reduceLeDiff, reduceCtorEq, D.cs, D.plain, fillD, chop, List.replicate, slvs, tk_9, ze_9, sz_9, tk_43, ze_43, sz_43, tk_46, ze_46, sz_46, kn_46, tk_50, ze_50, sz_50, tk_73, ze_73, sz_73, kn_73]; repeat (with_reducible refine And.intro ?_ ?_; focus (first | decide | omega | (simp only [ln]; omega)))); try ((first | refine hK _ _ ?_ | refine hK _ ?_); clear hK K; simp only [lp])) | ((first | refine wi ?_ | refine wj ?_ | refine wk ?_ | refine wl ?_ | refine wm ?_ | refine wn ?_); simp only [lt, ↓reduceIte, Nat.reduceEqDiff]) | refine wo ?_)
    refine sat_cond rfl (fun hb => ?_) (fun hb => ?_)
    · simp only [decide_eq_true_eq, Int.ofNat_lt] at hb
      obtain ⟨s, hs⟩ : ∃ s, x.slaves[i]? = some s := ⟨_, List.getElem?_eq_getElem hb⟩
      have hw := wrap_succ (i := i) (by omega)
      repeat (first | refine wa ?_ | refine wb rfl ?_ | refine wc rfl rfl hM ?_ | refine wd rfl hM ?_ | ((first | refine we rfl fun K hK => ?_ | refine wf rfl rfl fun K hK => ?_ | refine wg rfl rfl fun K hK => ?_ | refine wh rfl fun K hK => ?_); (simp only [lo, ld, ↓aop, ↓aCall, hP, hG, Nat.reduceLT, ↓reduceIte, Nat.reduceEqDiff, Nat.reduceAdd, Nat.reduceMul, Nat.reduceLeDiff, reduceCtorEq, D.cs, D.plain, fillD, chop, List.replicate, slvs, tk_9, ze_9, sz_9, tk_43, ze_43, sz_43, tk_46, ze_46, sz_46, kn_46, tk_50, ze_50, sz_50, tk_73, ze_73, sz_73, kn_73, hs, hb, hw]; repeat (with_reducible refine And.intro ?_ ?_; focus (first | decide | omega | (simp only [ln]; omega)))); try ((first | refine hK _ _ ?_ | refine hK _ ?_); clear hK K; simp only [lp])) | ((first | refine wi ?_ | refine wj ?_ | refine wk ?_ | refine wl ?_ | refine wm ?_ | refine wn ?_); simp only [lt, ↓reduceIte, Nat.reduceEqDiff]) | refine wo ?_)
      refine ⟨x.slaves.length - (i + 1), _, _, by omega, ?_, i + 1, ver + 1, out ++ [s.link], rfl, by omega, by omega, by simp [ho, List.take_add_one, hs], rfl, rfl⟩
      refine Ent.rnd hE ?_ ?_ ?_ ?_
      · simp only [List.length_append, List.length_cons, List.length_nil]; simp only [le, ↓reduceIte, Nat.reduceEqDiff, and_true]; repeat' (first | exact trivial | exact D.le_refl _ | exact D.le_any _ | with_reducible refine And.intro ?_ ?_)
      · simp [slvs]
      · simp [ltAll, ltObs, Ob.lt, D.lt, D.ltL, or_imp, forall_and]
      · simp [ltAll, ltObs, Ob.lt, D.lt, D.ltL, or_imp, forall_and]
    · simp only [decide_eq_false_iff_not, Int.ofNat_lt, Nat.not_lt] at hb
      repeat (first | refine wa ?_ | refine wb rfl ?_ | refine wc rfl rfl hM ?_ | refine wd rfl hM ?_ | ((first | refine we rfl fun K hK => ?_ | refine wf rfl rfl fun K hK => ?_ | refine wg rfl rfl fun K hK => ?_ | refine wh rfl fun K hK => ?_); (simp only [lo, ld, ↓aop, ↓aCall, hP, hG, Nat.reduceLT, ↓reduceIte, Nat.reduceEqDiff, Nat.reduceAdd, Nat.reduceMul, Nat.reduceLeDiff, reduceCtorEq, D.cs, D.plain, fillD, chop, List.replicate, slvs]; repeat (with_reducible refine And.intro ?_ ?_; focus (first | decide | omega | (simp only [ln]; omega)))); try ((first | refine hK _ _ ?_ | refine hK _ ?_); clear hK K; simp only [lp])) | ((first | refine wi ?_ | refine wj ?_ | refine wk ?_ | refine wl ?_ | refine wm ?_ | refine wn ?_); simp only [lt, ↓reduceIte, Nat.reduceEqDiff]) | refine wo ?_)
      have e : i = x.slaves.length := by omega
      have ho : out = links x := by rw [ho, e, take_len]; rfl
      subst ho
      refine Fin.pub 1 ver 1 0 (links x).length ((links x).map fun s => [.str s]) hE (by decide) rfl ?_ (Nat.zero_le _) (by simp) ?_
      · simp
      · simpa only [strs, take_len_map] using hK


theorem spec_Same2 (a b : List Str) (ha : a.length ≤ 1099511627776) (H : List Ob) (K : D → List Ob → Prop) (hK : K (.v (.bool (a == b))) H) : ACalls Tryd.prog G 24 [.v (strs a), .v (strs b)] H K := by
  refine ACalls.go Tryd.f24 _ 26 [4] Tryd.func24 rfl Tryd.ntmps24 (by kernel_rfl) rfl (by simp) (fun E hE hP hG hH => ?_)
  subst hH
  have hM : E.P.follows .mixedOrders = true := hP ▸ mixed
  simp only [args0]
  repeat (first | refine wa ?_ | refine wb rfl ?_ | refine wc rfl rfl hM ?_ | refine wd rfl hM ?_ | ((first | refine we rfl fun K hK => ?_ | refine wf rfl rfl fun K hK => ?_ | refine wg rfl rfl fun K hK => ?_ | refine wh rfl fun K hK => ?_); (simp only [lo, ld, ↓aop, ↓aCall, hP, hG, Nat.reduceLT, ↓reduceIte, Nat.reduceEqDiff, Nat.reduceAdd, Nat.reduceMul, Nat.reduceLeDiff, reduceCtorEq, D.cs, D.plain, fillD, chop, List.replicate, strs, tk_9, ze_9, sz_9, tk_50, ze_50, sz_50]; repeat (with_reducible refine And.intro ?_ ?_; focus (first | decide | omega | (simp only [ln]; omega)))); try ((first | refine hK _ _ ?_ | refine hK _ ?_); clear hK K; simp only [lp])) | ((first | refine wi ?_ | refine wj ?_ | refine wk ?_ | refine wl ?_ | refine wm ?_ | refine wn ?_); simp only [lt, ↓reduceIte, Nat.reduceEqDiff]) | refine wo ?_)
  refine sat_cond rfl (fun hb => ?_) (fun hb => ?_)
  · repeat (first | refine wa ?_ | refine wb rfl ?_ | refine wc rfl rfl hM ?_ | refine wd rfl hM ?_ | ((first | refine we rfl fun K hK => ?_ | refine wf rfl rfl fun K hK => ?_ | refine wg rfl rfl fun K hK => ?_ | refine wh rfl fun K hK => ?_); (simp only [lo, ld, ↓aop, ↓aCall, hP, hG, Nat.reduceLT, ↓reduceIte, Nat.reduceEqDiff, Nat.reduceAdd, Nat.reduceMul, Nat.reduceLeDiff, reduceCtorEq, D.cs, D.plain, fillD, chop, List.replicate]; repeat (with_reducible refine And.intro ?_ ?_; focus (first | decide | omega | (simp only [ln]; omega)))); try ((first | refine hK _ _ ?_ | refine hK _ ?_); clear hK K; simp only [lp])) | ((first | refine wi ?_ | refine wj ?_ | refine wk ?_ | refine wl ?_ | refine wm ?_ | refine wn ?_); simp only [lt, ↓reduceIte, Nat.reduceEqDiff]) | refine wo ?_)
    refine Fin.is _ (by decide) rfl ?_
    have : (a == b) = false := by
      simp at hb ⊢; intro e; subst e; exact hb rfl
    rwa [this] at hK
  repeat (first | refine wa ?_ | refine wb rfl ?_ | refine wc rfl rfl hM ?_ | refine wd rfl hM ?_ | ((first | refine we rfl fun K hK => ?_ | refine wf rfl rfl fun K hK => ?_ | refine wg rfl rfl fun K hK => ?_ | refine wh rfl fun K hK => ?_); (simp only [lo, ld, ↓aop, ↓aCall, hP, hG, Nat.reduceLT, ↓reduceIte, Nat.reduceEqDiff, Nat.reduceAdd, Nat.reduceMul, Nat.reduceLeDiff, reduceCtorEq, D.cs, D.plain, fillD, chop, List.replicate, strs, tk_9, ze_9, sz_9, tk_50, ze_50, sz_50]; repeat (with_reducible refine And.intro ?_ ?_; focus (first | decide | omega | (simp only [ln]; omega)))); try ((first | refine hK _ _ ?_ | refine hK _ ?_); clear hK K; simp only [lp])) | ((first | refine wi ?_ | refine wj ?_ | refine wk ?_ | refine wl ?_ | refine wm ?_ | refine wn ?_); simp only [lt, ↓reduceIte, Nat.reduceEqDiff]) | refine wo ?_)
  refine sat_loop_ent (fun n ts H => ∃ (i : Nat), n = a.length - i ∧ i ≤ a.length ∧ a.take i = b.take i ∧
    ts = fr 26 [(5, .v (.int .i64 i)), (4, .v (.bool false)), (0, .v (strs a)), (1, .v (strs b))] ∧ H = E.H0) (a.length) (.weakFr ?_) ⟨0, rfl, Nat.zero_le _, rfl, rfl, rfl⟩ ?_
  · simp only [le, ↓reduceIte, Nat.reduceEqDiff, and_true]; repeat' (first | exact trivial | exact D.le_refl _ | exact D.le_any _ | with_reducible refine And.intro ?_ ?_)
  · rintro n ts H ⟨i, rfl, hi, he, rfl, rfl⟩
    repeat (first | refine wa ?_ | refine wb rfl ?_ | refine wc rfl rfl hM ?_ | refine wd rfl hM ?_ | ((first | refine we rfl fun K hK => ?_ | refine wf rfl rfl fun K hK => ?_ | refine wg rfl rfl fun K hK => ?_ | refine wh rfl fun K hK => ?_); (simp only [lo, ld, ↓aop, ↓aCall, hP, hG, Nat.reduceLT, ↓reduceIte, Nat.reduceEqDiff, Nat.reduceAdd, Nat.reduceMul, Nat.reduceLeDiff, reduceCtorEq, D.cs, D.plain, fillD, chop, List.replicate, strs, tk_9, ze_9, sz_9, tk_50, ze_50, sz_50]; repeat (with_reducible refine And.intro ?_ ?_; focus (first | decide | omega | (simp only [ln]; omega)))); try ((first | refine hK _ _ ?_ | refine hK _ ?_); clear hK K; simp only [lp])) | ((first | refine wi ?_ | refine wj ?_ | refine wk ?_ | refine wl ?_ | refine wm ?_ | refine wn ?_); simp only [lt, ↓reduceIte, Nat.reduceEqDiff]) | refine wo ?_)
    have hl : a.length = b.length := by simp at hb; omega
    refine sat_cond rfl (fun hc => ?_) (fun hc => ?_)
    · simp at hc
      obtain ⟨x, hx⟩ : ∃ x, a[i]? = some x := ⟨_, List.getElem?_eq_getElem hc⟩
      obtain ⟨y, hy⟩ : ∃ y, b[i]? = some y := ⟨_, List.getElem?_eq_getElem (hl ▸ hc)⟩
      repeat (first | refine wa ?_ | refine wb rfl ?_ | refine wc rfl rfl hM ?_ | refine wd rfl hM ?_ | ((first | refine we rfl fun K hK => ?_ | refine wf rfl rfl fun K hK => ?_ | refine wg rfl rfl fun K hK => ?_ | refine wh rfl fun K hK => ?_); (simp only [lo, ld, ↓aop, ↓aCall, hP, hG, Nat.reduceLT, ↓reduceIte, Nat.reduceEqDiff, Nat.reduceAdd, Nat.reduceMul, Nat.reduceLeDiff, reduceCtorEq, D.cs, D.plain, fillD, chop, List.replicate, strs, tk_9, ze_9, sz_9, tk_50, ze_50, sz_50, hx, hy]; repeat (with_reducible refine And.intro ?_ ?_; focus (first | decide | omega | (simp only [ln]; omega)))); try ((first | refine hK _ _ ?_ | refine hK _ ?_); clear hK K; simp only [lp])) | ((first | refine wi ?_ | refine wj ?_ | refine wk ?_ | refine wl ?_ | refine wm ?_ | refine wn ?_); simp only [lt, ↓reduceIte, Nat.reduceEqDiff]) | refine wo ?_)
      repeat ((with_reducible refine And.intro ?_ ?_; focus (first | decide | omega | (simp only [ln]; omega))))
      refine sat_cond rfl (fun hd => ?_) (fun hd => ?_)
      · repeat (first | refine wa ?_ | refine wb rfl ?_ | refine wc rfl rfl hM ?_ | refine wd rfl hM ?_ | ((first | refine we rfl fun K hK => ?_ | refine wf rfl rfl fun K hK => ?_ | refine wg rfl rfl fun K hK => ?_ | refine wh rfl fun K hK => ?_); (simp only [lo, ld, ↓aop, ↓aCall, hP, hG, Nat.reduceLT, ↓reduceIte, Nat.reduceEqDiff, Nat.reduceAdd, Nat.reduceMul, Nat.reduceLeDiff, reduceCtorEq, D.cs, D.plain, fillD, chop, List.replicate]; repeat (with_reducible refine And.intro ?_ ?_; focus (first | decide | omega | (simp only [ln]; omega)))); try ((first | refine hK _ _ ?_ | refine hK _ ?_); clear hK K; simp only [lp])) | ((first | refine wi ?_ | refine wj ?_ | refine wk ?_ | refine wl ?_ | refine wm ?_ | refine wn ?_); simp only [lt, ↓reduceIte, Nat.reduceEqDiff]) | refine wo ?_)
        refine Fin.is _ (by decide) rfl ?_
        have : (a == b) = false := by
          simp at hd ⊢; intro e; subst e; rw [hx] at hy; exact hd (by simpa using hy)
        rwa [this] at hK
      · have hw := wrap_succ (i := i) (by omega)
        simp at hd
        subst hd
        repeat (first | refine wa ?_ | refine wb rfl ?_ | refine wc rfl rfl hM ?_ | refine wd rfl hM ?_ | ((first | refine we rfl fun K hK => ?_ | refine wf rfl rfl fun K hK => ?_ | refine wg rfl rfl fun K hK => ?_ | refine wh rfl fun K hK => ?_); (simp only [lo, ld, ↓aop, ↓aCall, hP, hG, Nat.reduceLT, ↓reduceIte, Nat.reduceEqDiff, Nat.reduceAdd, Nat.reduceMul, Nat.reduceLeDiff, reduceCtorEq, D.cs, D.plain, fillD, chop, List.replicate, hw]; repeat (with_reducible refine And.intro ?_ ?_; focus (first | decide | omega | (simp only [ln]; omega)))); try ((first | refine hK _ _ ?_ | refine hK _ ?_); clear hK K; simp only [lp])) | ((first | refine wi ?_ | refine wj ?_ | refine wk ?_ | refine wl ?_ | refine wm ?_ | refine wn ?_); simp only [lt, ↓reduceIte, Nat.reduceEqDiff]) | refine wo ?_)
        refine ⟨a.length - (i + 1), _, _, by omega, .weakFr ?_, i + 1, rfl, by omega, by simp [List.take_add_one, hx, hy, he], rfl, rfl⟩
        simp only [le, ↓reduceIte, Nat.reduceEqDiff, and_true]; repeat' (first | exact trivial | exact D.le_refl _ | exact D.le_any _ | with_reducible refine And.intro ?_ ?_)
    · simp at hc
      repeat (first | refine wa ?_ | refine wb rfl ?_ | refine wc rfl rfl hM ?_ | refine wd rfl hM ?_ | ((first | refine we rfl fun K hK => ?_ | refine wf rfl rfl fun K hK => ?_ | refine wg rfl rfl fun K hK => ?_ | refine wh rfl fun K hK => ?_); (simp only [lo, ld, ↓aop, ↓aCall, hP, hG, Nat.reduceLT, ↓reduceIte, Nat.reduceEqDiff, Nat.reduceAdd, Nat.reduceMul, Nat.reduceLeDiff, reduceCtorEq, D.cs, D.plain, fillD, chop, List.replicate]; repeat (with_reducible refine And.intro ?_ ?_; focus (first | decide | omega | (simp only [ln]; omega)))); try ((first | refine hK _ _ ?_ | refine hK _ ?_); clear hK K; simp only [lp])) | ((first | refine wi ?_ | refine wj ?_ | refine wk ?_ | refine wl ?_ | refine wm ?_ | refine wn ?_); simp only [lt, ↓reduceIte, Nat.reduceEqDiff]) | refine wo ?_)
      refine Fin.is (.v (.bool true)) (by decide) rfl ?_
      have : a = b := by
        rwa [List.take_of_length_le hc, List.take_of_length_le (by omega)] at he
      subst this
      simpa using hK
end Go.Ag
namespace Go.Ag
open Go Go.Proofs
variable {G : Nat → Option (List V)}
attribute [local irreducible] aops qops Sat aop

theorem take_snoc {α : Type} {s : List α} {i : Nat} {b : α} (h : s[i]? = some b) : s.take (i + 1) = s.take i ++ [b] := by rw [List.take_add_one, h]; rfl
def altV (x : Alt) : List V := [.str x.name, .str x.link, .bool x.manual, .str x.cur, slvs x.slaves, chos x.choices]
def altsV (l : List Alt) : V := .list 6 (l.map altV)
theorem all_snoc {α : Type} {p : α → Prop} {l : List α} {i : Nat} {x : α} (h : ∀ y ∈ l.take i, p y) (hx : l[i]? = some x) (hp : p x) : ∀ y ∈ l.take (i + 1), p y := by
  intro y hy
  rw [take_snoc hx] at hy
  rcases List.mem_append.1 hy with hy | hy
  · exact h y hy
  · simp at hy; subst hy; exact hp

def slvSmall (s : Slv) : Prop := s.name.length ≤ 300 ∧ s.link.length ≤ 300
def choSmall (c : Cho) : Prop := c.path.length ≤ 300 ∧ c.slaves.length ≤ 70 ∧ ∀ t ∈ c.slaves, t.length ≤ 3000
def altSmall (x : Alt) : Prop := x.name.length ≤ 300 ∧ x.link.length ≤ 300 ∧ x.cur.length ≤ 300 ∧ x.slaves.length ≤ 70 ∧ x.choices.length ≤ 70 ∧ (∀ s ∈ x.slaves, slvSmall s) ∧ ∀ c ∈ x.choices, choSmall c
def fewA (l : List Alt) : Prop := l.length ≤ 70 ∧ ∀ x ∈ l, altSmall x

set_option maxHeartbeats 8000000 in
theorem spec_FewA (l : List Alt) (hl : l.length ≤ 9223372036854775807) (H : List Ob) (K : D → List Ob → Prop) (hK : ∀ b : Bool, (b = true → fewA l) → K (.v (.bool b)) H) : ACalls Tryd.prog G 15 [.v (altsV l)] H K := by
  refine ACalls.go Tryd.f15 _ 138 [2] Tryd.func15 rfl Tryd.ntmps15 (by kernel_rfl) rfl (by simp) (fun E hE hP hG hH => ?_)
  have hM : E.P.follows .mixedOrders = true := hP ▸ mixed
  subst hH
  simp only [args0]
  repeat (first | refine wa ?_ | refine wb rfl ?_ | refine wc rfl rfl hM ?_ | refine wd rfl hM ?_ | ((first | refine we rfl fun K hK => ?_ | refine wf rfl rfl fun K hK => ?_ | refine wg rfl rfl fun K hK => ?_ | refine wh rfl fun K hK => ?_); (simp only [lo, ld, ↓aop, ↓aCall, hP, hG, Nat.reduceLT, ↓reduceIte, Nat.reduceEqDiff, Nat.reduceAdd, Nat.reduceMul, Nat.reduceLeDiff, reduceCtorEq, D.cs, D.plain, fillD, chop, List.replicate, altsV, tk_3, ze_3, sz_3, tk_9, ze_9, sz_9, tk_35, ze_35, sz_35, tk_46, ze_46, sz_46, kn_46]; repeat (with_reducible refine And.intro ?_ ?_; focus (first | decide | omega | (simp only [ln]; omega)))); try ((first | refine hK _ _ ?_ | refine hK _ ?_); clear hK K; simp only [lp])) | ((first | refine wi ?_ | refine wj ?_ | refine wk ?_ | refine wl ?_ | refine wm ?_ | refine wn ?_); simp only [lt, ↓reduceIte, Nat.reduceEqDiff]) | refine wo ?_)
  refine sat_cond rfl (fun hb => ?_) (fun hb => ?_)
  · repeat (first | refine wa ?_ | refine wb rfl ?_ | refine wc rfl rfl hM ?_ | refine wd rfl hM ?_ | ((first | refine we rfl fun K hK => ?_ | refine wf rfl rfl fun K hK => ?_ | refine wg rfl rfl fun K hK => ?_ | refine wh rfl fun K hK => ?_); (simp only [lo, ld, ↓aop, ↓aCall, hP, hG, Nat.reduceLT, ↓reduceIte, Nat.reduceEqDiff, Nat.reduceAdd, Nat.reduceMul, Nat.reduceLeDiff, reduceCtorEq, D.cs, D.plain, fillD, chop, List.replicate, tk_9, ze_9, sz_9, tk_3, ze_3, sz_3]; repeat (with_reducible refine And.intro ?_ ?_; focus (first | decide | omega | (simp only [ln]; omega)))); try ((first | refine hK _ _ ?_ | refine hK _ ?_); clear hK K; simp only [lp])) | ((first | refine wi ?_ | refine wj ?_ | refine wk ?_ | refine wl ?_ | refine wm ?_ | refine wn ?_); simp only [lt, ↓reduceIte, Nat.reduceEqDiff]) | refine wo ?_)
    exact Fin.is _ (by decide) rfl (hK false (fun h => by cases h))
  have hlen : l.length ≤ 70 := by simp only [decide_eq_false_iff_not] at hb; omega
  repeat (first | refine wa ?_ | refine wb rfl ?_ | refine wc rfl rfl hM ?_ | refine wd rfl hM ?_ | ((first | refine we rfl fun K hK => ?_ | refine wf rfl rfl fun K hK => ?_ | refine wg rfl rfl fun K hK => ?_ | refine wh rfl fun K hK => ?_); (simp only [lo, ld, ↓aop, ↓aCall, hP, hG, Nat.reduceLT, ↓reduceIte, Nat.reduceEqDiff, Nat.reduceAdd, Nat.reduceMul, Nat.reduceLeDiff, reduceCtorEq, D.cs, D.plain, fillD, chop, List.replicate, altsV, tk_3, ze_3, sz_3, tk_9, ze_9, sz_9, tk_35, ze_35, sz_35, tk_46, ze_46, sz_46, kn_46]; repeat (with_reducible refine And.intro ?_ ?_; focus (first | decide | omega | (simp only [ln]; omega)))); try ((first | refine hK _ _ ?_ | refine hK _ ?_); clear hK K; simp only [lp])) | ((first | refine wi ?_ | refine wj ?_ | refine wk ?_ | refine wl ?_ | refine wm ?_ | refine wn ?_); simp only [lt, ↓reduceIte, Nat.reduceEqDiff]) | refine wo ?_)
  refine sat_loop_ent (fun n ts H => ∃ (i m : Nat), n = l.length - i ∧ i ≤ l.length ∧ m ≤ 3000 ∧ (∀ x ∈ l.take i, altSmall x) ∧
    ts = fr 138 [(4, .v (.int .i64 i)), (3, .v (.int .i64 m)), (2, .v (.bool false)), (0, .v (altsV l))] ∧ H = E.H0) (l.length) (.weakFr ?_) ⟨0, 0, rfl, Nat.zero_le _, Nat.zero_le _, by simp, rfl, rfl⟩ ?_
  · simp only [le, ↓reduceIte, Nat.reduceEqDiff, and_true]; repeat' (first | exact trivial | exact D.le_refl _ | exact D.le_any _ | with_reducible refine And.intro ?_ ?_)
  rintro n ts H ⟨i, m, rfl, hi, hm, hall, rfl, rfl⟩
  repeat (first | refine wa ?_ | refine wb rfl ?_ | refine wc rfl rfl hM ?_ | refine wd rfl hM ?_ | ((first | refine we rfl fun K hK => ?_ | refine wf rfl rfl fun K hK => ?_ | refine wg rfl rfl fun K hK => ?_ | refine wh rfl fun K hK => ?_); (simp only [lo, ld, ↓aop, ↓aCall, hP, hG, Nat.reduceLT, ↓reduceIte, Nat.reduceEqDiff, Nat.reduceAdd, Nat.reduceMul, Nat.reduceLeDiff, reduceCtorEq, D.cs, D.plain, fillD, chop, List.replicate, altsV, tk_3, ze_3, sz_3, tk_9, ze_9, sz_9, tk_35, ze_35, sz_35, tk_46, ze_46, sz_46, kn_46]; repeat (with_reducible refine And.intro ?_ ?_; focus (first | decide | omega | (simp only [ln]; omega)))); try ((first | refine hK _ _ ?_ | refine hK _ ?_); clear hK K; simp only [lp])) | ((first | refine wi ?_ | refine wj ?_ | refine wk ?_ | refine wl ?_ | refine wm ?_ | refine wn ?_); simp only [lt, ↓reduceIte, Nat.reduceEqDiff]) | refine wo ?_)
  refine sat_cond rfl (fun hc => ?_) (fun hc => ?_)
  · simp at hc
    obtain ⟨x, hx⟩ : ∃ x, l[i]? = some x := ⟨_, List.getElem?_eq_getElem hc⟩
    have hw := wrap_succ (i := i) (by omega)
    repeat (first | refine wa ?_ | refine wb rfl ?_ | refine wc rfl rfl hM ?_ | refine wd rfl hM ?_ | ((first | refine we rfl fun K hK => ?_ | refine wf rfl rfl fun K hK => ?_ | refine wg rfl rfl fun K hK => ?_ | refine wh rfl fun K hK => ?_); (simp only [lo, ld, ↓aop, ↓aCall, hP, hG, Nat.reduceLT, ↓reduceIte, Nat.reduceEqDiff, Nat.reduceAdd, Nat.reduceMul, Nat.reduceLeDiff, reduceCtorEq, D.cs, D.plain, fillD, chop, List.replicate, altsV, tk_3, ze_3, sz_3, tk_9, ze_9, sz_9, tk_35, ze_35, sz_35, tk_46, ze_46, sz_46, kn_46, hc, hx, altV]; repeat (with_reducible refine And.intro ?_ ?_; focus (first | decide | omega | (simp only [ln]; omega)))); try ((first | refine hK _ _ ?_ | refine hK _ ?_); clear hK K; simp only [lp])) | ((first | refine wi ?_ | refine wj ?_ | refine wk ?_ | refine wl ?_ | refine wm ?_ | refine wn ?_); simp only [lt, ↓reduceIte, Nat.reduceEqDiff]) | refine wo ?_)
    refine sat_thru (fr 138 [(49, .v (.bool (decide ((x.name.length : Int) > 300) || decide ((x.link.length : Int) > 300) || decide ((x.cur.length : Int) > 300) || decide ((x.slaves.length : Int) > 70) || decide ((x.choices.length : Int) > 70)))), (5, .ptr E.H0.length 0), (4, .v (.int .i64 i)), (3, .v (.int .i64 m)), (2, .v (.bool false)), (0, .v (altsV l))]) (E.H0 ++ [.box ((altV x).map .v)]) ?_ ?_
    · (first | refine wr ?_ | refine wp rfl hM ?_ | refine wq hM ?_); repeat' (first | ((first | refine wx ?_ | refine wy ?_ | refine wz ?_); (simp only [lo, ld, ↓aop, ↓aCall, hP, hG, Nat.reduceLT, ↓reduceIte, Nat.reduceEqDiff, Nat.reduceAdd, Nat.reduceMul, Nat.reduceLeDiff, reduceCtorEq, D.cs, D.plain, fillD, chop, List.replicate, tk_3, ze_3, sz_3, tk_9, ze_9, sz_9, tk_35, ze_35, sz_35, tk_46, ze_46, sz_46, kn_46, tk_43, ze_43, sz_43, tk_44, ze_44, sz_44, slvs, chos]; repeat (with_reducible refine And.intro ?_ ?_; focus (first | decide | omega | (simp only [ln]; omega)))); try ((first | refine hK _ _ ?_ | refine hK _ ?_); clear hK K; simp only [lp])) | refine we rfl fun K hK => ?_ | refine wf rfl rfl fun K hK => ?_ | refine wg rfl rfl fun K hK => ?_ | refine wh rfl fun K hK => ?_ | ((first | refine Xg rfl rfl (by decide) ?_ fun K hK => ?_ | refine Yg rfl rfl (by decide) ?_ fun K hK => ?_ | refine Zg rfl rfl rfl (by decide) ?_ fun K hK => ?_); (focus (simp only [look_cons, ↓reduceIte, Nat.reduceEqDiff, Bool.not_true, Bool.not_false]; done))) | ((first | refine Xn rfl rfl (by decide) ?_ ?_ | refine Yn rfl rfl (by decide) ?_ ?_ | refine Zn rfl rfl rfl (by decide) ?_ ?_); (focus (simp only [look_cons, ↓reduceIte, Nat.reduceEqDiff, Bool.not_true, Bool.not_false]; done)); simp only [lp]) | ((first | refine Xo rfl rfl (by decide) ?_ ?_ | refine Yo rfl rfl (by decide) ?_ ?_ | refine Zo rfl rfl rfl (by decide) ?_ ?_); (focus (simp only [look_cons, ↓reduceIte, Nat.reduceEqDiff, Bool.not_true, Bool.not_false]; done)); simp only [lp]) | ((first | refine Xs rfl rfl (by decide) rfl (fun h K hK => ?_) fun h => ?_ | refine Ys rfl rfl (by decide) rfl (fun h K hK => ?_) fun h => ?_ | refine Zs rfl rfl rfl (by decide) rfl (fun h K hK => ?_) fun h => ?_); rotate_left; (focus (simp only [Bool.not_true, Bool.not_false, lp])); rotate_left) | ((first | refine wi ?_ | refine wj ?_ | refine wk ?_); simp only [lt, ↓reduceIte, Nat.reduceEqDiff]))
      all_goals refine .weakFr ?_
      all_goals simp only [le, ↓reduceIte, Nat.reduceEqDiff, and_true]; repeat' (first | exact trivial | exact D.le_refl _ | exact D.le_any _ | with_reducible refine And.intro ?_ ?_)
      all_goals clear hall
      all_goals refine D.le_eq (congrArg D.v (congrArg V.bool ?_)); (try simp only [Bool.not_eq_eq_eq_not, Bool.not_true, Bool.not_false] at *); simp only [*, List.getD_eq_getElem?_getD, Bool.and_true, Bool.true_and, Bool.and_false, Bool.false_and, Bool.or_true, Bool.true_or, Bool.or_false, Bool.false_or, Bool.not_true, Bool.not_false, Bool.not_not]
    refine sat_cond rfl (fun hb => ?_) (fun hb => ?_)
    · repeat (first | refine wa ?_ | refine wb rfl ?_ | refine wc rfl rfl hM ?_ | refine wd rfl hM ?_ | ((first | refine we rfl fun K hK => ?_ | refine wf rfl rfl fun K hK => ?_ | refine wg rfl rfl fun K hK => ?_ | refine wh rfl fun K hK => ?_); (simp only [lo, ld, ↓aop, ↓aCall, hP, hG, Nat.reduceLT, ↓reduceIte, Nat.reduceEqDiff, Nat.reduceAdd, Nat.reduceMul, Nat.reduceLeDiff, reduceCtorEq, D.cs, D.plain, fillD, chop, List.replicate]; repeat (with_reducible refine And.intro ?_ ?_; focus (first | decide | omega | (simp only [ln]; omega)))); try ((first | refine hK _ _ ?_ | refine hK _ ?_); clear hK K; simp only [lp])) | ((first | refine wi ?_ | refine wj ?_ | refine wk ?_ | refine wl ?_ | refine wm ?_ | refine wn ?_); simp only [lt, ↓reduceIte, Nat.reduceEqDiff]) | refine wo ?_)
      exact Fin.gc (.v (.bool false)) hE (by decide) rfl (by simp only [D.lt]) (hK false (fun h => by cases h))
    simp only [Bool.or_eq_false_iff, decide_eq_false_iff_not] at hb
    have hsl : x.slaves.length ≤ 70 := by omega
    have hcl : x.choices.length ≤ 70 := by omega
    repeat (first | refine wa ?_ | refine wb rfl ?_ | refine wc rfl rfl hM ?_ | refine wd rfl hM ?_ | ((first | refine we rfl fun K hK => ?_ | refine wf rfl rfl fun K hK => ?_ | refine wg rfl rfl fun K hK => ?_ | refine wh rfl fun K hK => ?_); (simp only [lo, ld, ↓aop, ↓aCall, hP, hG, Nat.reduceLT, ↓reduceIte, Nat.reduceEqDiff, Nat.reduceAdd, Nat.reduceMul, Nat.reduceLeDiff, reduceCtorEq, D.cs, D.plain, fillD, chop, List.replicate, tk_3, ze_3, sz_3]; repeat (with_reducible refine And.intro ?_ ?_; focus (first | decide | omega | (simp only [ln]; omega)))); try ((first | refine hK _ _ ?_ | refine hK _ ?_); clear hK K; simp only [lp])) | ((first | refine wi ?_ | refine wj ?_ | refine wk ?_ | refine wl ?_ | refine wm ?_ | refine wn ?_); simp only [lt, ↓reduceIte, Nat.reduceEqDiff]) | refine wo ?_)
    refine sat_loop_ent (fun n ts H => ∃ (k : Nat), n = x.slaves.length - k ∧ k ≤ x.slaves.length ∧ (∀ s ∈ x.slaves.take k, slvSmall s) ∧
      ts = fr 138 [(6, .v (.int .i64 k)), (5, .ptr E.H0.length 0), (4, .v (.int .i64 i)), (3, .v (.int .i64 m)), (2, .v (.bool false)), (0, .v (altsV l))] ∧ H = E.H0 ++ [.box ((altV x).map .v)]) (x.slaves.length) (.weakFr ?_) ⟨0, rfl, Nat.zero_le _, by simp, rfl, rfl⟩ ?_
    · simp only [le, ↓reduceIte, Nat.reduceEqDiff, and_true]; repeat' (first | exact trivial | exact D.le_refl _ | exact D.le_any _ | with_reducible refine And.intro ?_ ?_)
    · rintro n ts H ⟨k, rfl, hk, hks, rfl, rfl⟩
      repeat (first | refine wa ?_ | refine wb rfl ?_ | refine wc rfl rfl hM ?_ | refine wd rfl hM ?_ | ((first | refine we rfl fun K hK => ?_ | refine wf rfl rfl fun K hK => ?_ | refine wg rfl rfl fun K hK => ?_ | refine wh rfl fun K hK => ?_); (simp only [lo, ld, ↓aop, ↓aCall, hP, hG, Nat.reduceLT, ↓reduceIte, Nat.reduceEqDiff, Nat.reduceAdd, Nat.reduceMul, Nat.reduceLeDiff, reduceCtorEq, D.cs, D.plain, fillD, chop, List.replicate, altV, slvs, tk_3, ze_3, sz_3, tk_9, ze_9, sz_9, tk_46, ze_46, sz_46, kn_46, tk_43, ze_43, sz_43, tk_73, ze_73, sz_73, kn_73]; repeat (with_reducible refine And.intro ?_ ?_; focus (first | decide | omega | (simp only [ln]; omega)))); try ((first | refine hK _ _ ?_ | refine hK _ ?_); clear hK K; simp only [lp])) | ((first | refine wi ?_ | refine wj ?_ | refine wk ?_ | refine wl ?_ | refine wm ?_ | refine wn ?_); simp only [lt, ↓reduceIte, Nat.reduceEqDiff]) | refine wo ?_)
      refine sat_cond rfl (fun hd => ?_) (fun hd => ?_)
      · simp at hd
        obtain ⟨s, hs⟩ : ∃ s, x.slaves[k]? = some s := ⟨_, List.getElem?_eq_getElem hd⟩
        have hwk := wrap_succ (i := k) (by omega)
        repeat (first | refine wa ?_ | refine wb rfl ?_ | refine wc rfl rfl hM ?_ | refine wd rfl hM ?_ | ((first | refine we rfl fun K hK => ?_ | refine wf rfl rfl fun K hK => ?_ | refine wg rfl rfl fun K hK => ?_ | refine wh rfl fun K hK => ?_); (simp only [lo, ld, ↓aop, ↓aCall, hP, hG, Nat.reduceLT, ↓reduceIte, Nat.reduceEqDiff, Nat.reduceAdd, Nat.reduceMul, Nat.reduceLeDiff, reduceCtorEq, D.cs, D.plain, fillD, chop, List.replicate]; repeat (with_reducible refine And.intro ?_ ?_; focus (first | decide | omega | (simp only [ln]; omega)))); try ((first | refine hK _ _ ?_ | refine hK _ ?_); clear hK K; simp only [lp])) | ((first | refine wi ?_ | refine wj ?_ | refine wk ?_ | refine wl ?_ | refine wm ?_ | refine wn ?_); simp only [lt, ↓reduceIte, Nat.reduceEqDiff]) | refine wo ?_)
        refine sat_thru (fr 138 [(74, .v (.bool (decide ((s.name.length : Int) > 300) || decide ((s.link.length : Int) > 300)))), (6, .v (.int .i64 k)), (5, .ptr E.H0.length 0), (4, .v (.int .i64 i)), (3, .v (.int .i64 m)), (2, .v (.bool false)), (0, .v (altsV l))]) (E.H0 ++ [.box ((altV x).map .v)]) ?_ ?_
        · (first | refine wr ?_ | refine wp rfl hM ?_ | refine wq hM ?_); repeat' (first | ((first | refine wx ?_ | refine wy ?_ | refine wz ?_); (simp only [lo, ld, ↓aop, ↓aCall, hP, hG, Nat.reduceLT, ↓reduceIte, Nat.reduceEqDiff, Nat.reduceAdd, Nat.reduceMul, Nat.reduceLeDiff, reduceCtorEq, D.cs, D.plain, fillD, chop, List.replicate, altV, slvs, tk_3, ze_3, sz_3, tk_9, ze_9, sz_9, tk_46, ze_46, sz_46, kn_46, tk_43, ze_43, sz_43, tk_73, ze_73, sz_73, kn_73, hd, hs]; repeat (with_reducible refine And.intro ?_ ?_; focus (first | decide | omega | (simp only [ln]; omega)))); try ((first | refine hK _ _ ?_ | refine hK _ ?_); clear hK K; simp only [lp])) | refine we rfl fun K hK => ?_ | refine wf rfl rfl fun K hK => ?_ | refine wg rfl rfl fun K hK => ?_ | refine wh rfl fun K hK => ?_ | ((first | refine Xg rfl rfl (by decide) ?_ fun K hK => ?_ | refine Yg rfl rfl (by decide) ?_ fun K hK => ?_ | refine Zg rfl rfl rfl (by decide) ?_ fun K hK => ?_); (focus (simp only [look_cons, ↓reduceIte, Nat.reduceEqDiff, Bool.not_true, Bool.not_false]; done))) | ((first | refine Xn rfl rfl (by decide) ?_ ?_ | refine Yn rfl rfl (by decide) ?_ ?_ | refine Zn rfl rfl rfl (by decide) ?_ ?_); (focus (simp only [look_cons, ↓reduceIte, Nat.reduceEqDiff, Bool.not_true, Bool.not_false]; done)); simp only [lp]) | ((first | refine Xo rfl rfl (by decide) ?_ ?_ | refine Yo rfl rfl (by decide) ?_ ?_ | refine Zo rfl rfl rfl (by decide) ?_ ?_); (focus (simp only [look_cons, ↓reduceIte, Nat.reduceEqDiff, Bool.not_true, Bool.not_false]; done)); simp only [lp]) | ((first | refine Xs rfl rfl (by decide) rfl (fun h K hK => ?_) fun h => ?_ | refine Ys rfl rfl (by decide) rfl (fun h K hK => ?_) fun h => ?_ | refine Zs rfl rfl rfl (by decide) rfl (fun h K hK => ?_) fun h => ?_); rotate_left; (focus (simp only [Bool.not_true, Bool.not_false, lp])); rotate_left) | ((first | refine wi ?_ | refine wj ?_ | refine wk ?_); simp only [lt, ↓reduceIte, Nat.reduceEqDiff]))
          all_goals refine .weakFr ?_
          all_goals simp only [le, ↓reduceIte, Nat.reduceEqDiff, and_true]; repeat' (first | exact trivial | exact D.le_refl _ | exact D.le_any _ | with_reducible refine And.intro ?_ ?_)
          all_goals clear hall hks
          all_goals refine D.le_eq (congrArg D.v (congrArg V.bool ?_)); (try simp only [Bool.not_eq_eq_eq_not, Bool.not_true, Bool.not_false] at *); simp only [*, List.getD_eq_getElem?_getD, Bool.and_true, Bool.true_and, Bool.and_false, Bool.false_and, Bool.or_true, Bool.true_or, Bool.or_false, Bool.false_or, Bool.not_true, Bool.not_false, Bool.not_not]
        refine sat_cond rfl (fun he => ?_) (fun he => ?_)
        · repeat (first | refine wa ?_ | refine wb rfl ?_ | refine wc rfl rfl hM ?_ | refine wd rfl hM ?_ | ((first | refine we rfl fun K hK => ?_ | refine wf rfl rfl fun K hK => ?_ | refine wg rfl rfl fun K hK => ?_ | refine wh rfl fun K hK => ?_); (simp only [lo, ld, ↓aop, ↓aCall, hP, hG, Nat.reduceLT, ↓reduceIte, Nat.reduceEqDiff, Nat.reduceAdd, Nat.reduceMul, Nat.reduceLeDiff, reduceCtorEq, D.cs, D.plain, fillD, chop, List.replicate]; repeat (with_reducible refine And.intro ?_ ?_; focus (first | decide | omega | (simp only [ln]; omega)))); try ((first | refine hK _ _ ?_ | refine hK _ ?_); clear hK K; simp only [lp])) | ((first | refine wi ?_ | refine wj ?_ | refine wk ?_ | refine wl ?_ | refine wm ?_ | refine wn ?_); simp only [lt, ↓reduceIte, Nat.reduceEqDiff]) | refine wo ?_)
          exact Fin.gc (.v (.bool false)) hE (by decide) rfl (by simp only [D.lt]) (hK false (fun h => by cases h))
        · repeat (first | refine wa ?_ | refine wb rfl ?_ | refine wc rfl rfl hM ?_ | refine wd rfl hM ?_ | ((first | refine we rfl fun K hK => ?_ | refine wf rfl rfl fun K hK => ?_ | refine wg rfl rfl fun K hK => ?_ | refine wh rfl fun K hK => ?_); (simp only [lo, ld, ↓aop, ↓aCall, hP, hG, Nat.reduceLT, ↓reduceIte, Nat.reduceEqDiff, Nat.reduceAdd, Nat.reduceMul, Nat.reduceLeDiff, reduceCtorEq, D.cs, D.plain, fillD, chop, List.replicate, hwk, tk_3, ze_3, sz_3]; repeat (with_reducible refine And.intro ?_ ?_; focus (first | decide | omega | (simp only [ln]; omega)))); try ((first | refine hK _ _ ?_ | refine hK _ ?_); clear hK K; simp only [lp])) | ((first | refine wi ?_ | refine wj ?_ | refine wk ?_ | refine wl ?_ | refine wm ?_ | refine wn ?_); simp only [lt, ↓reduceIte, Nat.reduceEqDiff]) | refine wo ?_)
          simp only [Bool.or_eq_false_iff, decide_eq_false_iff_not] at he
          refine ⟨x.slaves.length - (k + 1), _, _, by omega, .weakFr ?_, k + 1, rfl, by omega, all_snoc hks hs ⟨by omega, by omega⟩, rfl, rfl⟩
          simp only [le, ↓reduceIte, Nat.reduceEqDiff, and_true]; repeat' (first | exact trivial | exact D.le_refl _ | exact D.le_any _ | with_reducible refine And.intro ?_ ?_)
      · simp at hd
        have e : x.slaves.take k = x.slaves := List.take_of_length_le (by omega)
        rw [e] at hks
        repeat (first | refine wa ?_ | refine wb rfl ?_ | refine wc rfl rfl hM ?_ | refine wd rfl hM ?_ | ((first | refine we rfl fun K hK => ?_ | refine wf rfl rfl fun K hK => ?_ | refine wg rfl rfl fun K hK => ?_ | refine wh rfl fun K hK => ?_); (simp only [lo, ld, ↓aop, ↓aCall, hP, hG, Nat.reduceLT, ↓reduceIte, Nat.reduceEqDiff, Nat.reduceAdd, Nat.reduceMul, Nat.reduceLeDiff, reduceCtorEq, D.cs, D.plain, fillD, chop, List.replicate, tk_3, ze_3, sz_3]; repeat (with_reducible refine And.intro ?_ ?_; focus (first | decide | omega | (simp only [ln]; omega)))); try ((first | refine hK _ _ ?_ | refine hK _ ?_); clear hK K; simp only [lp])) | ((first | refine wi ?_ | refine wj ?_ | refine wk ?_ | refine wl ?_ | refine wm ?_ | refine wn ?_); simp only [lt, ↓reduceIte, Nat.reduceEqDiff]) | refine wo ?_)
        refine sat_loop_ent (fun n ts H => ∃ (k m : Nat), n = x.choices.length - k ∧ k ≤ x.choices.length ∧ m ≤ 3000 ∧ (∀ c ∈ x.choices.take k, choSmall c) ∧
          ts = fr 138 [(7, .v (.int .i64 k)), (5, .ptr E.H0.length 0), (4, .v (.int .i64 i)), (3, .v (.int .i64 m)), (2, .v (.bool false)), (0, .v (altsV l))] ∧ H = E.H0 ++ [.box ((altV x).map .v)]) (x.choices.length) (.weakFr ?_) ⟨0, m, rfl, Nat.zero_le _, hm, by simp, rfl, rfl⟩ ?_
        · simp only [le, ↓reduceIte, Nat.reduceEqDiff, and_true]; repeat' (first | exact trivial | exact D.le_refl _ | exact D.le_any _ | with_reducible refine And.intro ?_ ?_)
        clear hm
        rintro n ts H ⟨k, m, rfl, hk, hm, hkc, rfl, rfl⟩
        repeat (first | refine wa ?_ | refine wb rfl ?_ | refine wc rfl rfl hM ?_ | refine wd rfl hM ?_ | ((first | refine we rfl fun K hK => ?_ | refine wf rfl rfl fun K hK => ?_ | refine wg rfl rfl fun K hK => ?_ | refine wh rfl fun K hK => ?_); (simp only [lo, ld, ↓aop, ↓aCall, hP, hG, Nat.reduceLT, ↓reduceIte, Nat.reduceEqDiff, Nat.reduceAdd, Nat.reduceMul, Nat.reduceLeDiff, reduceCtorEq, D.cs, D.plain, fillD, chop, List.replicate, altV, chos, tk_3, ze_3, sz_3, tk_9, ze_9, sz_9, tk_46, ze_46, sz_46, kn_46, tk_44, ze_44, sz_44, tk_52, ze_52, sz_52, kn_52]; repeat (with_reducible refine And.intro ?_ ?_; focus (first | decide | omega | (simp only [ln]; omega)))); try ((first | refine hK _ _ ?_ | refine hK _ ?_); clear hK K; simp only [lp])) | ((first | refine wi ?_ | refine wj ?_ | refine wk ?_ | refine wl ?_ | refine wm ?_ | refine wn ?_); simp only [lt, ↓reduceIte, Nat.reduceEqDiff]) | refine wo ?_)
        refine sat_cond rfl (fun hd => ?_) (fun hd => ?_)
        · simp at hd
          obtain ⟨c, hcc⟩ : ∃ c, x.choices[k]? = some c := ⟨_, List.getElem?_eq_getElem hd⟩
          have hwk := wrap_succ (i := k) (by omega)
          repeat (first | refine wa ?_ | refine wb rfl ?_ | refine wc rfl rfl hM ?_ | refine wd rfl hM ?_ | ((first | refine we rfl fun K hK => ?_ | refine wf rfl rfl fun K hK => ?_ | refine wg rfl rfl fun K hK => ?_ | refine wh rfl fun K hK => ?_); (simp only [lo, ld, ↓aop, ↓aCall, hP, hG, Nat.reduceLT, ↓reduceIte, Nat.reduceEqDiff, Nat.reduceAdd, Nat.reduceMul, Nat.reduceLeDiff, reduceCtorEq, D.cs, D.plain, fillD, chop, List.replicate]; repeat (with_reducible refine And.intro ?_ ?_; focus (first | decide | omega | (simp only [ln]; omega)))); try ((first | refine hK _ _ ?_ | refine hK _ ?_); clear hK K; simp only [lp])) | ((first | refine wi ?_ | refine wj ?_ | refine wk ?_ | refine wl ?_ | refine wm ?_ | refine wn ?_); simp only [lt, ↓reduceIte, Nat.reduceEqDiff]) | refine wo ?_)
          refine sat_thru (fr 138 [(99, .v (.bool (decide ((c.path.length : Int) > 300) || decide ((c.slaves.length : Int) > 70)))), (7, .v (.int .i64 k)), (5, .ptr E.H0.length 0), (4, .v (.int .i64 i)), (3, .v (.int .i64 m)), (2, .v (.bool false)), (0, .v (altsV l))]) (E.H0 ++ [.box ((altV x).map .v)]) ?_ ?_
          · (first | refine wr ?_ | refine wp rfl hM ?_ | refine wq hM ?_); repeat' (first | ((first | refine wx ?_ | refine wy ?_ | refine wz ?_); (simp only [lo, ld, ↓aop, ↓aCall, hP, hG, Nat.reduceLT, ↓reduceIte, Nat.reduceEqDiff, Nat.reduceAdd, Nat.reduceMul, Nat.reduceLeDiff, reduceCtorEq, D.cs, D.plain, fillD, chop, List.replicate, altV, chos, strs, tk_3, ze_3, sz_3, tk_9, ze_9, sz_9, tk_46, ze_46, sz_46, kn_46, tk_44, ze_44, sz_44, tk_52, ze_52, sz_52, kn_52, tk_50, ze_50, sz_50, hd, hcc]; repeat (with_reducible refine And.intro ?_ ?_; focus (first | decide | omega | (simp only [ln]; omega)))); try ((first | refine hK _ _ ?_ | refine hK _ ?_); clear hK K; simp only [lp])) | refine we rfl fun K hK => ?_ | refine wf rfl rfl fun K hK => ?_ | refine wg rfl rfl fun K hK => ?_ | refine wh rfl fun K hK => ?_ | ((first | refine Xg rfl rfl (by decide) ?_ fun K hK => ?_ | refine Yg rfl rfl (by decide) ?_ fun K hK => ?_ | refine Zg rfl rfl rfl (by decide) ?_ fun K hK => ?_); (focus (simp only [look_cons, ↓reduceIte, Nat.reduceEqDiff, Bool.not_true, Bool.not_false]; done))) | ((first | refine Xn rfl rfl (by decide) ?_ ?_ | refine Yn rfl rfl (by decide) ?_ ?_ | refine Zn rfl rfl rfl (by decide) ?_ ?_); (focus (simp only [look_cons, ↓reduceIte, Nat.reduceEqDiff, Bool.not_true, Bool.not_false]; done)); simp only [lp]) | ((first | refine Xo rfl rfl (by decide) ?_ ?_ | refine Yo rfl rfl (by decide) ?_ ?_ | refine Zo rfl rfl rfl (by decide) ?_ ?_); (focus (simp only [look_cons, ↓reduceIte, Nat.reduceEqDiff, Bool.not_true, Bool.not_false]; done)); simp only [lp]) | ((first | refine Xs rfl rfl (by decide) rfl (fun h K hK => ?_) fun h => ?_ | refine Ys rfl rfl (by decide) rfl (fun h K hK => ?_) fun h => ?_ | refine Zs rfl rfl rfl (by decide) rfl (fun h K hK => ?_) fun h => ?_); rotate_left; (focus (simp only [Bool.not_true, Bool.not_false, lp])); rotate_left) | ((first | refine wi ?_ | refine wj ?_ | refine wk ?_); simp only [lt, ↓reduceIte, Nat.reduceEqDiff]))
            all_goals refine .weakFr ?_
            all_goals simp only [le, ↓reduceIte, Nat.reduceEqDiff, and_true]; repeat' (first | exact trivial | exact D.le_refl _ | exact D.le_any _ | with_reducible refine And.intro ?_ ?_)
            all_goals clear hall hks hkc
            all_goals refine D.le_eq (congrArg D.v (congrArg V.bool ?_)); (try simp only [Bool.not_eq_eq_eq_not, Bool.not_true, Bool.not_false] at *); simp only [*, List.getD_eq_getElem?_getD, Bool.and_true, Bool.true_and, Bool.and_false, Bool.false_and, Bool.or_true, Bool.true_or, Bool.or_false, Bool.false_or, Bool.not_true, Bool.not_false, Bool.not_not]
          refine sat_cond rfl (fun he => ?_) (fun he => ?_)
          · repeat (first | refine wa ?_ | refine wb rfl ?_ | refine wc rfl rfl hM ?_ | refine wd rfl hM ?_ | ((first | refine we rfl fun K hK => ?_ | refine wf rfl rfl fun K hK => ?_ | refine wg rfl rfl fun K hK => ?_ | refine wh rfl fun K hK => ?_); (simp only [lo, ld, ↓aop, ↓aCall, hP, hG, Nat.reduceLT, ↓reduceIte, Nat.reduceEqDiff, Nat.reduceAdd, Nat.reduceMul, Nat.reduceLeDiff, reduceCtorEq, D.cs, D.plain, fillD, chop, List.replicate]; repeat (with_reducible refine And.intro ?_ ?_; focus (first | decide | omega | (simp only [ln]; omega)))); try ((first | refine hK _ _ ?_ | refine hK _ ?_); clear hK K; simp only [lp])) | ((first | refine wi ?_ | refine wj ?_ | refine wk ?_ | refine wl ?_ | refine wm ?_ | refine wn ?_); simp only [lt, ↓reduceIte, Nat.reduceEqDiff]) | refine wo ?_)
            exact Fin.gc (.v (.bool false)) hE (by decide) rfl (by simp only [D.lt]) (hK false (fun h => by cases h))
          simp only [Bool.or_eq_false_iff, decide_eq_false_iff_not] at he
          repeat (first | refine wa ?_ | refine wb rfl ?_ | refine wc rfl rfl hM ?_ | refine wd rfl hM ?_ | ((first | refine we rfl fun K hK => ?_ | refine wf rfl rfl fun K hK => ?_ | refine wg rfl rfl fun K hK => ?_ | refine wh rfl fun K hK => ?_); (simp only [lo, ld, ↓aop, ↓aCall, hP, hG, Nat.reduceLT, ↓reduceIte, Nat.reduceEqDiff, Nat.reduceAdd, Nat.reduceMul, Nat.reduceLeDiff, reduceCtorEq, D.cs, D.plain, fillD, chop, List.replicate, tk_3, ze_3, sz_3]; repeat (with_reducible refine And.intro ?_ ?_; focus (first | decide | omega | (simp only [ln]; omega)))); try ((first | refine hK _ _ ?_ | refine hK _ ?_); clear hK K; simp only [lp])) | ((first | refine wi ?_ | refine wj ?_ | refine wk ?_ | refine wl ?_ | refine wm ?_ | refine wn ?_); simp only [lt, ↓reduceIte, Nat.reduceEqDiff]) | refine wo ?_)
          refine sat_loop_ent (fun n ts H => ∃ (j m : Nat), n = c.slaves.length - j ∧ j ≤ c.slaves.length ∧ m ≤ 3000 ∧ (∀ t ∈ c.slaves.take j, t.length ≤ 3000) ∧
            ts = fr 138 [(8, .v (.int .i64 j)), (7, .v (.int .i64 k)), (5, .ptr E.H0.length 0), (4, .v (.int .i64 i)), (3, .v (.int .i64 m)), (2, .v (.bool false)), (0, .v (altsV l))] ∧ H = E.H0 ++ [.box ((altV x).map .v)]) (c.slaves.length) (.weakFr ?_) ⟨0, m, rfl, Nat.zero_le _, hm, by simp, rfl, rfl⟩ ?_
          · simp only [le, ↓reduceIte, Nat.reduceEqDiff, and_true]; repeat' (first | exact trivial | exact D.le_refl _ | exact D.le_any _ | with_reducible refine And.intro ?_ ?_)
          clear hm
          rintro n ts H ⟨j, m, rfl, hj, hm, hjt, rfl, rfl⟩
          repeat (first | refine wa ?_ | refine wb rfl ?_ | refine wc rfl rfl hM ?_ | refine wd rfl hM ?_ | ((first | refine we rfl fun K hK => ?_ | refine wf rfl rfl fun K hK => ?_ | refine wg rfl rfl fun K hK => ?_ | refine wh rfl fun K hK => ?_); (simp only [lo, ld, ↓aop, ↓aCall, hP, hG, Nat.reduceLT, ↓reduceIte, Nat.reduceEqDiff, Nat.reduceAdd, Nat.reduceMul, Nat.reduceLeDiff, reduceCtorEq, D.cs, D.plain, fillD, chop, List.replicate, altV, chos, strs, tk_3, ze_3, sz_3, tk_9, ze_9, sz_9, tk_46, ze_46, sz_46, kn_46, tk_44, ze_44, sz_44, tk_52, ze_52, sz_52, kn_52, tk_50, ze_50, sz_50, hd, hcc]; repeat (with_reducible refine And.intro ?_ ?_; focus (first | decide | omega | (simp only [ln]; omega)))); try ((first | refine hK _ _ ?_ | refine hK _ ?_); clear hK K; simp only [lp])) | ((first | refine wi ?_ | refine wj ?_ | refine wk ?_ | refine wl ?_ | refine wm ?_ | refine wn ?_); simp only [lt, ↓reduceIte, Nat.reduceEqDiff]) | refine wo ?_)
          refine sat_cond rfl (fun hf => ?_) (fun hf => ?_)
          · simp at hf
            obtain ⟨t, ht⟩ : ∃ t, c.slaves[j]? = some t := ⟨_, List.getElem?_eq_getElem hf⟩
            have hwj := wrap_succ (i := j) (by omega)
            have hm1 : IntKind.i64.wrap ((m : Int) + IntKind.i64.wrap (1 + if 3000 < (t.length : Int) then 3000 else (t.length : Int))) = ((m + (1 + min t.length 3000) : Nat) : Int) := by
              have h1 : (1 + if 3000 < (t.length : Int) then 3000 else (t.length : Int)) = ((1 + min t.length 3000 : Nat) : Int) := by split <;> omega
              rw [h1, wrap_nat (by omega), ← Int.natCast_add, wrap_nat (by omega)]
            repeat (first | refine wa ?_ | refine wb rfl ?_ | refine wc rfl rfl hM ?_ | refine wd rfl hM ?_ | ((first | refine we rfl fun K hK => ?_ | refine wf rfl rfl fun K hK => ?_ | refine wg rfl rfl fun K hK => ?_ | refine wh rfl fun K hK => ?_); (simp only [lo, ld, ↓aop, ↓aCall, hP, hG, Nat.reduceLT, ↓reduceIte, Nat.reduceEqDiff, Nat.reduceAdd, Nat.reduceMul, Nat.reduceLeDiff, reduceCtorEq, D.cs, D.plain, fillD, chop, List.replicate, altV, chos, strs, tk_3, ze_3, sz_3, tk_9, ze_9, sz_9, tk_46, ze_46, sz_46, kn_46, tk_44, ze_44, sz_44, tk_52, ze_52, sz_52, kn_52, tk_50, ze_50, sz_50, hd, hcc, hf, ht, hm1]; repeat (with_reducible refine And.intro ?_ ?_; focus (first | decide | omega | (simp only [ln]; omega)))); try ((first | refine hK _ _ ?_ | refine hK _ ?_); clear hK K; simp only [lp])) | ((first | refine wi ?_ | refine wj ?_ | refine wk ?_ | refine wl ?_ | refine wm ?_ | refine wn ?_); simp only [lt, ↓reduceIte, Nat.reduceEqDiff]) | refine wo ?_)
            refine sat_cond rfl (fun hg => ?_) (fun hg => ?_)
            · repeat (first | refine wa ?_ | refine wb rfl ?_ | refine wc rfl rfl hM ?_ | refine wd rfl hM ?_ | ((first | refine we rfl fun K hK => ?_ | refine wf rfl rfl fun K hK => ?_ | refine wg rfl rfl fun K hK => ?_ | refine wh rfl fun K hK => ?_); (simp only [lo, ld, ↓aop, ↓aCall, hP, hG, Nat.reduceLT, ↓reduceIte, Nat.reduceEqDiff, Nat.reduceAdd, Nat.reduceMul, Nat.reduceLeDiff, reduceCtorEq, D.cs, D.plain, fillD, chop, List.replicate]; repeat (with_reducible refine And.intro ?_ ?_; focus (first | decide | omega | (simp only [ln]; omega)))); try ((first | refine hK _ _ ?_ | refine hK _ ?_); clear hK K; simp only [lp])) | ((first | refine wi ?_ | refine wj ?_ | refine wk ?_ | refine wl ?_ | refine wm ?_ | refine wn ?_); simp only [lt, ↓reduceIte, Nat.reduceEqDiff]) | refine wo ?_)
              exact Fin.gc (.v (.bool false)) hE (by decide) rfl (by simp only [D.lt]) (hK false (fun h => by cases h))
            · simp only [decide_eq_false_iff_not] at hg
              repeat (first | refine wa ?_ | refine wb rfl ?_ | refine wc rfl rfl hM ?_ | refine wd rfl hM ?_ | ((first | refine we rfl fun K hK => ?_ | refine wf rfl rfl fun K hK => ?_ | refine wg rfl rfl fun K hK => ?_ | refine wh rfl fun K hK => ?_); (simp only [lo, ld, ↓aop, ↓aCall, hP, hG, Nat.reduceLT, ↓reduceIte, Nat.reduceEqDiff, Nat.reduceAdd, Nat.reduceMul, Nat.reduceLeDiff, reduceCtorEq, D.cs, D.plain, fillD, chop, List.replicate, hwj, tk_3, ze_3, sz_3]; repeat (with_reducible refine And.intro ?_ ?_; focus (first | decide | omega | (simp only [ln]; omega)))); try ((first | refine hK _ _ ?_ | refine hK _ ?_); clear hK K; simp only [lp])) | ((first | refine wi ?_ | refine wj ?_ | refine wk ?_ | refine wl ?_ | refine wm ?_ | refine wn ?_); simp only [lt, ↓reduceIte, Nat.reduceEqDiff]) | refine wo ?_)
              refine ⟨c.slaves.length - (j + 1), _, _, by omega, .weakFr ?_, j + 1, m + (1 + min t.length 3000), rfl, by omega, by omega, all_snoc hjt ht (by omega), rfl, rfl⟩
              simp only [le, ↓reduceIte, Nat.reduceEqDiff, and_true]; repeat' (first | exact trivial | exact D.le_refl _ | exact D.le_any _ | with_reducible refine And.intro ?_ ?_)
          · simp at hf
            have e : c.slaves.take j = c.slaves := List.take_of_length_le (by omega)
            rw [e] at hjt
            repeat (first | refine wa ?_ | refine wb rfl ?_ | refine wc rfl rfl hM ?_ | refine wd rfl hM ?_ | ((first | refine we rfl fun K hK => ?_ | refine wf rfl rfl fun K hK => ?_ | refine wg rfl rfl fun K hK => ?_ | refine wh rfl fun K hK => ?_); (simp only [lo, ld, ↓aop, ↓aCall, hP, hG, Nat.reduceLT, ↓reduceIte, Nat.reduceEqDiff, Nat.reduceAdd, Nat.reduceMul, Nat.reduceLeDiff, reduceCtorEq, D.cs, D.plain, fillD, chop, List.replicate, hwk, tk_3, ze_3, sz_3]; repeat (with_reducible refine And.intro ?_ ?_; focus (first | decide | omega | (simp only [ln]; omega)))); try ((first | refine hK _ _ ?_ | refine hK _ ?_); clear hK K; simp only [lp])) | ((first | refine wi ?_ | refine wj ?_ | refine wk ?_ | refine wl ?_ | refine wm ?_ | refine wn ?_); simp only [lt, ↓reduceIte, Nat.reduceEqDiff]) | refine wo ?_)
            refine ⟨x.choices.length - (k + 1), _, _, by omega, .weakFr ?_, k + 1, m, rfl, by omega, hm, all_snoc hkc hcc ⟨by omega, by omega, hjt⟩, rfl, rfl⟩
            simp only [le, ↓reduceIte, Nat.reduceEqDiff, and_true]; repeat' (first | exact trivial | exact D.le_refl _ | exact D.le_any _ | with_reducible refine And.intro ?_ ?_)
        · simp at hd
          have e : x.choices.take k = x.choices := List.take_of_length_le (by omega)
          rw [e] at hkc
          have hm1 : IntKind.i64.wrap ((m : Int) + IntKind.i64.wrap ((x.slaves.length : Int) + (x.choices.length : Int))) = ((m + (x.slaves.length + x.choices.length) : Nat) : Int) := by
            rw [← Int.natCast_add, wrap_nat (by omega), ← Int.natCast_add, wrap_nat (by omega)]
          repeat (first | refine wa ?_ | refine wb rfl ?_ | refine wc rfl rfl hM ?_ | refine wd rfl hM ?_ | ((first | refine we rfl fun K hK => ?_ | refine wf rfl rfl fun K hK => ?_ | refine wg rfl rfl fun K hK => ?_ | refine wh rfl fun K hK => ?_); (simp only [lo, ld, ↓aop, ↓aCall, hP, hG, Nat.reduceLT, ↓reduceIte, Nat.reduceEqDiff, Nat.reduceAdd, Nat.reduceMul, Nat.reduceLeDiff, reduceCtorEq, D.cs, D.plain, fillD, chop, List.replicate, altV, slvs, chos, tk_3, ze_3, sz_3, tk_9, ze_9, sz_9, tk_46, ze_46, sz_46, kn_46, tk_44, ze_44, sz_44, tk_43, ze_43, sz_43, hm1]; repeat (with_reducible refine And.intro ?_ ?_; focus (first | decide | omega | (simp only [ln]; omega)))); try ((first | refine hK _ _ ?_ | refine hK _ ?_); clear hK K; simp only [lp])) | ((first | refine wi ?_ | refine wj ?_ | refine wk ?_ | refine wl ?_ | refine wm ?_ | refine wn ?_); simp only [lt, ↓reduceIte, Nat.reduceEqDiff]) | refine wo ?_)
          refine sat_cond rfl (fun hg => ?_) (fun hg => ?_)
          · repeat (first | refine wa ?_ | refine wb rfl ?_ | refine wc rfl rfl hM ?_ | refine wd rfl hM ?_ | ((first | refine we rfl fun K hK => ?_ | refine wf rfl rfl fun K hK => ?_ | refine wg rfl rfl fun K hK => ?_ | refine wh rfl fun K hK => ?_); (simp only [lo, ld, ↓aop, ↓aCall, hP, hG, Nat.reduceLT, ↓reduceIte, Nat.reduceEqDiff, Nat.reduceAdd, Nat.reduceMul, Nat.reduceLeDiff, reduceCtorEq, D.cs, D.plain, fillD, chop, List.replicate]; repeat (with_reducible refine And.intro ?_ ?_; focus (first | decide | omega | (simp only [ln]; omega)))); try ((first | refine hK _ _ ?_ | refine hK _ ?_); clear hK K; simp only [lp])) | ((first | refine wi ?_ | refine wj ?_ | refine wk ?_ | refine wl ?_ | refine wm ?_ | refine wn ?_); simp only [lt, ↓reduceIte, Nat.reduceEqDiff]) | refine wo ?_)
            exact Fin.gc (.v (.bool false)) hE (by decide) rfl (by simp only [D.lt]) (hK false (fun h => by cases h))
          · simp only [decide_eq_false_iff_not] at hg
            repeat (first | refine wa ?_ | refine wb rfl ?_ | refine wc rfl rfl hM ?_ | refine wd rfl hM ?_ | ((first | refine we rfl fun K hK => ?_ | refine wf rfl rfl fun K hK => ?_ | refine wg rfl rfl fun K hK => ?_ | refine wh rfl fun K hK => ?_); (simp only [lo, ld, ↓aop, ↓aCall, hP, hG, Nat.reduceLT, ↓reduceIte, Nat.reduceEqDiff, Nat.reduceAdd, Nat.reduceMul, Nat.reduceLeDiff, reduceCtorEq, D.cs, D.plain, fillD, chop, List.replicate, hw, tk_3, ze_3, sz_3]; repeat (with_reducible refine And.intro ?_ ?_; focus (first | decide | omega | (simp only [ln]; omega)))); try ((first | refine hK _ _ ?_ | refine hK _ ?_); clear hK K; simp only [lp])) | ((first | refine wi ?_ | refine wj ?_ | refine wk ?_ | refine wl ?_ | refine wm ?_ | refine wn ?_); simp only [lt, ↓reduceIte, Nat.reduceEqDiff]) | refine wo ?_)
            refine ⟨l.length - (i + 1), _, _, by omega, Ent.round0 hE ?_ ?_, i + 1, m + (x.slaves.length + x.choices.length), rfl, by omega, by omega, all_snoc hall hx ⟨by omega, by omega, by omega, hsl, hcl, hks, hkc⟩, rfl, rfl⟩
            · simp only [le, ↓reduceIte, Nat.reduceEqDiff, and_true]; repeat' (first | exact trivial | exact D.le_refl _ | exact D.le_any _ | with_reducible refine And.intro ?_ ?_)
            · simp [ltAll, ltObs, Ob.lt, D.lt, D.ltL, or_imp, forall_and]
  · simp at hc
    have e : l.take i = l := List.take_of_length_le (by omega)
    rw [e] at hall
    repeat (first | refine wa ?_ | refine wb rfl ?_ | refine wc rfl rfl hM ?_ | refine wd rfl hM ?_ | ((first | refine we rfl fun K hK => ?_ | refine wf rfl rfl fun K hK => ?_ | refine wg rfl rfl fun K hK => ?_ | refine wh rfl fun K hK => ?_); (simp only [lo, ld, ↓aop, ↓aCall, hP, hG, Nat.reduceLT, ↓reduceIte, Nat.reduceEqDiff, Nat.reduceAdd, Nat.reduceMul, Nat.reduceLeDiff, reduceCtorEq, D.cs, D.plain, fillD, chop, List.replicate]; repeat (with_reducible refine And.intro ?_ ?_; focus (first | decide | omega | (simp only [ln]; omega)))); try ((first | refine hK _ _ ?_ | refine hK _ ?_); clear hK K; simp only [lp])) | ((first | refine wi ?_ | refine wj ?_ | refine wk ?_ | refine wl ?_ | refine wm ?_ | refine wn ?_); simp only [lt, ↓reduceIte, Nat.reduceEqDiff]) | refine wo ?_)
    exact Fin.is _ (by decide) rfl (hK true (fun _ => ⟨hlen, hall⟩))
end Go.Ag
namespace Go.Ag
open Go Go.Proofs
variable {G : Nat → Option (List V)}
attribute [local irreducible] aops qops Sat aop

theorem spec_HasPrefix (s p : Str) (H : List Ob) (K : D → List Ob → Prop) (hK : K (.v (.bool (Lib.hasPrefix s p))) H) : ACalls Tryd.prog G 101 [.v (.str s), .v (.str p)] H K :=
  lib_bool2 Lib.hasPrefix (by kernel_rfl) s p (fun w => Tryd.strings_HasPrefix _ _ w) hK
theorem spec_HasSuffix (s p : Str) (hs : s.length ≤ 1099511627776) (H : List Ob) (K : D → List Ob → Prop) (hK : K (.v (.bool (Lib.hasSuffix s p))) H) : ACalls Tryd.prog G 57 [.v (.str s), .v (.str p)] H K :=
  lib_bool2 Lib.hasSuffix (by kernel_rfl) s p (fun w => Tryd.strings_HasSuffix _ _ w (by rw [size_mk]; omega)) hK
theorem spec_Join (l : List Str) (sep : Str) (hl : l.length ≤ 1099511627776) (hj : (Lib.join l sep).length ≤ 140737488355328) (H : List Ob) (K : D → List Ob → Prop) (hK : K (.v (.str (Lib.join l sep))) H) : ACalls Tryd.prog G 36 [.v (.list 1 (l.map fun s => [.str s])), .v (.str sep)] H K :=
  lib_Join (by kernel_rfl) l sep (fun a c sep w => Tryd.strings_Join_none a c sep w) (fun bk o c xs sep w h1 h2 h3 h4 h5 => Tryd.strings_Join bk o c xs sep w h1 h2 h3 h4 h5) (by omega) hj hK
theorem spec_Split (s : Str) (c : UInt8) (m : Int) (hG : G 0 = some [.int .i64 m]) (hs : s.length < 4294967281) (H : List Ob) (K : D → List Ob → Prop) (hK : K (.v (.list 1 ((splitC c s).map fun s => [.str s]))) H) : ACalls Tryd.prog G 31 [.v (.str s), .v (.str [c])] H K :=
  lib_Split (by kernel_rfl) s c 9 0 m hG (fun s sep m w h1 h2 h3 => Tryd.strings_Split s sep m w h1 h2 h3) hs hK

set_option maxHeartbeats 4000000 in
theorem spec_plain (s : Str) (hs : s.length ≤ 1099511627776) (H : List Ob) (K : D → List Ob → Prop) (hK : K (.v (.bool (plainOk s))) H) : ACalls Tryd.prog G 90 [.v (.str s)] H K := by
  refine ACalls.go Tryd.f90 _ 22 [2] Tryd.func90 rfl Tryd.ntmps90 (by kernel_rfl) rfl (by simp) (fun E hE hP hG hH => ?_)
  subst hH
  simp only [args0]
  repeat (first | refine wa ?_ | refine wb rfl ?_ | refine wc rfl rfl hM ?_ | refine wd rfl hM ?_ | ((first | refine we rfl fun K hK => ?_ | refine wf rfl rfl fun K hK => ?_ | refine wg rfl rfl fun K hK => ?_ | refine wh rfl fun K hK => ?_); (simp only [lo, ld, ↓aop, ↓aCall, hP, hG, Nat.reduceLT, ↓reduceIte, Nat.reduceEqDiff, Nat.reduceAdd, Nat.reduceMul, Nat.reduceLeDiff, reduceCtorEq, D.cs, D.plain, fillD, chop, List.replicate, tk_9, ze_9, sz_9]; repeat (with_reducible refine And.intro ?_ ?_; focus (first | decide | omega | (simp only [ln]; omega)))); try ((first | refine hK _ _ ?_ | refine hK _ ?_); clear hK K; simp only [lp])) | ((first | refine wi ?_ | refine wj ?_ | refine wk ?_ | refine wl ?_ | refine wm ?_ | refine wn ?_); simp only [lt, ↓reduceIte, Nat.reduceEqDiff]) | refine wo ?_)
  refine sat_loop_ent (fun n ts H => ∃ (i : Nat), n = s.length - i ∧ i ≤ s.length ∧ (∀ j, j < i → dullAt s j = false) ∧
    ts = fr 22 [(6, .v (.int .i64 i)), (5, .v (.int .i64 s.length)), (2, .v (.bool false)), (0, .v (.str s))] ∧ H = E.H0) (s.length) (.weakFr ?_) ⟨0, rfl, Nat.zero_le _, by simp, rfl, rfl⟩ ?_
  · simp only [le, ↓reduceIte, Nat.reduceEqDiff, and_true]; repeat' (first | exact trivial | exact D.le_refl _ | exact D.le_any _ | with_reducible refine And.intro ?_ ?_)
  rintro n ts H ⟨i, rfl, hi, hall, rfl, rfl⟩
  repeat (first | refine wa ?_ | refine wb rfl ?_ | refine wc rfl rfl hM ?_ | refine wd rfl hM ?_ | ((first | refine we rfl fun K hK => ?_ | refine wf rfl rfl fun K hK => ?_ | refine wg rfl rfl fun K hK => ?_ | refine wh rfl fun K hK => ?_); (simp only [lo, ld, ↓aop, ↓aCall, hP, hG, Nat.reduceLT, ↓reduceIte, Nat.reduceEqDiff, Nat.reduceAdd, Nat.reduceMul, Nat.reduceLeDiff, reduceCtorEq, D.cs, D.plain, fillD, chop, List.replicate, tk_9, ze_9, sz_9]; repeat (with_reducible refine And.intro ?_ ?_; focus (first | decide | omega | (simp only [ln]; omega)))); try ((first | refine hK _ _ ?_ | refine hK _ ?_); clear hK K; simp only [lp])) | ((first | refine wi ?_ | refine wj ?_ | refine wk ?_ | refine wl ?_ | refine wm ?_ | refine wn ?_); simp only [lt, ↓reduceIte, Nat.reduceEqDiff]) | refine wo ?_)
  refine sat_cond rfl (fun hc => ?_) (fun hc => ?_)
  · simp at hc
    repeat (first | refine wa ?_ | refine wb rfl ?_ | refine wc rfl rfl hM ?_ | refine wd rfl hM ?_ | ((first | refine we rfl fun K hK => ?_ | refine wf rfl rfl fun K hK => ?_ | refine wg rfl rfl fun K hK => ?_ | refine wh rfl fun K hK => ?_); (simp only [lo, ld, ↓aop, ↓aCall, hP, hG, Nat.reduceLT, ↓reduceIte, Nat.reduceEqDiff, Nat.reduceAdd, Nat.reduceMul, Nat.reduceLeDiff, reduceCtorEq, D.cs, D.plain, fillD, chop, List.replicate, tk_9, ze_9, sz_9, hc]; repeat (with_reducible refine And.intro ?_ ?_; focus (first | decide | omega | (simp only [ln]; omega)))); try ((first | refine hK _ _ ?_ | refine hK _ ?_); clear hK K; simp only [lp])) | ((first | refine wi ?_ | refine wj ?_ | refine wk ?_ | refine wl ?_ | refine wm ?_ | refine wn ?_); simp only [lt, ↓reduceIte, Nat.reduceEqDiff]) | refine wo ?_)
    refine sat_thru (fr 22 [(18, .v (.bool (dullAt s i))), (6, .v (.int .i64 i)), (5, .v (.int .i64 s.length)), (2, .v (.bool false)), (0, .v (.str s))]) E.H0 ?_ ?_
    · (first | refine wr ?_ | refine wp rfl hM ?_ | refine wq hM ?_); repeat' (first | ((first | refine wx ?_ | refine wy ?_ | refine wz ?_); (simp only [lo, ld, ↓aop, ↓aCall, hP, hG, Nat.reduceLT, ↓reduceIte, Nat.reduceEqDiff, Nat.reduceAdd, Nat.reduceMul, Nat.reduceLeDiff, reduceCtorEq, D.cs, D.plain, fillD, chop, List.replicate, tk_9, ze_9, sz_9, hc]; repeat (with_reducible refine And.intro ?_ ?_; focus (first | decide | omega | (simp only [ln]; omega)))); try ((first | refine hK _ _ ?_ | refine hK _ ?_); clear hK K; simp only [lp])) | refine we rfl fun K hK => ?_ | refine wf rfl rfl fun K hK => ?_ | refine wg rfl rfl fun K hK => ?_ | refine wh rfl fun K hK => ?_ | ((first | refine Xg rfl rfl (by decide) ?_ fun K hK => ?_ | refine Yg rfl rfl (by decide) ?_ fun K hK => ?_ | refine Zg rfl rfl rfl (by decide) ?_ fun K hK => ?_); (focus (simp only [look_cons, ↓reduceIte, Nat.reduceEqDiff, Bool.not_true, Bool.not_false]; done))) | ((first | refine Xn rfl rfl (by decide) ?_ ?_ | refine Yn rfl rfl (by decide) ?_ ?_ | refine Zn rfl rfl rfl (by decide) ?_ ?_); (focus (simp only [look_cons, ↓reduceIte, Nat.reduceEqDiff, Bool.not_true, Bool.not_false]; done)); simp only [lp]) | ((first | refine Xo rfl rfl (by decide) ?_ ?_ | refine Yo rfl rfl (by decide) ?_ ?_ | refine Zo rfl rfl rfl (by decide) ?_ ?_); (focus (simp only [look_cons, ↓reduceIte, Nat.reduceEqDiff, Bool.not_true, Bool.not_false]; done)); simp only [lp]) | ((first | refine Xs rfl rfl (by decide) rfl (fun h K hK => ?_) fun h => ?_ | refine Ys rfl rfl (by decide) rfl (fun h K hK => ?_) fun h => ?_ | refine Zs rfl rfl rfl (by decide) rfl (fun h K hK => ?_) fun h => ?_); rotate_left; (focus (simp only [Bool.not_true, Bool.not_false, lp])); rotate_left) | ((first | refine wi ?_ | refine wj ?_ | refine wk ?_); simp only [lt, ↓reduceIte, Nat.reduceEqDiff]))
      all_goals refine .weakFr ?_
      all_goals simp only [le, ↓reduceIte, Nat.reduceEqDiff, and_true]; repeat' (first | exact trivial | exact D.le_refl _ | exact D.le_any _ | with_reducible refine And.intro ?_ ?_)
      all_goals clear hall
      all_goals refine D.le_eq (congrArg D.v (congrArg V.bool ?_)); (try simp only [Bool.not_eq_eq_eq_not, Bool.not_true, Bool.not_false] at *); simp only [*, List.getD_eq_getElem?_getD, Bool.and_true, Bool.true_and, Bool.and_false, Bool.false_and, Bool.or_true, Bool.true_or, Bool.or_false, Bool.false_or, Bool.not_true, Bool.not_false, Bool.not_not, dullAt]
    refine sat_cond rfl (fun hb => ?_) (fun hb => ?_)
    · repeat (first | refine wa ?_ | refine wb rfl ?_ | refine wc rfl rfl hM ?_ | refine wd rfl hM ?_ | ((first | refine we rfl fun K hK => ?_ | refine wf rfl rfl fun K hK => ?_ | refine wg rfl rfl fun K hK => ?_ | refine wh rfl fun K hK => ?_); (simp only [lo, ld, ↓aop, ↓aCall, hP, hG, Nat.reduceLT, ↓reduceIte, Nat.reduceEqDiff, Nat.reduceAdd, Nat.reduceMul, Nat.reduceLeDiff, reduceCtorEq, D.cs, D.plain, fillD, chop, List.replicate]; repeat (with_reducible refine And.intro ?_ ?_; focus (first | decide | omega | (simp only [ln]; omega)))); try ((first | refine hK _ _ ?_ | refine hK _ ?_); clear hK K; simp only [lp])) | ((first | refine wi ?_ | refine wj ?_ | refine wk ?_ | refine wl ?_ | refine wm ?_ | refine wn ?_); simp only [lt, ↓reduceIte, Nat.reduceEqDiff]) | refine wo ?_)
      refine Fin.is (.v (.bool false)) (by decide) rfl ?_
      have : plainOk s = false := by
        simp only [plainOk, Bool.and_eq_false_iff]
        left
        rw [List.all_eq_false]
        exact ⟨i, by simpa using hc, by simpa using hb⟩
      rwa [this] at hK
    · have hw := wrap_succ (i := i) (by omega)
      repeat (first | refine wa ?_ | refine wb rfl ?_ | refine wc rfl rfl hM ?_ | refine wd rfl hM ?_ | ((first | refine we rfl fun K hK => ?_ | refine wf rfl rfl fun K hK => ?_ | refine wg rfl rfl fun K hK => ?_ | refine wh rfl fun K hK => ?_); (simp only [lo, ld, ↓aop, ↓aCall, hP, hG, Nat.reduceLT, ↓reduceIte, Nat.reduceEqDiff, Nat.reduceAdd, Nat.reduceMul, Nat.reduceLeDiff, reduceCtorEq, D.cs, D.plain, fillD, chop, List.replicate, hw]; repeat (with_reducible refine And.intro ?_ ?_; focus (first | decide | omega | (simp only [ln]; omega)))); try ((first | refine hK _ _ ?_ | refine hK _ ?_); clear hK K; simp only [lp])) | ((first | refine wi ?_ | refine wj ?_ | refine wk ?_ | refine wl ?_ | refine wm ?_ | refine wn ?_); simp only [lt, ↓reduceIte, Nat.reduceEqDiff]) | refine wo ?_)
      refine ⟨s.length - (i + 1), _, _, by omega, .weakFr ?_, i + 1, rfl, by omega, fun j hj => ?_, rfl, rfl⟩
      · simp only [le, ↓reduceIte, Nat.reduceEqDiff, and_true]; repeat' (first | exact trivial | exact D.le_refl _ | exact D.le_any _ | with_reducible refine And.intro ?_ ?_)
      · rcases Nat.lt_succ_iff_lt_or_eq.1 hj with h | rfl
        · exact hall j h
        · exact hb
  · simp at hc
    repeat (first | refine wa ?_ | refine wb rfl ?_ | refine wc rfl rfl hM ?_ | refine wd rfl hM ?_ | ((first | refine we rfl fun K hK => ?_ | refine wf rfl rfl fun K hK => ?_ | refine wg rfl rfl fun K hK => ?_ | refine wh rfl fun K hK => ?_); (simp only [lo, ld, ↓aop, ↓aCall, hP, hG, Nat.reduceLT, ↓reduceIte, Nat.reduceEqDiff, Nat.reduceAdd, Nat.reduceMul, Nat.reduceLeDiff, reduceCtorEq, D.cs, D.plain, fillD, chop, List.replicate, tk_9, ze_9, sz_9]; repeat (with_reducible refine And.intro ?_ ?_; focus (first | decide | omega | (simp only [ln]; omega)))); try ((first | refine hK _ _ ?_ | refine hK _ ?_); clear hK K; simp only [lp])) | ((first | refine wi ?_ | refine wj ?_ | refine wk ?_ | refine wl ?_ | refine wm ?_ | refine wn ?_); simp only [lt, ↓reduceIte, Nat.reduceEqDiff]) | refine wo ?_)
    refine spec_HasPrefix _ _ _ _ (hK _ _ ?_)
    clear hK K; simp only [lp]
    repeat (first | refine wa ?_ | refine wb rfl ?_ | refine wc rfl rfl hM ?_ | refine wd rfl hM ?_ | ((first | refine we rfl fun K hK => ?_ | refine wf rfl rfl fun K hK => ?_ | refine wg rfl rfl fun K hK => ?_ | refine wh rfl fun K hK => ?_); (simp only [lo, ld, ↓aop, ↓aCall, hP, hG, Nat.reduceLT, ↓reduceIte, Nat.reduceEqDiff, Nat.reduceAdd, Nat.reduceMul, Nat.reduceLeDiff, reduceCtorEq, D.cs, D.plain, fillD, chop, List.replicate, tk_9, ze_9, sz_9]; repeat (with_reducible refine And.intro ?_ ?_; focus (first | decide | omega | (simp only [ln]; omega)))); try ((first | refine hK _ _ ?_ | refine hK _ ?_); clear hK K; simp only [lp])) | ((first | refine wi ?_ | refine wj ?_ | refine wk ?_ | refine wl ?_ | refine wm ?_ | refine wn ?_); simp only [lt, ↓reduceIte, Nat.reduceEqDiff]) | refine wo ?_)
    refine Fin.is (.v (.bool (plainOk s))) (by decide) ?_ hK
    have : (List.range s.length).all (fun i => !dullAt s i) = true := by
      simp only [List.all_eq_true, List.mem_range]
      exact fun j hj => by rw [hall j (by omega)]; rfl
    simp only [plainOk, this, Bool.true_and]
    rfl
end Go.Ag
namespace Go.Ag
open Go Go.Proofs
variable {G : Nat → Option (List V)}
attribute [local irreducible] aops qops Sat aop


set_option maxHeartbeats 4000000 in
theorem spec_keep (l : List Str) (f : FuncId) (p : Str → Bool) (hl : l.length ≤ 1099511627776) (H : List Ob)
    (hp : ∀ (x : Str) (H : List Ob) (K : D → List Ob → Prop), K (.v (.bool (p x))) H → ACalls Tryd.prog G f [.v (.str x)] H K)
    (K : D → List Ob → Prop) (hK : K (.v (strs (l.filter p))) H) : ACalls Tryd.prog G 102 [.v (strs l), .fn f []] H K := by
  refine ACalls.go Tryd.f102 _ 23 [4] Tryd.func102 rfl Tryd.ntmps102 (by kernel_rfl) rfl (by simp) (fun E hE hP hG hH => ?_)
  subst hH
  simp only [args0]
  repeat (first | refine wa ?_ | refine wb rfl ?_ | refine wc rfl rfl hM ?_ | refine wd rfl hM ?_ | ((first | refine we rfl fun K hK => ?_ | refine wf rfl rfl fun K hK => ?_ | refine wg rfl rfl fun K hK => ?_ | refine wh rfl fun K hK => ?_); (simp only [lo, ld, ↓aop, ↓aCall, hP, hG, Nat.reduceLT, ↓reduceIte, Nat.reduceEqDiff, Nat.reduceAdd, Nat.reduceMul, Nat.reduceLeDiff, reduceCtorEq, D.cs, D.plain, fillD, chop, List.replicate, strs, tk_9, ze_9, sz_9, tk_50, ze_50, sz_50]; repeat (with_reducible refine And.intro ?_ ?_; focus (first | decide | omega | (simp only [ln]; omega)))); try ((first | refine hK _ _ ?_ | refine hK _ ?_); clear hK K; simp only [lp])) | ((first | refine wi ?_ | refine wj ?_ | refine wk ?_ | refine wl ?_ | refine wm ?_ | refine wn ?_); simp only [lt, ↓reduceIte, Nat.reduceEqDiff]) | refine wo ?_)
  refine sat_loop_ent (fun n ts H => ∃ (i : Nat) (d : D) (L : List Ob), n = l.length - i ∧ i ≤ l.length ∧ Acc E 1 1 (((l.take i).filter p).map fun s => [.str s]) d L ∧
    ts = fr 23 [(10, .v (.int .i64 i)), (9, .v (.int .i64 l.length)), (8, .v (strs l)), (5, d), (1, .fn f [])] ∧ H = E.H0 ++ L) (l.length) (.weakFr ?_) ⟨0, _, [], rfl, Nat.zero_le _, Acc.start 1 1, rfl, (List.append_nil _).symm⟩ ?_
  · simp only [le, ↓reduceIte, Nat.reduceEqDiff, and_true]; repeat' (first | exact trivial | exact D.le_refl _ | exact D.le_any _ | with_reducible refine And.intro ?_ ?_)
  rintro n ts H ⟨i, d, L, rfl, hi, hA, rfl, rfl⟩
  repeat (first | refine wa ?_ | refine wb rfl ?_ | refine wc rfl rfl hM ?_ | refine wd rfl hM ?_ | ((first | refine we rfl fun K hK => ?_ | refine wf rfl rfl fun K hK => ?_ | refine wg rfl rfl fun K hK => ?_ | refine wh rfl fun K hK => ?_); (simp only [lo, ld, ↓aop, ↓aCall, hP, hG, Nat.reduceLT, ↓reduceIte, Nat.reduceEqDiff, Nat.reduceAdd, Nat.reduceMul, Nat.reduceLeDiff, reduceCtorEq, D.cs, D.plain, fillD, chop, List.replicate, strs, tk_9, ze_9, sz_9, tk_50, ze_50, sz_50]; repeat (with_reducible refine And.intro ?_ ?_; focus (first | decide | omega | (simp only [ln]; omega)))); try ((first | refine hK _ _ ?_ | refine hK _ ?_); clear hK K; simp only [lp])) | ((first | refine wi ?_ | refine wj ?_ | refine wk ?_ | refine wl ?_ | refine wm ?_ | refine wn ?_); simp only [lt, ↓reduceIte, Nat.reduceEqDiff]) | refine wo ?_)
  refine sat_cond rfl (fun hc => ?_) (fun hc => ?_)
  · simp at hc
    obtain ⟨x, hx⟩ : ∃ x, l[i]? = some x := ⟨_, List.getElem?_eq_getElem hc⟩
    have hw := wrap_succ (i := i) (by omega)
    repeat (first | refine wa ?_ | refine wb rfl ?_ | refine wc rfl rfl hM ?_ | refine wd rfl hM ?_ | ((first | refine we rfl fun K hK => ?_ | refine wf rfl rfl fun K hK => ?_ | refine wg rfl rfl fun K hK => ?_ | refine wh rfl fun K hK => ?_); (simp only [lo, ld, ↓aop, ↓aCall, hP, hG, Nat.reduceLT, ↓reduceIte, Nat.reduceEqDiff, Nat.reduceAdd, Nat.reduceMul, Nat.reduceLeDiff, reduceCtorEq, D.cs, D.plain, fillD, chop, List.replicate, strs, tk_9, ze_9, sz_9, tk_50, ze_50, sz_50, hc, hx]; repeat (with_reducible refine And.intro ?_ ?_; focus (first | decide | omega | (simp only [ln]; omega)))); try ((first | refine hK _ _ ?_ | refine hK _ ?_); clear hK K; simp only [lp])) | ((first | refine wi ?_ | refine wj ?_ | refine wk ?_ | refine wl ?_ | refine wm ?_ | refine wn ?_); simp only [lt, ↓reduceIte, Nat.reduceEqDiff]) | refine wo ?_)
    refine hp _ _ _ (hK _ _ ?_)
    clear hK K; simp only [lp]
    repeat (first | refine wa ?_ | refine wb rfl ?_ | refine wc rfl rfl hM ?_ | refine wd rfl hM ?_ | ((first | refine we rfl fun K hK => ?_ | refine wf rfl rfl fun K hK => ?_ | refine wg rfl rfl fun K hK => ?_ | refine wh rfl fun K hK => ?_); (simp only [lo, ld, ↓aop, ↓aCall, hP, hG, Nat.reduceLT, ↓reduceIte, Nat.reduceEqDiff, Nat.reduceAdd, Nat.reduceMul, Nat.reduceLeDiff, reduceCtorEq, D.cs, D.plain, fillD, chop, List.replicate]; repeat (with_reducible refine And.intro ?_ ?_; focus (first | decide | omega | (simp only [ln]; omega)))); try ((first | refine hK _ _ ?_ | refine hK _ ?_); clear hK K; simp only [lp])) | ((first | refine wi ?_ | refine wj ?_ | refine wk ?_ | refine wl ?_ | refine wm ?_ | refine wn ?_); simp only [lt, ↓reduceIte, Nat.reduceEqDiff]) | refine wo ?_)
    refine sat_cond rfl (fun hb => ?_) (fun hb => ?_)
    · have hlen : ((l.take i).filter p).length ≤ i := Nat.le_trans (List.length_filter_le _ _) (by simp; omega)
      rcases hA with ⟨h0, rfl, rfl⟩ | ⟨ver, hv, rfl, rfl⟩
      · repeat (first | refine wa ?_ | refine wb rfl ?_ | refine wc rfl rfl hM ?_ | refine wd rfl hM ?_ | ((first | refine we rfl fun K hK => ?_ | refine wf rfl rfl fun K hK => ?_ | refine wg rfl rfl fun K hK => ?_ | refine wh rfl fun K hK => ?_); (simp only [lo, ld, ↓aop, ↓aCall, hP, hG, Nat.reduceLT, ↓reduceIte, Nat.reduceEqDiff, Nat.reduceAdd, Nat.reduceMul, Nat.reduceLeDiff, reduceCtorEq, D.cs, D.plain, fillD, chop, List.replicate, tk_9, ze_9, sz_9, tk_50, ze_50, sz_50, hw]; repeat (with_reducible refine And.intro ?_ ?_; focus (first | decide | omega | (simp only [ln]; omega)))); try ((first | refine hK _ _ ?_ | refine hK _ ?_); clear hK K; simp only [lp])) | ((first | refine wi ?_ | refine wj ?_ | refine wk ?_ | refine wl ?_ | refine wm ?_ | refine wn ?_); simp only [lt, ↓reduceIte, Nat.reduceEqDiff]) | refine wo ?_)
        have e : ((l.take (i + 1)).filter p).map (fun s => [V.str s]) = [[.str x]] := by
          have h1 : (l.take i).filter p = [] := by simpa using h0
          simp [List.take_add_one, hx, List.filter_append, hb, h1]
        refine ⟨l.length - (i + 1), _, _, by omega, ?_, i + 1, .own (E.H0.length + 1) 1 1, [.dead, .arr 1 1 [[.v (.str x)]] 0], rfl, by omega, .inr ⟨1, Nat.le_refl _, by rw [e]; rfl, by rw [e]; rfl⟩, rfl, rfl⟩
        refine Ent.trip hE ?_ ?_ ?_ ?_
        · simp only [le, ↓reduceIte, Nat.reduceEqDiff, and_true]; repeat' (first | exact trivial | exact D.le_refl _ | exact D.le_any _ | with_reducible refine And.intro ?_ ?_)
        · simp [leObs_cons, leObs_nil]
        · simp [ltAll, ltObs, Ob.lt, D.lt, D.ltL, or_imp, forall_and]
        · simp [ltAll, ltObs, Ob.lt, D.lt, D.ltL, or_imp, forall_and]
      · repeat (first | refine wa ?_ | refine wb rfl ?_ | refine wc rfl rfl hM ?_ | refine wd rfl hM ?_ | ((first | refine we rfl fun K hK => ?_ | refine wf rfl rfl fun K hK => ?_ | refine wg rfl rfl fun K hK => ?_ | refine wh rfl fun K hK => ?_); (simp only [lo, ld, ↓aop, ↓aCall, hP, hG, Nat.reduceLT, ↓reduceIte, Nat.reduceEqDiff, Nat.reduceAdd, Nat.reduceMul, Nat.reduceLeDiff, reduceCtorEq, D.cs, D.plain, fillD, chop, List.replicate, tk_9, ze_9, sz_9, tk_50, ze_50, sz_50, hw]; repeat (with_reducible refine And.intro ?_ ?_; focus (first | decide | omega | (simp only [ln]; omega)))); try ((first | refine hK _ _ ?_ | refine hK _ ?_); clear hK K; simp only [lp])) | ((first | refine wi ?_ | refine wj ?_ | refine wk ?_ | refine wl ?_ | refine wm ?_ | refine wn ?_); simp only [lt, ↓reduceIte, Nat.reduceEqDiff]) | refine wo ?_)
        have e : ((l.take (i + 1)).filter p).map (fun s => [V.str s]) = ((l.take i).filter p).map (fun s => [V.str s]) ++ [[.str x]] := by
          simp [List.take_add_one, hx, List.filter_append, hb]
        refine ⟨l.length - (i + 1), _, _, by omega, ?_, i + 1, .own (E.H0.length + 1) (ver + 1) (((l.take i).filter p).length + 1), [.dead, .arr (ver + 1) 1 ((((l.take (i + 1)).filter p).map fun s => [V.str s]).map (·.map .v)) 0], rfl, by omega, .inr ⟨ver + 1, by omega, by rw [e]; simp, rfl⟩, rfl, rfl⟩
        refine Ent.trip hE ?_ ?_ ?_ ?_
        · simp only [le, ↓reduceIte, Nat.reduceEqDiff, and_true]; repeat' (first | exact trivial | exact D.le_refl _ | exact D.le_any _ | with_reducible refine And.intro ?_ ?_)
        · rw [e]; simp [leObs_cons, leObs_nil]; exact List.take_of_length_le (by simp)
        · simp [ltAll, ltObs, Ob.lt, D.lt, D.ltL, or_imp, forall_and]
        · exact ⟨trivial, ltRows _ _, trivial⟩
    · repeat (first | refine wa ?_ | refine wb rfl ?_ | refine wc rfl rfl hM ?_ | refine wd rfl hM ?_ | ((first | refine we rfl fun K hK => ?_ | refine wf rfl rfl fun K hK => ?_ | refine wg rfl rfl fun K hK => ?_ | refine wh rfl fun K hK => ?_); (simp only [lo, ld, ↓aop, ↓aCall, hP, hG, Nat.reduceLT, ↓reduceIte, Nat.reduceEqDiff, Nat.reduceAdd, Nat.reduceMul, Nat.reduceLeDiff, reduceCtorEq, D.cs, D.plain, fillD, chop, List.replicate, hw]; repeat (with_reducible refine And.intro ?_ ?_; focus (first | decide | omega | (simp only [ln]; omega)))); try ((first | refine hK _ _ ?_ | refine hK _ ?_); clear hK K; simp only [lp])) | ((first | refine wi ?_ | refine wj ?_ | refine wk ?_ | refine wl ?_ | refine wm ?_ | refine wn ?_); simp only [lt, ↓reduceIte, Nat.reduceEqDiff]) | refine wo ?_)
      have e : ((l.take (i + 1)).filter p) = ((l.take i).filter p) := by
        simp [List.take_add_one, hx, List.filter_append, hb]
      refine ⟨l.length - (i + 1), _, _, by omega, .weakFr ?_, i + 1, d, L, rfl, by omega, by rw [e]; exact hA, rfl, rfl⟩
      simp only [le, ↓reduceIte, Nat.reduceEqDiff, and_true]; repeat' (first | exact trivial | exact D.le_refl _ | exact D.le_any _ | with_reducible refine And.intro ?_ ?_)
  · simp at hc
    repeat (first | refine wa ?_ | refine wb rfl ?_ | refine wc rfl rfl hM ?_ | refine wd rfl hM ?_ | ((first | refine we rfl fun K hK => ?_ | refine wf rfl rfl fun K hK => ?_ | refine wg rfl rfl fun K hK => ?_ | refine wh rfl fun K hK => ?_); (simp only [lo, ld, ↓aop, ↓aCall, hP, hG, Nat.reduceLT, ↓reduceIte, Nat.reduceEqDiff, Nat.reduceAdd, Nat.reduceMul, Nat.reduceLeDiff, reduceCtorEq, D.cs, D.plain, fillD, chop, List.replicate]; repeat (with_reducible refine And.intro ?_ ?_; focus (first | decide | omega | (simp only [ln]; omega)))); try ((first | refine hK _ _ ?_ | refine hK _ ?_); clear hK K; simp only [lp])) | ((first | refine wi ?_ | refine wj ?_ | refine wk ?_ | refine wl ?_ | refine wm ?_ | refine wn ?_); simp only [lt, ↓reduceIte, Nat.reduceEqDiff]) | refine wo ?_)
    have e : l.take i = l := List.take_of_length_le (by omega)
    rw [e] at hA
    exact Fin.acc d hA hE (by decide) rfl hK
end Go.Ag
namespace Go.Ag
open Go Go.Proofs
variable {G : Nat → Option (List V)}
attribute [local irreducible] aops qops Sat aop

theorem spec_notEmpty (x : Str) (H : List Ob) (K : D → List Ob → Prop) (hK : K (.v (.bool (!(x == [])))) H) : ACalls Tryd.prog G 103 [.v (.str x)] H K := by
  refine ACalls.go Tryd.f103 _ 5 [2] Tryd.func103 rfl Tryd.ntmps103 (by kernel_rfl) rfl (by simp) (fun E hE hP hG hH => ?_)
  subst hH
  simp only [args0]
  repeat (first | refine wa ?_ | refine wb rfl ?_ | refine wc rfl rfl hM ?_ | refine wd rfl hM ?_ | ((first | refine we rfl fun K hK => ?_ | refine wf rfl rfl fun K hK => ?_ | refine wg rfl rfl fun K hK => ?_ | refine wh rfl fun K hK => ?_); (simp only [lo, ld, ↓aop, ↓aCall, hP, hG, Nat.reduceLT, ↓reduceIte, Nat.reduceEqDiff, Nat.reduceAdd, Nat.reduceMul, Nat.reduceLeDiff, reduceCtorEq, D.cs, D.plain, fillD, chop, List.replicate, tk_9, ze_9, sz_9]; repeat (with_reducible refine And.intro ?_ ?_; focus (first | decide | omega | (simp only [ln]; omega)))); try ((first | refine hK _ _ ?_ | refine hK _ ?_); clear hK K; simp only [lp])) | ((first | refine wi ?_ | refine wj ?_ | refine wk ?_ | refine wl ?_ | refine wm ?_ | refine wn ?_); simp only [lt, ↓reduceIte, Nat.reduceEqDiff]) | refine wo ?_)
  exact Fin.is _ (by decide) rfl hK

theorem spec_Parts (s : Str) (m : Int) (hs : s.length < 4294967281) (hG0 : G 0 = some [.int .i64 m]) (H : List Ob) (K : D → List Ob → Prop) (hK : K (.v (strs (parts s))) H) : ACalls Tryd.prog G 91 [.v (.str s)] H K := by
  refine ACalls.go Tryd.f91 _ 6 [2] Tryd.func91 rfl Tryd.ntmps91 (by kernel_rfl) rfl (by simp) (fun E hE hP hG hH => ?_)
  subst hH
  simp only [args0]
  repeat (first | refine wa ?_ | refine wb rfl ?_ | refine wc rfl rfl hM ?_ | refine wd rfl hM ?_ | ((first | refine we rfl fun K hK => ?_ | refine wf rfl rfl fun K hK => ?_ | refine wg rfl rfl fun K hK => ?_ | refine wh rfl fun K hK => ?_); (simp only [lo, ld, ↓aop, ↓aCall, hP, hG, Nat.reduceLT, ↓reduceIte, Nat.reduceEqDiff, Nat.reduceAdd, Nat.reduceMul, Nat.reduceLeDiff, reduceCtorEq, D.cs, D.plain, fillD, chop, List.replicate, tk_9, ze_9, sz_9]; repeat (with_reducible refine And.intro ?_ ?_; focus (first | decide | omega | (simp only [ln]; omega)))); try ((first | refine hK _ _ ?_ | refine hK _ ?_); clear hK K; simp only [lp])) | ((first | refine wi ?_ | refine wj ?_ | refine wk ?_ | refine wl ?_ | refine wm ?_ | refine wn ?_); simp only [lt, ↓reduceIte, Nat.reduceEqDiff]) | refine wo ?_)
  refine spec_Split s 47 m hG0 hs _ _ (hK _ _ ?_)
  clear hK K; simp only [lp]
  repeat (first | refine wa ?_ | refine wb rfl ?_ | refine wc rfl rfl hM ?_ | refine wd rfl hM ?_ | ((first | refine we rfl fun K hK => ?_ | refine wf rfl rfl fun K hK => ?_ | refine wg rfl rfl fun K hK => ?_ | refine wh rfl fun K hK => ?_); (simp only [lo, ld, ↓aop, ↓aCall, hP, hG, Nat.reduceLT, ↓reduceIte, Nat.reduceEqDiff, Nat.reduceAdd, Nat.reduceMul, Nat.reduceLeDiff, reduceCtorEq, D.cs, D.plain, fillD, chop, List.replicate, tk_9, ze_9, sz_9]; repeat (with_reducible refine And.intro ?_ ?_; focus (first | decide | omega | (simp only [ln]; omega)))); try ((first | refine hK _ _ ?_ | refine hK _ ?_); clear hK K; simp only [lp])) | ((first | refine wi ?_ | refine wj ?_ | refine wk ?_ | refine wl ?_ | refine wm ?_ | refine wn ?_); simp only [lt, ↓reduceIte, Nat.reduceEqDiff]) | refine wo ?_)
  refine spec_keep _ _ (fun p => !(p == [])) ?_ _ (fun x H K hK => spec_notEmpty x H K hK) _ (hK _ _ ?_)
  · exact Nat.le_trans (splitC_len _ _) (by omega)
  clear hK K; simp only [lp]
  repeat (first | refine wa ?_ | refine wb rfl ?_ | refine wc rfl rfl hM ?_ | refine wd rfl hM ?_ | ((first | refine we rfl fun K hK => ?_ | refine wf rfl rfl fun K hK => ?_ | refine wg rfl rfl fun K hK => ?_ | refine wh rfl fun K hK => ?_); (simp only [lo, ld, ↓aop, ↓aCall, hP, hG, Nat.reduceLT, ↓reduceIte, Nat.reduceEqDiff, Nat.reduceAdd, Nat.reduceMul, Nat.reduceLeDiff, reduceCtorEq, D.cs, D.plain, fillD, chop, List.replicate]; repeat (with_reducible refine And.intro ?_ ?_; focus (first | decide | omega | (simp only [ln]; omega)))); try ((first | refine hK _ _ ?_ | refine hK _ ?_); clear hK K; simp only [lp])) | ((first | refine wi ?_ | refine wj ?_ | refine wk ?_ | refine wl ?_ | refine wm ?_ | refine wn ?_); simp only [lt, ↓reduceIte, Nat.reduceEqDiff]) | refine wo ?_)
  exact Fin.is _ (by decide) rfl hK
end Go.Ag
