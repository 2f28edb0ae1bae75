/- AGo, part 10: operations, lists of operations, code. -/
import Derived.Test.YtbiajjcolfhioaaDoorAgOpG
set_option linter.all false
namespace Go.Ag
open Go Go.RowKit

def callB (P : Program) (f : FuncId) : Bool :=
  match P.funcs[f]? with
  | some fn => fn.name != "runtime.NumGoroutine" && fn.body.isSome
  | none => false

/-- A call: whatever the world, the function returns, and what it hands back and leaves meets K. -/
def ACalls (P : Program) (G : Nat → Option (List V)) (f : FuncId) (args : List D) (H : List Ob) (K : D → List Ob → Prop) : Prop :=
  callB P f = true ∧ ∀ (E : Env), E.P = P → E.G = G → ∀ (M : Mem) (μ : Mu) (w : World) (vs : List Value), R E M μ H w → RelL M μ args vs →
    Calls P f vs.toArray w fun e w' => ∃ v d M' μ' H', e = .returned v ∧ M.le M' ∧ μ.le μ' ∧ R E M' μ' H' w' ∧ Rel M' μ' d v ∧ K d H'

theorem ACalls.mono {P : Program} {G : Nat → Option (List V)} {f : FuncId} {args : List D} {H : List Ob} {K K' : D → List Ob → Prop} (h : ACalls P G f args H K) (k : ∀ d H', K d H' → K' d H') : ACalls P G f args H K' :=
  ⟨h.1, fun E e1 e2 M μ w vs hr hv => (h.2 E e1 e2 M μ w vs hr hv).mono fun e w' ⟨v, d, M', μ', H', h1, h2, h3, h4, h5, h6⟩ => ⟨v, d, M', μ', H', h1, h2, h3, h4, h5, k _ _ h6⟩⟩

def ev (E : Env) (ts : List D) : Operand → D
  | .tmp t => ts.getD t (.tup [])
  | .const v => ofConst v
  | .global g => match E.G g with | some cs => .rptr cs | none => .any
  | .func f => .fn f []

theorem rel_ev {E : Env} {M : Mem} {μ : Mu} {H : List Ob} {w : World} (h : R E M μ H w) {ts : List D} {a : Act} (ht : RelL M μ ts a.tmps.toList) (x : Operand) : Rel M μ (ev E ts x) (a.eval x) := by
  cases x with
  | tmp t =>
    simp only [ev, Act.eval]
    have hl : a.tmps.size = ts.length := by have := ht.length; rwa [show a.tmps.toList.length = a.tmps.size from Array.length_toList] at this
    by_cases hlt : t < ts.length
    · obtain ⟨y, h1, h2⟩ := ht.get t _ (List.getElem?_eq_getElem hlt)
      rw [List.getD_eq_getElem?_getD, List.getElem?_eq_getElem hlt]
      have : a.tmps.getD t undef = y := by
        have h3 : a.tmps[t]? = some y := by simpa using h1
        rw [Array.getD_eq_getD_getElem?, h3]; rfl
      rw [this]; exact h2
    · rw [List.getD_eq_getElem?_getD, List.getElem?_eq_none (Nat.le_of_not_lt hlt)]
      have : a.tmps.getD t undef = undef := by
        rw [Array.getD_eq_getD_getElem?, Array.getElem?_eq_none (by rw [hl]; exact Nat.le_of_not_lt hlt)]; rfl
      rw [this]
      simp only [Option.getD_none, Rel, RelL]
      exact ⟨[], rfl, rfl⟩
  | const v => exact rel_ofConst M μ v
  | global g =>
    simp only [ev, Act.eval]
    cases hg : E.G g with
    | none => simp only [Rel]
    | some cs => simp only [Rel]; exact ⟨g, 0, rfl, h.glob g cs hg⟩
  | func f => simp only [ev, Act.eval, Rel, RelL]; exact ⟨[], rfl, rfl⟩

def putD (ts : List D) (dst : Option Tmp) (d : D) : List D := match dst with | some s => ts.set s d | none => ts
theorem rel_put {M : Mem} {μ : Mu} {ts : List D} {a : Act} (ht : RelL M μ ts a.tmps.toList) (dst : Option Tmp) {d : D} {v : Value} (hd : Rel M μ d v) : RelL M μ (putD ts dst d) (a.put dst v).tmps.toList := by
  cases dst with
  | none => exact ht
  | some s => simp only [putD, Act.put, Array.toList_setIfInBounds]; exact ht.set hd s
theorem put_defers (a : Act) (dst : Option Tmp) (v : Value) : (a.put dst v).defers = a.defers := by cases dst <;> rfl

def aCall (E : Env) (c : Call) (ρ : Operand → D) (H : List Ob) (K : D → List Ob → Prop) : Prop :=
  match c.callee with
  | .value f => (match ρ f with
    | .fn g caps => ACalls E.P E.G g (c.args.toList.map ρ ++ caps) H K
    | _ => False)
  | .builtin .append => (match c.args.toList, c.argTypes.toList with
    | [s, x], [t, t2] => aAppend E.P t t2 (ρ s) (ρ x) H K
    | _, _ => False)
  | .builtin .len => (match c.args.toList, c.argTypes.toList with
    | [x], [t] => aLen E.P t (ρ x) H fun d => K d H
    | _, _ => False)
  | .builtin .max => (match c.args.toList with
    | [x, y] => aMax (ρ x) (ρ y) fun d => K d H
    | _ => False)
  | .builtin .min => (match c.args.toList with
    | [x, y] => aMin (ρ x) (ρ y) fun d => K d H
    | _ => False)
  | _ => False

def aop (E : Env) (o : Oper) (ts : List D) (H : List Ob) (K : D → List Ob → Prop) : Prop :=
  match o.op with
  | .move x => K (ev E ts x) H
  | .assign x => K (ev E ts x) H
  | .pick c a b => (match ev E ts c with | .v (.bool t) => K (if t then ev E ts a else ev E ts b) H | _ => False)
  | .alloc t => aAlloc E.P t H K
  | .box _ x => aBox (ev E ts x) H K
  | .build t parts => knownB E.P t = true ∧ aBuild E.P t (parts.toList.map fun p => (p.1, ev E ts p.2)) fun d => K d H
  | .buildSlice t n parts => aBuildSlice E.P t n (parts.toList.map fun p => (p.1, ev E ts p.2)) H K
  | .load t x => aLoad E.P t (ev E ts x) H fun d => K d H
  | .store t x y => aStore E.P t (ev E ts x) (ev E ts y) H fun H' => K (.tup []) H'
  | .nilCheck x => (match ev E ts x with
    | .ptr b o => K (.ptr b o) H
    | .rptr cs => K (.rptr cs) H
    | .eptr b v s i o => vOk H b v ∧ K (.eptr b v s i o) H
    | _ => False)
  | .binOp op t x y _ => aBin E.P op t (ev E ts x) (ev E ts y) H fun d => K d H
  | .unOp op _ x => aUn op (ev E ts x) fun d => K d H
  | .convert s t x => aConv E.P s t (ev E ts x) fun d => K d H
  | .makeFunc fn first caps => (match fn with | .func f => first = #[] ∧ K (.fn f (caps.toList.map (ev E ts))) H | _ => False)
  | .makeMap t r => aMakeMap E.P t (r.map (ev E ts)) H K
  | .makeSlice t l c => aMakeSlice E.P t (ev E ts l) (ev E ts c) H K
  | .slice t x lo hi mx => mx = none ∧ aSlice E.P t (ev E ts x) (lo.map (ev E ts)) (hi.map (ev E ts)) H fun d => K d H
  | .fieldAddr s x f => aFieldAddr E.P s (ev E ts x) f H fun d => K d H
  | .indexAddr t x i => aIndexAddr E.P t (ev E ts x) (ev E ts i) H fun d => K d H
  | .index t x i => aIndex E.P t (ev E ts x) (ev E ts i) fun d => K d H
  | .extract x i => (match ev E ts x with | .tup ds => (match ds[i]? with | some d => K d H | none => False) | _ => False)
  | .call c => aCall E c (ev E ts) H K
  | _ => False

section
variable {E : Env} {M : Mem} {μ : Mu} {H : List Ob} {w : World} {o : Oper} {a : Act} {ts : List D} {K : D → List Ob → Prop} {next : Act → World → Prop} {Qx : Exit → Act → World → Prop}

theorem wp_val {s : Sem Value} (he : execOp a.eval o = (do pure (.value (← s)))) {v : Value} {w' : World} (hs : s.run E.P w = .ok v w') (hn : next (a.put o.dst v) w') : o.wp E.P a w next Qx := by
  unfold Oper.wp
  rw [he]
  simp only [Sem.run_bind, hs, Result.andThen_ok, Sem.run_pure, Oper.upon]
  exact hn
theorem wp_unit {s : Sem Unit} (he : execOp a.eval o = (do s; pure .skip)) {w' : World} (hs : s.run E.P w = .ok () w') (hn : next (a.put o.dst undef) w') : o.wp E.P a w next Qx := by
  unfold Oper.wp
  rw [he]
  simp only [Sem.run_bind, hs, Result.andThen_ok, Sem.run_pure, Oper.upon]
  exact hn
theorem wp_pure {v : Value} (he : execOp a.eval o = pure (.value v)) (hn : next (a.put o.dst v) w) : o.wp E.P a w next Qx := by
  unfold Oper.wp
  rw [he]
  simp only [Sem.run_pure, Oper.upon]
  exact hn

def Nx (E : Env) (M : Mem) (μ : Mu) (o : Oper) (a : Act) (K : D → List Ob → Prop) (next : Act → World → Prop) : Prop :=
  ∀ d v M' μ' H' w', M.le M' → μ.le μ' → R E M' μ' H' w' → Rel M' μ' d v → K d H' → next (a.put o.dst v) w'

theorem wp_ok {s : Sem Value} (he : execOp a.eval o = (do pure (.value (← s)))) (hn : Nx E M μ o a K next) (h : Ok E M μ s w K) : o.wp E.P a w next Qx := by
  obtain ⟨v, w', d, M', μ', H', h1, h2, h3, h4, h5, h6⟩ := h
  exact wp_val he h1 (hn d v M' μ' H' w' h2 h3 h4 h5 h6)
theorem wp_same {s : Sem Value} (he : execOp a.eval o = (do pure (.value (← s)))) (h : R E M μ H w) (hn : Nx E M μ o a K next) (hs : ∃ v d, s.run E.P w = .ok v w ∧ Rel M μ d v ∧ K d H) : o.wp E.P a w next Qx := by
  obtain ⟨v, d, h1, h2, h3⟩ := hs
  exact wp_val he h1 (hn d v M μ H w (.refl _) (.refl _) h h2 h3)
end

theorem relL_map {E : Env} {M : Mem} {μ : Mu} {H : List Ob} {w : World} (h : R E M μ H w) {ts : List D} {a : Act} (ht : RelL M μ ts a.tmps.toList) : ∀ xs : List Operand, RelL M μ (xs.map (ev E ts)) (xs.map a.eval)
  | [] => by simp [RelL]
  | x :: xs => by rw [List.map_cons, List.map_cons, RelL.cons_iff]; exact ⟨rel_ev h ht x, relL_map h ht xs⟩

theorem bndV_map {E : Env} {M : Mem} {μ : Mu} {H : List Ob} {w : World} (h : R E M μ H w) {ts : List D} {a : Act} (ht : RelL M μ ts a.tmps.toList) (x : Option Operand) : bndV M μ (x.map (ev E ts)) (x.map a.eval) := by
  cases x with
  | none => trivial
  | some x => exact rel_ev h ht x

theorem parts_rel {E : Env} {M : Mem} {μ : Mu} {H : List Ob} {w : World} (h : R E M μ H w) {ts : List D} {a : Act} (ht : RelL M μ ts a.tmps.toList) (parts : Array (Nat × Operand)) :
    (parts.toList.map fun p => (p.1, ev E ts p.2)).map (·.1) = (parts.map fun (i, x) => (i, a.eval x)).toList.map (·.1) ∧
    ∀ (i : Nat) (d : Nat × D) (v : Nat × Value), (parts.toList.map fun p => (p.1, ev E ts p.2))[i]? = some d → (parts.map fun (i, x) => (i, a.eval x)).toList[i]? = some v → Rel M μ d.2 v.2 := by
  constructor
  · simp
  · intro i d v h1 h2
    rw [Array.toList_map, List.getElem?_map] at h2
    rw [List.getElem?_map] at h1
    cases hp : parts.toList[i]? with
    | none => simp [hp] at h1
    | some p =>
      rw [hp] at h1 h2
      simp at h1 h2
      subst h1; subst h2
      exact rel_ev h ht p.2

theorem aCall_sound {E : Env} {M : Mem} {μ : Mu} {H : List Ob} {w : World} {o : Oper} {a : Act} {ts : List D} {K : D → List Ob → Prop} {next : Act → World → Prop} {Qx : Exit → Act → World → Prop}
    (h : R E M μ H w) (ht : RelL M μ ts a.tmps.toList) {c : Call} (ho : o.op = .call c) (k : aCall E c (ev E ts) H K) (hn : Nx E M μ o a K next) : o.wp E.P a w next Qx := by
  unfold aCall at k
  obtain ⟨callee, args, argTypes⟩ := c
  simp only at k
  split at k
  · rename_i f
    split at k
    · rename_i g caps hf
      obtain ⟨hb, hc⟩ := k
      have hfr := rel_ev h ht f
      rw [hf] at hfr
      simp only [Rel] at hfr
      obtain ⟨vs, hfe, hvs⟩ := hfr
      have hargs := (relL_map h ht args.toList).append hvs
      have hcall := hc E rfl rfl M μ w _ h hargs
      unfold callB at hb
      cases hfn : E.P.funcs[g]? with
      | none => simp [hfn] at hb
      | some fn =>
        simp only [hfn, Bool.and_eq_true, bne_iff_ne, ne_eq] at hb
        obtain ⟨hname, hbody⟩ := hb
        have hnb : fn.body.isNone = false := by cases hq : fn.body <;> simp_all
        have hrun : (execOp a.eval o).run E.P w = .ok (.enter g ((args.toList.map a.eval) ++ vs).toArray) w := by
          have e1 : (#[] ++ args.map a.eval) ++ vs.toArray = ((args.toList.map a.eval) ++ vs).toArray := by
            apply Array.toList_inj.1; simp
          simp only [execOp, ho, resolve, hfe, Deferred.ofValue, Sem.run_bind, Sem.run_pure, Result.andThen_ok, invoke, callFunc, run_program, hfn, e1]
          simp [hname, hnb]
        unfold Oper.wp
        rw [hrun]
        simp only [Oper.upon]
        refine hcall.mono fun e w' ⟨v, d, M', μ', H', he, h1, h2, h3, h4, h5⟩ => ?_
        subst he
        exact hn d v M' μ' H' w' h1 h2 h3 h4 h5
    · exact k.elim
  · split at k
    · rename_i s x t t2 he1 he2
      have e1 : args = #[s, x] := by apply Array.toList_inj.1; exact he1
      have e2 : argTypes = #[t, t2] := by apply Array.toList_inj.1; exact he2
      subst e1; subst e2
      exact wp_ok (s := Builtin.append_ #[t, t2] o.type #[a.eval s, a.eval x]) (by simp [execOp, ho, resolve, invoke, builtin]) hn (aAppend_sound h (rel_ev h ht s) (rel_ev h ht x) k)
    · exact k.elim
  · split at k
    · rename_i x t he1 he2
      have e1 : args = #[x] := by apply Array.toList_inj.1; exact he1
      have e2 : argTypes = #[t] := by apply Array.toList_inj.1; exact he2
      subst e1; subst e2
      exact wp_same (s := Builtin.len_ #[t] o.type #[a.eval x]) (by simp [execOp, ho, resolve, invoke, builtin]) h hn (aLen_sound h (rel_ev h ht x) k)
    · exact k.elim
  · split at k
    · rename_i x y he1
      have e1 : args = #[x, y] := by apply Array.toList_inj.1; exact he1
      subst e1
      exact wp_same (s := Builtin.max_ argTypes o.type #[a.eval x, a.eval y]) (by simp [execOp, ho, resolve, invoke, builtin]) h hn (aMax_sound (rel_ev h ht x) (rel_ev h ht y) k)
    · exact k.elim
  · split at k
    · rename_i x y he1
      have e1 : args = #[x, y] := by apply Array.toList_inj.1; exact he1
      subst e1
      exact wp_same (s := Builtin.min_ argTypes o.type #[a.eval x, a.eval y]) (by simp [execOp, ho, resolve, invoke, builtin]) h hn (aMin_sound (rel_ev h ht x) (rel_ev h ht y) k)
    · exact k.elim
  · exact k.elim

theorem aop_sound {E : Env} {M : Mem} {μ : Mu} {H : List Ob} {w : World} {o : Oper} {a : Act} {ts : List D} {K : D → List Ob → Prop} {next : Act → World → Prop} {Qx : Exit → Act → World → Prop}
    (h : R E M μ H w) (ht : RelL M μ ts a.tmps.toList) (k : aop E o ts H K) (hn : Nx E M μ o a K next) : o.wp E.P a w next Qx := by
  unfold aop at k
  have RV := rel_ev h ht
  split at k
  · rename_i x ho
    exact wp_pure (by simp [execOp, ho]) (hn _ _ M μ H w (.refl _) (.refl _) h (RV x) k)
  · rename_i x ho
    exact wp_pure (by simp [execOp, ho]) (hn _ _ M μ H w (.refl _) (.refl _) h (RV x) k)
  · rename_i c x y ho
    split at k
    · rename_i t hc
      have hcv := RV c
      rw [hc] at hcv
      simp only [Rel, RelV] at hcv
      refine wp_pure (v := if t then a.eval x else a.eval y) (by simp [execOp, ho, hcv, asBool]) (hn _ _ M μ H w (.refl _) (.refl _) h ?_ k)
      cases t
      · exact RV y
      · exact RV x
    · exact k.elim
  · rename_i t ho
    exact wp_ok (s := Instr.alloc t true (.tuple #[])) (by simp [execOp, ho]) hn (aAlloc_sound h k)
  · rename_i t x ho
    exact wp_ok (s := Instr.box t (a.eval x)) (by simp [execOp, ho]) hn (aBox_sound h (RV x) k)
  · rename_i t parts ho
    obtain ⟨hk, k⟩ := k
    obtain ⟨p1, p2⟩ := parts_rel h ht parts
    exact wp_same (s := Instr.build t (parts.map fun (i, x) => (i, a.eval x))) (by simp [execOp, ho]) h hn (aBuild_sound hk p1 p2 k)
  · rename_i t n parts ho
    obtain ⟨p1, p2⟩ := parts_rel h ht parts
    have hk : Ok E M μ (Instr.buildSlice t n (parts.map fun (i, x) => (i, a.eval x))) w K := aBuildSlice_sound h p1 p2 k
    have he : execOp a.eval o = (do pure (.value (← Instr.buildSlice t n (parts.map fun (i, x) => (i, a.eval x))))) := by unfold execOp; rw [ho]
    exact wp_ok he hn hk
  · rename_i t x ho
    exact wp_same (s := Instr.loadAt t (a.eval x)) (by simp [execOp, ho]) h hn (aLoad_sound h (RV x) k)
  · rename_i t x y ho
    obtain ⟨w', H', h1, h2, h3⟩ := aStore_sound h (RV x) (RV y) k
    exact wp_unit (s := Instr.storeAt t (a.eval x) (a.eval y)) (by simp [execOp, ho]) h1 (hn _ undef M μ H' w' (.refl _) (.refl _) h2 (by simp only [Rel, RelL]; exact ⟨[], rfl, rfl⟩) h3)
  · rename_i x ho
    have hx := RV x
    split at k
    · rename_i b off hd
      rw [hd] at hx
      have hx' := hx
      simp only [Rel] at hx'
      obtain ⟨p, hp, hv, e⟩ := hx'
      exact wp_pure (v := a.eval x) (by simp [execOp, ho, e]) (hn _ _ M μ H w (.refl _) (.refl _) h hx k)
    · rename_i cs hd
      rw [hd] at hx
      have hx' := hx
      simp only [Rel] at hx'
      obtain ⟨b, off, e, _⟩ := hx'
      exact wp_pure (v := a.eval x) (by simp [execOp, ho, e]) (hn _ _ M μ H w (.refl _) (.refl _) h hx k)
    · rename_i b v s i off hd
      obtain ⟨hv, k⟩ := k
      rw [hd] at hx
      have hx' := hx
      simp only [Rel] at hx'
      obtain ⟨_, p, hp, _, _, e⟩ := hx'
      have e := e (vOk_ver h hv hp)
      exact wp_pure (v := a.eval x) (by simp [execOp, ho, e]) (hn _ _ M μ H w (.refl _) (.refl _) h hx k)
    · exact k.elim
  · rename_i op t x y ty ho
    exact wp_same (s := do eqGuard op t x y (a.eval x) (a.eval y); binOp op t (a.eval x) (a.eval y)) (by simp [execOp, ho]) h hn (aBin_sound h (RV x) (RV y) k x y)
  · rename_i op t x ho
    exact wp_same (s := Op.unary op (a.eval x)) (by simp [execOp, ho]) h hn (aUn_sound (RV x) k)
  · rename_i s t x ho
    exact wp_same (s := convert s t (a.eval x)) (by simp [execOp, ho]) h hn (aConv_sound (RV x) k)
  · rename_i fn first caps ho
    split at k
    · rename_i f
      obtain ⟨rfl, k⟩ := k
      refine wp_pure (v := .func (.func f) #[] (caps.map a.eval)) (by simp [execOp, ho, Instr.makeFunc]) (hn _ _ M μ H w (.refl _) (.refl _) h ?_ k)
      simp only [Rel]
      exact ⟨caps.toList.map a.eval, by congr 1; apply Array.toList_inj.1; simp, relL_map h ht _⟩
    · exact k.elim
  · rename_i t r ho
    exact wp_ok (s := Instr.makeMap t (r.map a.eval)) (by simp [execOp, ho]) hn (aMakeMap_sound h (bndV_map h ht r) k)
  · rename_i t l c ho
    exact wp_ok (s := Instr.makeSlice t (a.eval l) (a.eval c)) (by simp [execOp, ho]) hn (aMakeSlice_sound h (RV l) (RV c) k)
  · rename_i t x lo hi mx ho
    obtain ⟨rfl, k⟩ := k
    exact wp_same (s := Instr.sliceAt t (a.eval x) (lo.map a.eval) (hi.map a.eval) none) (by simp [execOp, ho]) h hn (aSlice_sound h (RV x) (bndV_map h ht lo) (bndV_map h ht hi) k)
  · rename_i s x f ho
    exact wp_same (s := Instr.fieldAt s (a.eval x) f) (by simp [execOp, ho]) h hn (aFieldAddr_sound h (RV x) k)
  · rename_i t x i ho
    exact wp_same (s := Instr.indexAt t (a.eval x) (a.eval i)) (by simp [execOp, ho]) h hn (aIndexAddr_sound h (RV x) (RV i) k)
  · rename_i t x i ho
    exact wp_same (s := Instr.index t (a.eval x) (a.eval i)) (by simp [execOp, ho]) h hn (aIndex_sound (RV x) (RV i) k)
  · rename_i x i ho
    have hx := RV x
    split at k
    · rename_i ds hd
      rw [hd] at hx
      simp only [Rel] at hx
      obtain ⟨vs, e, hvs⟩ := hx
      split at k
      · rename_i d hdi
        obtain ⟨y, h1, h2⟩ := hvs.get i d hdi
        exact wp_same (s := Instr.extract (a.eval x) i) (by simp [execOp, ho]) h hn ⟨y, d, by simp [Instr.extract, e, h1], h2, k⟩
      · exact k.elim
    · exact k.elim
  · rename_i c ho
    exact aCall_sound h ht ho k hn
  · exact k.elim

/-! ### operations in the text's order -/
/-- A guard's two ways. -/
def Gd (b want : Bool) (x y : Prop) : Prop := (b = want → x) ∧ (b = !want → y)
def aops (E : Env) (all : Array Oper) : List Oper → List D → List Ob → (List D → List Ob → Prop) → Prop
  | [], ts, H, Q => Q ts H
  | o :: os, ts, H, Q => match o.guard with
    | none => aop E o ts H fun d H' => aops E all os (putD ts o.dst d) H' Q
    | some (g, want) => (match (all[g]?).bind (·.dst) with
      | none => False
      | some s => (match ts[s]? with
        | some (.v (.bool b)) => Gd b want
          (aop E o (ts.set s (.v (.bool want))) H fun d H' => aops E all os (putD (ts.set s (.v (.bool want))) o.dst d) H' Q)
          (aops E all os (putD (ts.set s (.v (.bool !want))) o.dst (.tup [])) H Q)
        | some (.tup []) => aops E all os (putD ts o.dst (.tup [])) H Q
        | _ => False))

theorem aops_sound {E : Env} {all : Array Oper} {Qx : Exit → Act → World → Prop} : ∀ (os : List Oper) (M : Mem) (μ : Mu) (ts : List D) (H : List Ob) (w : World) (a : Act) (Q : List D → List Ob → Prop),
    R E M μ H w → RelL M μ ts a.tmps.toList → a.defers = [] → aops E all os ts H Q →
    (∀ M' μ' ts' H' w' a', M.le M' → μ.le μ' → R E M' μ' H' w' → RelL M' μ' ts' a'.tmps.toList → a'.defers = [] → Q ts' H' → Qx .normal a' w') → wpList E.P all Qx os a w
  | [], M, μ, ts, H, w, a, Q, h, ht, hd, k, hq => hq M μ ts H w a (.refl _) (.refl _) h ht hd k
  | o :: os, M, μ, ts, H, w, a, Q, h, ht, hd, k, hq => by
    simp only [aops] at k
    unfold wpList
    have go : ∀ ts' : List D, RelL M μ ts' a.tmps.toList → aop E o ts' H (fun d H' => aops E all os (putD ts' o.dst d) H' Q) → o.wp E.P a w (wpList E.P all Qx os) Qx := fun ts' ht' k =>
      aop_sound h ht' k fun d v M' μ' H' w' h1 h2 h3 h4 h5 =>
        aops_sound os M' μ' _ H' w' _ Q h3 (rel_put (RelL.mono h1 h2 ht') o.dst h4) (by rw [put_defers]; exact hd) h5
          fun M2 μ2 ts2 H2 w2 a2 g1 g2 => hq M2 μ2 ts2 H2 w2 a2 (h1.trans g1) (h2.trans g2)
    have skip : ∀ ts' : List D, RelL M μ ts' a.tmps.toList → aops E all os (putD ts' o.dst (.tup [])) H Q → wpList E.P all Qx os (a.put o.dst undef) w := fun ts' ht' k =>
      aops_sound os M μ _ H w _ Q h (rel_put ht' o.dst (by simp only [Rel, RelL]; exact ⟨[], rfl, rfl⟩)) (by rw [put_defers]; exact hd) k hq
    split at k
    · rename_i hg
      simp only [Region.wanted, hg, if_true]
      exact .inl (go ts ht k)
    · rename_i g want hg
      split at k
      · exact k.elim
      · rename_i s hs
        split at k
        · rename_i b hb
          obtain ⟨y, h1, h2⟩ := ht.get s _ hb
          simp only [Rel, RelV] at h2
          subst h2
          have hy : yielded all a.tmps g = some b := by
            have h1' : a.tmps[s]? = some (.bool b) := by simpa using h1
            simp only [yielded]
            rw [hs]
            simp [h1']
          have hset : ∀ b', b = b' → RelL M μ (ts.set s (.v (.bool b'))) a.tmps.toList := fun b' e => by
            subst e
            have : ts.set s (.v (.bool b)) = ts := by
              apply List.ext_getElem?
              intro i
              rw [List.getElem?_set]
              split
              · rename_i e; subst e
                split
                · exact hb.symm
                · rename_i hlt; rw [List.getElem?_eq_none (by omega)]
              · rfl
            rw [this]; exact ht
          by_cases e : b = want
          · have hw : Region.wanted o (yielded all a.tmps) = true := by simp [Region.wanted, hg, hy, e]
            rw [if_pos hw]
            exact .inl (go _ (hset want e) (k.1 e))
          · have hw : Region.wanted o (yielded all a.tmps) = false := by simp [Region.wanted, hg, hy, e]
            rw [hw]
            simp only [Bool.false_eq_true, if_false]
            have e2 : b = !want := by cases b <;> cases want <;> simp_all
            exact skip _ (hset _ e2) (k.2 e2)
        · rename_i hb
          obtain ⟨y, h1, h2⟩ := ht.get s _ hb
          simp only [Rel, RelL] at h2
          obtain ⟨vs, rfl, rfl⟩ := h2
          have hy : yielded all a.tmps g = none := by
            have h1' : a.tmps[s]? = some (.tuple #[]) := by simpa using h1
            simp only [yielded]
            rw [hs]
            simp [h1']
          have hw : Region.wanted o (yielded all a.tmps) = false := by simp [Region.wanted, hg, hy]
          rw [hw]
          simp only [Bool.false_eq_true, if_false]
          exact skip _ ht k
        · exact k.elim

/-! ### code -/
def Sat (E : Env) (c : Code) (ts : List D) (H : List Ob) (Q : Exit → List D → List Ob → Prop) : Prop :=
  ∀ (M : Mem) (μ : Mu) (w : World) (a : Act), E.M0.le M → E.μ0.le μ → R E M μ H w → RelL M μ ts a.tmps.toList → a.defers = [] →
    c.wp E.P (fun e a' w' => ∃ M' μ' ts' H', E.M0.le M' ∧ E.μ0.le μ' ∧ R E M' μ' H' w' ∧ RelL M' μ' ts' a'.tmps.toList ∧ a'.defers = [] ∧ Q e ts' H') a w

section
variable {E : Env} {ts : List D} {H : List Ob} {Q : Exit → List D → List Ob → Prop}

theorem Sat.mono {c : Code} {Q' : Exit → List D → List Ob → Prop} (h : Sat E c ts H Q) (k : ∀ e ts H, Q e ts H → Q' e ts H) : Sat E c ts H Q' :=
  fun M μ w a h1 h2 h3 h4 h5 => wp_mono (h M μ w a h1 h2 h3 h4 h5) fun e a' w' ⟨M', μ', ts', H', g1, g2, g3, g4, g5, g6⟩ => ⟨M', μ', ts', H', g1, g2, g3, g4, g5, k _ _ _ g6⟩
theorem sat_skip (h : Q .normal ts H) : Sat E .skip ts H Q := fun M μ w a h1 h2 h3 h4 h5 => wp_skip ⟨M, μ, ts, H, h1, h2, h3, h4, h5, h⟩
theorem sat_label {l : Nat} (h : Q .normal ts H) : Sat E (.label l) ts H Q := fun M μ w a h1 h2 h3 h4 h5 => wp_label ⟨M, μ, ts, H, h1, h2, h3, h4, h5, h⟩
theorem sat_exit {id : Nat} (h : Q (.exit id) ts H) : Sat E (.exit id) ts H Q := fun M μ w a h1 h2 h3 h4 h5 => wp_exit ⟨M, μ, ts, H, h1, h2, h3, h4, h5, h⟩
theorem sat_ret (h : Q .ret ts H) : Sat E .ret ts H Q := fun M μ w a h1 h2 h3 h4 h5 => wp_ret ⟨M, μ, ts, H, h1, h2, h3, h4, h5, h⟩

/-- What comes behind a piece of code. -/
def Th (next : List D → List Ob → Prop) (Q : Exit → List D → List Ob → Prop) : Exit → List D → List Ob → Prop
  | .normal, ts, H => next ts H
  | e, ts, H => Q e ts H

theorem sat_seq {x y : Code} (h : ∀ K : List D → List Ob → Prop, (∀ ts H, Sat E y ts H Q → K ts H) → Sat E x ts H (Th K Q)) : Sat E (.seq x y) ts H Q := by
  intro M μ w a h1 h2 h3 h4 h5
  refine wp_seq (wp_mono (h (fun ts H => Sat E y ts H Q) (fun _ _ h => h) M μ w a h1 h2 h3 h4 h5) ?_)
  rintro e a' w' ⟨M', μ', ts', H', g1, g2, g3, g4, g5, g6⟩
  cases e with
  | normal => exact g6 M' μ' w' a' g1 g2 g3 g4 g5
  | _ => exact ⟨M', μ', ts', H', g1, g2, g3, g4, g5, g6⟩
theorem sat_cond {c : Operand} {x y : Code} {b : Bool} (hc : ev E ts c = .v (.bool b)) (ht : b = true → Sat E x ts H Q) (hf : b = false → Sat E y ts H Q) : Sat E (.cond c x y) ts H Q := by
  intro M μ w a h1 h2 h3 h4 h5
  have hr := rel_ev h3 h4 c
  rw [hc] at hr
  simp only [Rel, RelV] at hr
  refine wp_cond hr ?_
  cases b
  · exact hf rfl M μ w a h1 h2 h3 h4 h5
  · exact ht rfl M μ w a h1 h2 h3 h4 h5
def Bl (id : Nat) (Q : Exit → List D → List Ob → Prop) : Exit → List D → List Ob → Prop
  | .exit id', ts, H => if id' = id then Q .normal ts H else Q (.exit id') ts H
  | e, ts, H => Q e ts H
theorem sat_block {id : Nat} {c : Code} (h : Sat E c ts H (Bl id Q)) : Sat E (.block id c) ts H Q := by
  intro M μ w a h1 h2 h3 h4 h5
  refine wp_block (wp_mono (h M μ w a h1 h2 h3 h4 h5) ?_)
  rintro e a' w' ⟨M', μ', ts', H', g1, g2, g3, g4, g5, g6⟩
  cases e with
  | exit id' =>
    simp only [Exit.inBlock, Bl] at g6 ⊢
    split
    · rename_i e; rw [if_pos e] at g6; exact ⟨M', μ', ts', H', g1, g2, g3, g4, g5, g6⟩
    · rename_i e; rw [if_neg e] at g6; exact ⟨M', μ', ts', H', g1, g2, g3, g4, g5, g6⟩
  | _ => exact ⟨M', μ', ts', H', g1, g2, g3, g4, g5, g6⟩
theorem wp_loop_n {P : Program} {c : Code} {Q : Exit → Act → World → Prop} (J : Nat → Act → World → Prop)
    (round : ∀ n a w, J n a w → c.wp P (Exit.then (fun a' w' => ∃ m, m < n ∧ J m a' w') Q) a w) : ∀ n a w, J n a w → (Code.loop c).wp P Q a w := by
  intro n a w hJ b k cs
  have key : ∀ n a w, J n a w → ∃ e a' w', Q e a' w' ∧ Arrives P (lone (b.at a (.code c :: .inLoop c :: k)) cs w) b k cs e a' w' := by
    intro n
    induction n using Nat.strongRecOn with
    | _ n ih =>
      intro a w hI
      obtain ⟨e, a₁, w₁, hq, harr⟩ := round n a w hI b (.inLoop c :: k) cs
      cases e with
      | normal =>
        obtain ⟨m, hlt, hI₁⟩ := hq
        obtain ⟨e₂, a₂, w₂, hq₂, harr₂⟩ := ih m hlt a₁ w₁ hI₁
        exact ⟨e₂, a₂, w₂, hq₂, .of_steps (Steps.trans harr (.one step_inLoop)) harr₂⟩
      | exit id => exact ⟨_, a₁, w₁, hq, .pass (x := .inLoop c) rfl (fun _ _ => .inl (by simp)) harr⟩
      | goto l => exact ⟨_, a₁, w₁, hq, .pass (x := .inLoop c) rfl (fun _ _ => .inl (by simp)) harr⟩
      | ret => exact ⟨_, a₁, w₁, hq, .pass (x := .inLoop c) rfl (fun _ _ => .inl (by simp)) harr⟩
      | panic ch => exact ⟨_, a₁, w₁, hq, .pass (x := .inLoop c) rfl (fun _ _ => .inl (by simp)) harr⟩
      | outgrown => exact ⟨_, a₁, w₁, hq, .pass (x := .inLoop c) rfl (fun _ _ => .inl (by simp)) harr⟩
  obtain ⟨e, a', w', hq, harr⟩ := key n a w hJ
  exact ⟨e, a', w', hq, .of_steps (.one step_loop) harr⟩
/-- A loop: at each round's head the invariant holds of some number; a round goes on with a lesser one. -/
theorem sat_loop {c : Code} (I : Nat → List D → List Ob → Prop) (n : Nat) (h0 : I n ts H) (hr : ∀ n ts H, I n ts H → Sat E c ts H (Th (fun ts' H' => ∃ m, m < n ∧ I m ts' H') Q)) : Sat E (.loop c) ts H Q := by
  intro M μ w a h1 h2 h3 h4 h5
  refine wp_loop_n (fun n a w => ∃ M μ ts H, E.M0.le M ∧ E.μ0.le μ ∧ R E M μ H w ∧ RelL M μ ts a.tmps.toList ∧ a.defers = [] ∧ I n ts H) ?_ n a w ⟨M, μ, ts, H, h1, h2, h3, h4, h5, h0⟩
  rintro n a w ⟨M, μ, ts, H, g1, g2, g3, g4, g5, g6⟩
  refine wp_mono (hr _ ts H g6 M μ w a g1 g2 g3 g4 g5) ?_
  rintro e a' w' ⟨M', μ', ts', H', k1, k2, k3, k4, k5, k6⟩
  cases e with
  | normal =>
    obtain ⟨q, hq, hI⟩ := k6
    exact ⟨q, hq, M', μ', ts', H', k1, k2, k3, k4, k5, hI⟩
  | _ => exact ⟨M', μ', ts', H', k1, k2, k3, k4, k5, k6⟩
theorem sat_region {id : Nat} {l : List Oper} (h : aops E l.toArray l ts H fun ts' H' => Q .normal ts' H') : Sat E (.region id l.toArray false) ts H Q := by
  intro M μ w a h1 h2 h3 h4 h5
  refine wp_region_lit (aops_sound l M μ ts H w a _ h3 h4 h5 h ?_)
  intro M' μ' ts' H' w' a' g1 g2 g3 g4 g5 g6
  exact ⟨M', μ', ts', H', h1.trans g1, h2.trans g2, g3, g4, g5, g6⟩
end

end Go.Ag
