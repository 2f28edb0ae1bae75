/- AGo, part 14: regions whose order is drawn (after the kit's Derived/StillTail.lean and Deep/Quiet.lean, on abstract frames). -/
import Derived.Test.YtbiajjcolfhioaaDoorAgMono
import Derived.StillTail
set_option linter.all false
namespace Go.Ag
open Go Go.RowKit

theorem ev_putD {E : Env} {ts : List D} {dst : Option Tmp} {d : D} {x : Operand} (h : ∀ s, dst = some s → x ≠ .tmp s) : ev E (putD ts dst d) x = ev E ts x := by
  cases dst with
  | none => rfl
  | some s =>
    cases x with
    | tmp t =>
      have hne : s ≠ t := fun e => h s rfl (by rw [e])
      simp only [ev, putD, List.getD_eq_getElem?_getD, List.getElem?_set_ne hne]
    | _ => rfl

theorem map_congr_ev {E : Env} {ts ts' : List D} {xs : List Operand} (h : ∀ x ∈ xs, ev E ts x = ev E ts' x) : xs.map (ev E ts) = xs.map (ev E ts') := List.map_congr_left h

theorem aCall_congr {E : Env} {c : Call} {ts ts' : List D} {H : List Ob} {K : D → List Ob → Prop} (h : ∀ x ∈ c.operands.toList, ev E ts x = ev E ts' x) : aCall E c (ev E ts) H K = aCall E c (ev E ts') H K := by
  obtain ⟨callee, args, argTypes⟩ := c
  have hargs : args.toList.map (ev E ts) = args.toList.map (ev E ts') := map_congr_ev fun x hx => h x (by simp only [Call.operands, Array.toList_append, List.mem_append]; exact .inr hx)
  have harg : ∀ x ∈ args.toList, ev E ts x = ev E ts' x := fun x hx => h x (by simp only [Call.operands, Array.toList_append, List.mem_append]; exact .inr hx)
  unfold aCall
  cases callee with
  | value f =>
    have hf : ev E ts f = ev E ts' f := h f (by simp [Call.operands])
    simp only [hf, hargs]
  | invoke r m => rfl
  | builtin b =>
    cases b <;> simp only []
    case append =>
      split
      · rename_i s x t t2 h1 h2
        rw [harg s (by rw [h1]; simp), harg x (by rw [h1]; simp)]
      · rfl
    case len =>
      split
      · rename_i x t h1 h2
        rw [harg x (by rw [h1]; simp)]
      · rfl
    case max =>
      split
      · rename_i x y h1
        rw [harg x (by rw [h1]; simp), harg y (by rw [h1]; simp)]
      · rfl
    case min =>
      split
      · rename_i x y h1
        rw [harg x (by rw [h1]; simp), harg y (by rw [h1]; simp)]
      · rfl

theorem aop_congr {E : Env} {o : Oper} {ts ts' : List D} {H : List Ob} {K : D → List Ob → Prop} (h : ∀ x ∈ o.op.operands.toList, ev E ts x = ev E ts' x) : aop E o ts H K = aop E o ts' H K := by
  unfold aop
  cases hop : o.op <;> simp only [hop, Op.operands] at h ⊢
  case move x => rw [h x (by simp)]
  case assign x => rw [h x (by simp)]
  case pick c a b => rw [h c (by simp), h a (by simp), h b (by simp)]
  case box t x => rw [h x (by simp)]
  case build t parts =>
    have : (parts.toList.map fun p => (p.1, ev E ts p.2)) = (parts.toList.map fun p => (p.1, ev E ts' p.2)) := List.map_congr_left fun p hp => by rw [h p.2 (by simp only [List.toList_toArray, List.mem_map]; exact ⟨p, hp, rfl⟩)]
    rw [this]
  case buildSlice t n parts =>
    have : (parts.toList.map fun p => (p.1, ev E ts p.2)) = (parts.toList.map fun p => (p.1, ev E ts' p.2)) := List.map_congr_left fun p hp => by rw [h p.2 (by simp only [List.toList_toArray, List.mem_map]; exact ⟨p, hp, rfl⟩)]
    rw [this]
  case load t x => rw [h x (by simp)]
  case store t x y => rw [h x (by simp), h y (by simp)]
  case nilCheck x => rw [h x (by simp)]
  case binOp op t x y ty => rw [h x (by simp), h y (by simp)]
  case unOp op t x => rw [h x (by simp)]
  case convert s t x => rw [h x (by simp)]
  case makeFunc fn first caps =>
    have : caps.toList.map (ev E ts) = caps.toList.map (ev E ts') := map_congr_ev fun x hx => h x (by simp only [Array.toList_append, List.mem_append]; exact .inr hx)
    rw [this]
  case makeMap t r =>
    cases r with
    | none => rfl
    | some x => simp only [Option.map_some]; rw [h x (by simp)]
  case makeSlice t l c => rw [h l (by simp), h c (by simp)]
  case slice t x lo hi mx =>
    have h1 : ev E ts x = ev E ts' x := h x (by simp)
    have h2 : lo.map (ev E ts) = lo.map (ev E ts') := by cases lo with
      | none => rfl
      | some y => simp only [Option.map_some]; rw [h y (by simp)]
    have h3 : hi.map (ev E ts) = hi.map (ev E ts') := by cases hi with
      | none => rfl
      | some y => simp only [Option.map_some]; rw [h y (by simp)]
    rw [h1, h2, h3]
  case fieldAddr s x f => rw [h x (by simp)]
  case indexAddr t x i => rw [h x (by simp), h i (by simp)]
  case index t x i => rw [h x (by simp), h i (by simp)]
  case extract x i => rw [h x (by simp)]
  case call c => exact aCall_congr h

/-! ### quiet operations -/
def gval (all : Array Oper) (ts : List D) (g : Nat) : Option (Option Bool) :=
  match (all[g]?).bind (·.dst) with
  | none => some none
  | some s => match ts[s]? with
    | none => some none
    | some (.v (.bool b)) => some (some b)
    | some (.tup []) => some none
    | _ => none
theorem gval_sound {all : Array Oper} {M : Mem} {μ : Mu} {ts : List D} {a : Act} (ht : RelL M μ ts a.tmps.toList) {g : Nat} {r : Option Bool} (h : gval all ts g = some r) : yielded all a.tmps g = r := by
  unfold gval at h
  unfold yielded
  cases hs : (all[g]?).bind (·.dst) with
  | none => simp [hs] at h; subst h; simp
  | some s =>
    simp only [hs] at h
    cases hts : ts[s]? with
    | none =>
      simp only [hts] at h; cases h
      have hl := ht.length
      have : ts.length ≤ s := List.getElem?_eq_none_iff.1 hts
      have h2 : a.tmps[s]? = none := by
        rw [Array.getElem?_eq_none_iff]
        have : a.tmps.toList.length = a.tmps.size := Array.length_toList
        omega
      simp [h2]
    | some d =>
      obtain ⟨y, h1, h2⟩ := ht.get s d hts
      have h3 : a.tmps[s]? = some y := by simpa using h1
      simp only [hts] at h
      split at h
      · rename_i hh; cases hh
      · rename_i hh; cases hh; cases h
        simp only [Rel, RelV] at h2; subst h2
        simp [h3]
      · rename_i hh; cases hh; cases h
        simp only [Rel, RelL] at h2
        obtain ⟨vs, rfl, rfl⟩ := h2
        simp [h3]
      · cases h
theorem gval_putD {all : Array Oper} {ts : List D} {g : Nat} {dst : Option Tmp} {d : D} (h : ∀ s, dst = some s → (all[g]?).bind (·.dst) ≠ some s) : gval all (putD ts dst d) g = gval all ts g := by
  unfold gval
  cases hs : (all[g]?).bind (·.dst) with
  | none => rfl
  | some s =>
    cases dst with
    | none => rfl
    | some q =>
      have hne : q ≠ s := fun e => h q rfl (by rw [e]; exact hs)
      simp only [putD, List.getElem?_set_ne hne]

/-- In this frame, over this heap, the operation yields d and leaves the heap. -/
def Yd (E : Env) (all : Array Oper) (H : List Ob) (o : Oper) (d : D) (ts : List D) : Prop :=
  match o.guard with
  | none => aop E o ts H fun d' H' => d' = d ∧ H' = H
  | some (g, want) => match gval all ts g with
    | some (some b) => if b = want then aop E o ts H fun d' H' => d' = d ∧ H' = H else d = .tup []
    | some none => d = .tup []
    | none => False

def qOp (E : Env) (all : Array Oper) (H : List Ob) (i : Nat) (K : List D → Prop) (ts : List D) : Prop :=
  match all[i]? with
  | none => K ts
  | some o => ∃ d, Yd E all H o d ts ∧ K (putD ts o.dst d)

theorem qOp_mono {E : Env} {all : Array Oper} {H : List Ob} {i : Nat} {K K' : List D → Prop} {ts : List D} (h : ∀ ts, K ts → K' ts) (hh : qOp E all H i K ts) : qOp E all H i K' ts := by
  unfold qOp at *
  split
  · exact h _ (by simpa [*] using hh)
  · rename_i o ho
    simp only [ho] at hh
    obtain ⟨d, h1, h2⟩ := hh
    exact ⟨d, h1, h _ h2⟩

theorem wpOp_of_q {E : Env} {all : Array Oper} {M : Mem} {μ : Mu} {H : List Ob} {w : World} {a : Act} {ts : List D} {i : Nat} {K : List D → Prop} {next : Act → World → Prop} {Qx : Exit → Act → World → Prop}
    (h : R E M μ H w) (ht : RelL M μ ts a.tmps.toList) (hd : a.defers = []) (hq : qOp E all H i K ts)
    (hn : ∀ M' μ' ts' w' a', M.le M' → μ.le μ' → R E M' μ' H w' → RelL M' μ' ts' a'.tmps.toList → a'.defers = [] → K ts' → next a' w') : wpOp E.P all Qx i next a w := by
  unfold qOp at hq
  unfold wpOp
  split
  · rename_i ho; simp only [ho] at hq; exact hn M μ ts w a (.refl _) (.refl _) h ht hd hq
  · rename_i o ho
    simp only [ho] at hq
    obtain ⟨d, hy, hk⟩ := hq
    have run : aop E o ts H (fun d' H' => d' = d ∧ H' = H) → o.wp E.P a w next Qx := fun k =>
      aop_sound h ht k fun d' v M' μ' H' w' h1 h2 h3 h4 h5 => by
        obtain ⟨rfl, rfl⟩ := h5
        exact hn M' μ' _ w' _ h1 h2 h3 (rel_put (RelL.mono h1 h2 ht) o.dst h4) (by rw [put_defers]; exact hd) hk
    have skip : d = .tup [] → next (a.put o.dst undef) w := fun e => by
      subst e
      exact hn M μ _ w _ (.refl _) (.refl _) h (rel_put ht o.dst (by simp only [Rel, RelL]; exact ⟨[], rfl, rfl⟩)) (by rw [put_defers]; exact hd) hk
    unfold Yd at hy
    cases hg : o.guard with
    | none =>
      simp only [hg] at hy
      simp only [Region.wanted, hg, if_true]
      exact .inl (run hy)
    | some gw =>
      obtain ⟨g, want⟩ := gw
      simp only [hg] at hy
      cases hv : gval all ts g with
      | none => simp [hv] at hy
      | some r =>
        have hyl := gval_sound ht hv
        simp only [hv] at hy
        cases r with
        | none =>
          have hw : Region.wanted o (yielded all a.tmps) = false := by simp [Region.wanted, hg, hyl]
          rw [hw]; simp only [Bool.false_eq_true, if_false]
          exact skip hy
        | some b =>
          simp only at hy
          by_cases e : b = want
          · have hw : Region.wanted o (yielded all a.tmps) = true := by simp [Region.wanted, hg, hyl, e]
            rw [if_pos e] at hy
            rw [if_pos hw]
            exact .inl (run hy)
          · have hw : Region.wanted o (yielded all a.tmps) = false := by simp [Region.wanted, hg, hyl, e]
            rw [if_neg e] at hy
            rw [hw]; simp only [Bool.false_eq_true, if_false]
            exact skip hy

section
variable {E : Env} {all : Array Oper} {H : List Ob}

theorem Yd_putD {o : Oper} {d e : D} {ts : List D} {dst : Option Tmp} (h : ∀ s, dst = some s → s ∉ o.looksAt all) : Yd E all H o d (putD ts dst e) = Yd E all H o d ts := by
  have h1 : ∀ s, dst = some s → ∀ x ∈ o.op.operands.toList, x ≠ .tmp s := fun s hs x hx ex => by
    refine h s hs ?_
    subst ex
    simp only [Oper.looksAt, List.mem_append, List.mem_filterMap]
    exact .inl ⟨_, hx, rfl⟩
  have ha : ∀ K, aop E o (putD ts dst e) H K = aop E o ts H K := fun K => aop_congr fun x hx => ev_putD fun s hs => h1 s hs x hx
  unfold Yd
  cases hg : o.guard with
  | none => simp only [ha]
  | some gw =>
    obtain ⟨g, want⟩ := gw
    have h2 : gval all (putD ts dst e) g = gval all ts g := gval_putD fun s hs ex => h s hs (by simp [Oper.looksAt, hg, ex])
    simp only [ha, h2]
theorem putD_comm {ts : List D} {a b : Option Tmp} {x y : D} (h : ∀ s, a = some s → b ≠ some s) : putD (putD ts a x) b y = putD (putD ts b y) a x := by
  cases a with
  | none => rfl
  | some s =>
    cases b with
    | none => rfl
    | some q =>
      have hne : s ≠ q := fun e => h s rfl (by rw [e])
      simp only [putD]
      exact List.set_comm _ _ hne

theorem qOp_put {j : Nat} {oi oj : Oper} {v : D} (hj : all[j]? = some oj) (hap : oi.apart all oj = true) {K : List D → Prop} {ts : List D} (hy : Yd E all H oi v ts) (h : qOp E all H j K (putD ts oi.dst v)) :
    qOp E all H j (fun ts' => Yd E all H oi v ts' ∧ K (putD ts' oi.dst v)) ts := by
  obtain ⟨h1, h2, h3⟩ := Oper.apart_spec hap
  unfold qOp at *
  simp only [hj] at *
  obtain ⟨d, g1, g2⟩ := h
  rw [Yd_putD h1] at g1
  refine ⟨d, g1, by rw [Yd_putD h3]; exact hy, ?_⟩
  rw [putD_comm (fun s hs => h2 s hs)] at g2
  exact g2

def qAnyL (E : Env) (md : Region.Mode) (all : Array Oper) (H : List Ob) (n : Nat) (L : Array Bool → List D → Prop) : Nat → Array Bool → List D → Prop
  | 0, listed, ts => L listed ts
  | f + 1, listed, ts => Region.ready md all listed ≠ [] ∧ ∀ i ∈ Region.ready md all listed, i < n ∧ qOp E all H i (qAnyL E md all H n L f (listed.setIfInBounds i true)) ts

variable {md : Region.Mode}

theorem wpAny_of_q {n g : Nat} {L : Array Bool → List D → Prop} {Q' : Exit → Act → World → Prop} {M0 : Mem} {μ0 : Mu}
    (hL : ∀ listed ts M μ w a, M0.le M → μ0.le μ → R E M μ H w → RelL M μ ts a.tmps.toList → a.defers = [] → L listed ts → wpAny E.P md all Q' g listed a w) :
    ∀ (f : Nat) (listed : Array Bool) (ts : List D) (M : Mem) (μ : Mu) (w : World) (a : Act), M0.le M → μ0.le μ → R E M μ H w → RelL M μ ts a.tmps.toList → a.defers = [] → qAnyL E md all H n L f listed ts → wpAny E.P md all Q' (f + g) listed a w
  | 0, listed, ts, M, μ, w, a, h1, h2, h3, h4, h5, h => by rw [Nat.zero_add]; exact hL _ _ _ _ _ _ h1 h2 h3 h4 h5 h
  | f + 1, listed, ts, M, μ, w, a, h1, h2, h3, h4, h5, h => by
    rw [show f + 1 + g = (f + g) + 1 by omega]
    exact ⟨fun h0 => absurd h0 h.1, fun i hi => wpOp_of_q h3 h4 h5 (h.2 i hi).2 fun M' μ' ts' w' a' g1 g2 g3 g4 g5 g6 => wpAny_of_q hL f _ ts' M' μ' w' a' (h1.trans g1) (h2.trans g2) g3 g4 g5 g6⟩

theorem qAnyL_first {n i : Nat} {oi : Oper} {v : D} {L : Array Bool → List D → Prop} (hi : all[i]? = some oi)
    (hlt : ∀ listed, HeadInv md all n listed → listed.getD i true = false → ∀ j ∈ Region.ready md all listed, j < n)
    (hdone : ∀ listed ts, L listed ts → ∀ j ∈ Region.ready md all listed, n ≤ j) :
    ∀ (f : Nat) (listed : Array Bool) (ts : List D), HeadInv md all n listed →
      (∀ j oj, all[j]? = some oj → j ≠ i → listed.getD j true = false → (∀ e ∈ oj.after, Region.binds md e = true → e.on ≠ i) → oi.apart all oj = true) →
      i ∈ Region.ready md all listed → Yd E all H oi v ts →
      qAnyL E md all H n L f (listed.setIfInBounds i true) (putD ts oi.dst v) → qAnyL E md all H n L (f + 1) listed ts := by
  have self : ∀ {ts : List D} {K : List D → Prop}, Yd E all H oi v ts → K (putD ts oi.dst v) → qOp E all H i K ts := fun hy hk => by
    unfold qOp; simp only [hi]; exact ⟨v, hy, hk⟩
  intro f
  induction f with
  | zero =>
    intro listed ts inv _ hr hy Hh
    have hun := (mem_ready.1 hr).1
    refine ⟨fun h => (by rw [h] at hr; cases hr), fun j hj => ?_⟩
    have hjn : j < n := hlt listed inv hun j hj
    refine ⟨hjn, ?_⟩
    by_cases hji : j = i
    · subst hji; exact self hy Hh
    · have := hdone _ _ Hh j (ready_mono hj hji)
      omega
  | succ f ih =>
    intro listed ts inv hfree hr hy Hh
    have hun := (mem_ready.1 hr).1
    refine ⟨fun h => (by rw [h] at hr; cases hr), fun j hj => ?_⟩
    have hjn : j < n := hlt listed inv hun j hj
    refine ⟨hjn, ?_⟩
    by_cases hji : j = i
    · subst hji; exact self hy Hh
    · have h1 := (Hh.2 j (ready_mono hj hji)).2
      obtain ⟨hjun, oj, hoj, hall⟩ := mem_ready.1 hj
      have hnot : ∀ e ∈ oj.after, Region.binds md e = true → e.on ≠ i := fun e he hb heq => by
        have h1 := hall e he hb
        rw [heq, getD_both hun] at h1
        cases h1
      have h2 := qOp_put hoj (hfree j oj hoj hji hjun hnot) hy h1
      have hfree' : ∀ k ok, all[k]? = some ok → k ≠ i → (listed.setIfInBounds j true).getD k true = false →
          (∀ e ∈ ok.after, Region.binds md e = true → e.on ≠ i) → oi.apart all ok = true := fun k ok hk hki hun hno => by
        refine hfree k ok hk hki ?_ hno
        by_cases hjk : j = k
        · subst hjk; exact hjun
        · rw [getD_set_ne true hjk] at hun; exact hun
      refine qOp_mono (fun ts' h3 => ih (listed.setIfInBounds j true) ts' (inv.set hj hjn) hfree' (ready_mono hr (Ne.symm hji)) h3.1 ?_) h2
      rw [Array.setIfInBounds_comm _ _ hji]
      exact h3.2
end

/-- There is a value. -/
def Ex (A B : D → Prop) : Prop := ∃ d, A d ∧ B d
/-- The quiet operations, in the text's order. -/
def qops (E : Env) (all : Array Oper) (H : List Ob) : List Oper → List D → (List D → Prop) → Prop
  | [], ts, Q => Q ts
  | o :: os, ts, Q => match o.guard with
    | none => Ex (fun d => aop E o ts H fun d' H' => d' = d ∧ H' = H) (fun d => qops E all H os (putD ts o.dst d) Q)
    | some (g, want) => (match (all[g]?).bind (·.dst) with
      | none => False
      | some s => (match ts[s]? with
        | some (.v (.bool b)) => Gd b want
          (Ex (fun d => aop E o (ts.set s (.v (.bool want))) H fun d' H' => d' = d ∧ H' = H) (fun d => qops E all H os (putD (ts.set s (.v (.bool want))) o.dst d) Q))
          (qops E all H os (putD (ts.set s (.v (.bool !want))) o.dst (.tup [])) Q)
        | some (.tup []) => qops E all H os (putD ts o.dst (.tup [])) Q
        | _ => False))

theorem qops_step {E : Env} {all : Array Oper} {H : List Ob} {o : Oper} {os : List Oper} {ts : List D} {Q : List D → Prop} (k : qops E all H (o :: os) ts Q) : ∃ d, Yd E all H o d ts ∧ qops E all H os (putD ts o.dst d) Q := by
  simp only [qops] at k
  unfold Yd
  cases hg : o.guard with
  | none => simp only [hg] at k ⊢; exact k
  | some gw =>
    obtain ⟨g, want⟩ := gw
    simp only [hg] at k ⊢
    cases hs : (all[g]?).bind (·.dst) with
    | none => simp only [hs] at k
    | some s =>
      simp only [hs] at k
      cases hts : ts[s]? with
      | none => simp only [hts] at k
      | some d =>
        simp only [hts] at k
        have same : ∀ d', d = d' → ts.set s d' = ts := fun d' e => by
          subst e
          apply List.ext_getElem?
          intro i
          rw [List.getElem?_set]
          split
          · rename_i e; subst e
            split
            · exact hts.symm
            · rename_i hlt; rw [List.getElem?_eq_none (by omega)]
          · rfl
        split at k
        · rename_i b hb
          cases hb
          have hv : gval all ts g = some (some b) := by simp [gval, hs, hts]
          simp only [hv]
          by_cases e : b = want
          · obtain ⟨d, k1, k2⟩ := k.1 e
            rw [same _ (by rw [e])] at k1 k2
            exact ⟨d, by rw [if_pos e]; exact k1, k2⟩
          · have e2 : b = !want := by cases b <;> cases want <;> simp_all
            have k2 := k.2 e2
            rw [same _ (by rw [e2])] at k2
            exact ⟨_, by rw [if_neg e], k2⟩
        · rename_i hb
          cases hb
          have hv : gval all ts g = some none := by simp [gval, hs, hts]
          simp only [hv]
          exact ⟨_, rfl, k⟩
        · exact k.elim

theorem qops_mono {E : Env} {all : Array Oper} {H : List Ob} {Q Q' : List D → Prop} (h : ∀ ts, Q ts → Q' ts) : ∀ (os : List Oper) (ts : List D), qops E all H os ts Q → qops E all H os ts Q'
  | [], ts, k => h ts k
  | o :: os, ts, k => by
    simp only [qops] at k ⊢
    split
    · rename_i hg; simp only [hg] at k
      obtain ⟨d, k1, k2⟩ := k
      exact ⟨d, k1, qops_mono h os _ k2⟩
    · rename_i g want hg; simp only [hg] at k
      split
      · rename_i hs; simp only [hs] at k
      · rename_i s hs; simp only [hs] at k
        split
        · rename_i b hb; simp only [hb] at k
          refine ⟨fun e => ?_, fun e => qops_mono h os _ (k.2 e)⟩
          obtain ⟨d, k1, k2⟩ := k.1 e
          exact ⟨d, k1, qops_mono h os _ k2⟩
        · rename_i hb; simp only [hb] at k; exact qops_mono h os _ k
        · rename_i h1 h2
          split at k
          · rename_i b hb; exact absurd hb (h1 b)
          · rename_i hb; exact absurd hb h2
          · exact k

theorem qAnyL_lex {E : Env} {all : Array Oper} {H : List Ob} {md : Region.Mode} {n : Nat} {Lq : List D → Prop} {L : Array Bool → List D → Prop} (good : Nat → Array Bool → Bool)
    (hlt : ∀ i, i < n → ∀ listed, HeadInv md all n listed → listed.getD i true = false → ∀ j ∈ Region.ready md all listed, j < n)
    (hdone : ∀ listed ts, L listed ts → ∀ j ∈ Region.ready md all listed, n ≤ j)
    (hgood : ∀ k listed, k < n → good k listed = true → k ∈ Region.ready md all listed ∧ Region.free md all listed k = true ∧ good (k + 1) (listed.setIfInBounds k true) = true)
    (hend : ∀ listed ts, good n listed = true → Lq ts → L listed ts) :
    ∀ (l : List Oper) (k : Nat) (listed : Array Bool) (ts : List D), (∀ j, j < l.length → l[j]? = all[k + j]?) → k + l.length = n → HeadInv md all n listed →
    good k listed = true → qops E all H l ts Lq → qAnyL E md all H n L l.length listed ts
  | [], k, listed, ts, _, hk, _, hB, h => by
    have : k = n := by simpa using hk
    subst this
    exact hend listed ts hB h
  | o :: l, k, listed, ts, hl, hk, inv, hB, h => by
    have h0 : all[k]? = some o := by simpa using (hl 0 (by simp)).symm
    have hkn : k < n := by simp only [List.length_cons] at hk; omega
    obtain ⟨hr, hf, hB'⟩ := hgood k listed hkn hB
    obtain ⟨d, hy, hK⟩ := qops_step h
    exact qAnyL_first h0 (hlt k hkn) hdone l.length listed ts inv (Region.free_spec h0 hf) hr hy
      (qAnyL_lex good hlt hdone hgood hend l (k + 1) _ _ (fun j hj => by have := hl (j + 1) (by simp; omega); simpa [Nat.add_assoc, Nat.add_comm 1 j] using this) (by simp only [List.length_cons] at hk; omega) (inv.set hr hkn) hB' hK)

theorem HeadInv.start {md : Region.Mode} {all : Array Oper} (n : Nat) : HeadInv md all n (Array.replicate all.size false) :=
  ⟨by simp, fun j oj _ hl => (by rw [getD_replicate_false] at hl; cases hl), fun t _ ht => getD_in (by simpa using ht) (getD_replicate_false _ _)⟩

theorem lexFrom_good {md : Region.Mode} {all : Array Oper} {k : Nat} {listed : Array Bool} (hk : k < all.size) (h : Region.lexFrom md all (all.size - k) k listed = true) :
    k ∈ Region.ready md all listed ∧ Region.free md all listed k = true ∧ Region.lexFrom md all (all.size - (k + 1)) (k + 1) (listed.setIfInBounds k true) = true := by
  rw [show all.size - k = (all.size - (k + 1)) + 1 from by omega] at h
  simp only [Region.lexFrom, Bool.and_eq_true] at h
  exact ⟨by simpa using h.1.1, h.1.2, h.2⟩

/-- A region that draws its order, of quiet operations alone. -/
theorem sat_quiet {E : Env} {ts : List D} {H : List Ob} {Q : Exit → List D → List Ob → Prop} {id : Nat} {l : List Oper} (hm : E.P.follows .mixedOrders = true) (hB : Region.lexB .any l.toArray = true)
    (h : qops E l.toArray H l ts fun ts' => Q .normal ts' H) : Sat E (.region id l.toArray true) ts H Q := by
  intro M μ w a h1 h2 h3 h4 h5
  simp only [Region.lexB, Bool.and_eq_true] at hB
  refine wp_region_any hm ?_
  have hq := qAnyL_lex (E := E) (H := H) (md := .any) (all := l.toArray) (n := l.toArray.size) (Lq := fun ts' => Q .normal ts' H) (L := fun listed ts' => Region.ready .any l.toArray listed = [] ∧ Q .normal ts' H)
    (fun k listed => Region.lexFrom .any l.toArray (l.toArray.size - k) k listed)
    (fun i _ listed _ _ j hj => by obtain ⟨_, oj, hoj, _⟩ := mem_ready.1 hj; exact (Array.getElem?_eq_some_iff.1 hoj).1)
    (fun listed ts hL j hj => by rw [hL.1] at hj; cases hj)
    (fun k listed hk hg => lexFrom_good hk hg)
    (fun listed ts hg hL => ⟨by simpa [Region.lexFrom] using hg, hL⟩)
    l 0 (Array.replicate l.toArray.size false) ts (fun j _ => by simp) (by simp) (HeadInv.start _) (by simpa using hB.2) h
  have := wpAny_of_q (E := E) (H := H) (md := .any) (all := l.toArray) (n := l.toArray.size) (g := 0) (M0 := M) (μ0 := μ)
    (Q' := fun e a' w' => ∃ M' μ' ts' H', E.M0.le M' ∧ E.μ0.le μ' ∧ R E M' μ' H' w' ∧ RelL M' μ' ts' a'.tmps.toList ∧ a'.defers = [] ∧ Q e ts' H')
    (fun listed ts' M' μ' w' a' g1 g2 g3 g4 g5 hL => ⟨hL.1, M', μ', ts', H, h1.trans g1, h2.trans g2, g3, g4, g5, hL.2⟩)
    l.length (Array.replicate l.toArray.size false) ts M μ w.drew a (.refl _) (.refl _) h3.drew h4 h5 hq
  simpa using this

/-- A region that draws its order: quiet operations, then some in one order. -/
theorem sat_tail {E : Env} {ts : List D} {H : List Ob} {Q : Exit → List D → List Ob → Prop} {id : Nat} {l : List Oper} (n : Nat) (hm : E.P.follows .mixedOrders = true) (hB : Region.lexTailB .any l.toArray n = true)
    (h : qops E l.toArray H (l.take n) ts fun ts' => aops E l.toArray (l.drop n) ts' H fun ts2 H2 => Q .normal ts2 H2) : Sat E (.region id l.toArray true) ts H Q := by
  intro M μ w a h1 h2 h3 h4 h5
  simp only [Region.lexTailB, Bool.and_eq_true, decide_eq_true_eq] at hB
  obtain ⟨⟨⟨⟨_, hn⟩, hs⟩, hc⟩, hlex⟩ := hB
  have hn' : n < l.length := by simpa using hn
  have htl : (l.take n).length = n := by simp; omega
  have hdl : (l.drop n).length = l.toArray.size - n := by simp
  refine wp_region_any hm ?_
  have hq := qAnyL_lex (E := E) (H := H) (md := .any) (all := l.toArray) (n := n) (Lq := fun ts' => aops E l.toArray (l.drop n) ts' H fun ts2 H2 => Q .normal ts2 H2)
    (L := fun listed ts' => Region.seqB .any l.toArray (l.toArray.size - n) n listed = true ∧ aops E l.toArray (l.drop n) ts' H fun ts2 H2 => Q .normal ts2 H2)
    (fun k listed => Region.lexHead .any l.toArray (l.toArray.size - n) (n - k) k listed)
    (fun i hi listed inv hun j hj => by
      rcases Nat.lt_or_ge j n with h | h
      · exact h
      · exact absurd hj (tail_waits hs hc hn inv _ i rfl hi hun j h))
    (fun listed ts hL => seqB_ready hL.1)
    (fun k listed hk hg => by
      rw [show n - k = (n - (k + 1)) + 1 from by omega] at hg
      simp only [Region.lexHead, Bool.and_eq_true] at hg
      exact ⟨by simpa using hg.1.1, hg.1.2, hg.2⟩)
    (fun listed ts hg hL => ⟨by simpa [Region.lexHead] using hg, hL⟩)
    (l.take n) 0 (Array.replicate l.toArray.size false) ts (fun j hj => by rw [htl] at hj; simp [hj]) (by simpa using htl) (HeadInv.start _) (by simpa using hlex) h
  have := wpAny_of_q (E := E) (H := H) (md := .any) (all := l.toArray) (n := n) (g := l.toArray.size - n) (M0 := M) (μ0 := μ) (L := fun listed ts' => Region.seqB .any l.toArray (l.toArray.size - n) n listed = true ∧ aops E l.toArray (l.drop n) ts' H fun ts2 H2 => Q .normal ts2 H2)
    (Q' := fun e a' w' => ∃ M' μ' ts' H', E.M0.le M' ∧ E.μ0.le μ' ∧ R E M' μ' H' w' ∧ RelL M' μ' ts' a'.tmps.toList ∧ a'.defers = [] ∧ Q e ts' H')
    (fun listed ts' M' μ' w' a' g1 g2 g3 g4 g5 hL => by
      have := wpAny_of_seq (P := E.P) (md := .any) (ops := l.toArray) (l.drop n) n listed a' w' (Q' := fun e a' w' => ∃ M' μ' ts' H', E.M0.le M' ∧ E.μ0.le μ' ∧ R E M' μ' H' w' ∧ RelL M' μ' ts' a'.tmps.toList ∧ a'.defers = [] ∧ Q e ts' H')
        (fun j => by simp [List.getElem?_drop]) (by rw [hdl]; exact hL.1)
        (aops_sound (l.drop n) M' μ' ts' H w' a' _ g3 g4 g5 hL.2 fun M2 μ2 ts2 H2 w2 a2 k1 k2 k3 k4 k5 k6 => ⟨M2, μ2, ts2, H2, (h1.trans g1).trans k1, (h2.trans g2).trans k2, k3, k4, k5, k6⟩)
      rwa [hdl] at this)
    n (Array.replicate l.toArray.size false) ts M μ w.drew a (.refl _) (.refl _) h3.drew h4 h5 (by rw [htl] at hq; exact hq)
  rw [show n + (l.toArray.size - n) = l.toArray.size by omega] at this
  exact this

end Go.Ag
