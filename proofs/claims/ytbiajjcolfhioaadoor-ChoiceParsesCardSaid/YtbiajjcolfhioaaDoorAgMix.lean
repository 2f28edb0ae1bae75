/- AGo, part 21: regions whose order is drawn, where some operations change the heap, one after another. -/
import Derived.Test.YtbiajjcolfhioaaDoorAgFin
set_option linter.all false
namespace Go.Ag
open Go Go.RowKit

/-- Operations that change the heap. -/
def heavyB (o : Oper) : Bool := match o.op with
  | .alloc _ => true
  | .box _ _ => true
  | .store _ _ _ => true
  | .buildSlice _ _ _ => true
  | .makeMap _ _ => true
  | .makeSlice _ _ _ => true
  | .call c => match c.callee with
    | .builtin .append => true
    | _ => false
  | _ => false

section
variable {E : Env} {S : List Ob → Prop} {all : Array Oper}

/-- In this frame, over each heap that may be, the operation yields d and leaves the heap. -/
def Yf (E : Env) (S : List Ob → Prop) (all : Array Oper) (o : Oper) (d : D) (ts : List D) : Prop :=
  match o.guard with
  | none => ∀ H, S H → aop E o ts H fun d' H' => d' = d ∧ H' = H
  | some (g, want) => match gval all ts g with
    | some (some b) => if b = want then ∀ H, S H → aop E o ts H fun d' H' => d' = d ∧ H' = H else d = .tup []
    | some none => d = .tup []
    | none => False
theorem Yf.yd {o : Oper} {d : D} {ts : List D} {H : List Ob} (h : Yf E S all o d ts) (hs : S H) : Yd E all H o d ts := by
  unfold Yf at h
  unfold Yd
  cases hg : o.guard with
  | none => simp only [hg] at h ⊢; exact h H hs
  | some gw =>
    obtain ⟨g, want⟩ := gw
    simp only [hg] at h ⊢
    cases hv : gval all ts g with
    | none => simp [hv] at h
    | some r =>
      simp only [hv] at h ⊢
      cases r with
      | none => exact h
      | some b =>
        simp only at h ⊢
        split
        · rename_i e; rw [if_pos e] at h; exact h H hs
        · rename_i e; rw [if_neg e] at h; exact h
theorem Yf_putD {o : Oper} {d e : D} {ts : List D} {dst : Option Tmp} (h : ∀ s, dst = some s → s ∉ o.looksAt all) : Yf E S all o d (putD ts dst e) = Yf E S all o d ts := by
  have h1 : ∀ s, dst = some s → ∀ x ∈ o.op.operands.toList, x ≠ .tmp s := fun s hs x hx ex => by
    refine h s hs ?_
    subst ex
    simp only [Oper.looksAt, List.mem_append, List.mem_filterMap]
    exact .inl ⟨_, hx, rfl⟩
  have ha : ∀ H K, aop E o (putD ts dst e) H K = aop E o ts H K := fun H K => aop_congr fun x hx => ev_putD fun s hs => h1 s hs x hx
  unfold Yf
  cases hg : o.guard with
  | none => simp only [ha]
  | some gw =>
    obtain ⟨g, want⟩ := gw
    have h2 : gval all (putD ts dst e) g = gval all ts g := gval_putD fun s hs ex => h s hs (by simp [Oper.looksAt, hg, ex])
    simp only [ha, h2]

/-- One operation, quiet or not. -/
def hOp (E : Env) (S : List Ob → Prop) (all : Array Oper) (i : Nat) (K : List D → List Ob → Prop) (ts : List D) (H : List Ob) : Prop :=
  match all[i]? with
  | none => K ts H
  | some o => if heavyB o then o.guard = none ∧ aop E o ts H fun d H' => S H' ∧ K (putD ts o.dst d) H' else ∃ d, Yf E S all o d ts ∧ K (putD ts o.dst d) H
theorem hOp_mono {i : Nat} {K K' : List D → List Ob → Prop} {ts : List D} {H : List Ob} (h : ∀ ts H, K ts H → K' ts H) (hh : hOp E S all i K ts H) : hOp E S all i K' ts H := by
  unfold hOp at *
  split
  · rename_i ho; simp only [ho] at hh; exact h _ _ hh
  · rename_i o ho
    simp only [ho] at hh
    split
    · rename_i hv
      rw [if_pos hv] at hh
      exact ⟨hh.1, aop_mono (fun d H1 k => ⟨k.1, h _ _ k.2⟩) hh.2⟩
    · rename_i hv
      rw [if_neg hv] at hh
      obtain ⟨d, h1, h2⟩ := hh
      exact ⟨d, h1, h _ _ h2⟩

theorem wpOp_of_h {M : Mem} {μ : Mu} {H : List Ob} {w : World} {a : Act} {ts : List D} {i : Nat} {K : List D → List Ob → Prop} {next : Act → World → Prop} {Qx : Exit → Act → World → Prop}
    (h : R E M μ H w) (ht : RelL M μ ts a.tmps.toList) (hd : a.defers = []) (hS : S H) (hq : hOp E S all i K ts H)
    (hn : ∀ M' μ' ts' H' w' a', M.le M' → μ.le μ' → R E M' μ' H' w' → RelL M' μ' ts' a'.tmps.toList → a'.defers = [] → S H' → K ts' H' → next a' w') : wpOp E.P all Qx i next a w := by
  unfold hOp at hq
  cases ho : all[i]? with
  | none =>
    simp only [ho] at hq
    unfold wpOp; simp only [ho]
    exact hn M μ ts H w a (.refl _) (.refl _) h ht hd hS hq
  | some o =>
    simp only [ho] at hq
    split at hq
    · obtain ⟨hg, hq⟩ := hq
      unfold wpOp; simp only [ho]
      simp only [Region.wanted, hg, if_true]
      exact .inl (aop_sound h ht hq fun d v M' μ' H' w' h1 h2 h3 h4 h5 => hn M' μ' _ H' w' _ h1 h2 h3 (rel_put (RelL.mono h1 h2 ht) o.dst h4) (by rw [put_defers]; exact hd) h5.1 h5.2)
    · obtain ⟨d, hy, hk⟩ := hq
      refine wpOp_of_q (K := fun ts' => K ts' H) h ht hd ?_ (fun M' μ' ts' w' a' h1 h2 h3 h4 h5 hk => hn M' μ' ts' H w' a' h1 h2 h3 h4 h5 hS hk)
      unfold qOp
      simp only [ho]
      exact ⟨d, hy.yd hS, hk⟩

theorem hOp_put {j : Nat} {oi oj : Oper} {v : D} (hj : all[j]? = some oj) (hap : oi.apart all oj = true) {K : List D → List Ob → Prop} {ts : List D} {H : List Ob} (hy : Yf E S all oi v ts) (h : hOp E S all j K (putD ts oi.dst v) H) :
    hOp E S all j (fun ts' H' => Yf E S all oi v ts' ∧ K (putD ts' oi.dst v) H') ts H := by
  obtain ⟨h1, h2, h3⟩ := Oper.apart_spec hap
  unfold hOp at *
  simp only [hj] at *
  split
  · rename_i hv
    rw [if_pos hv] at h
    refine ⟨h.1, ?_⟩
    have h0 : ∀ s, oi.dst = some s → ∀ x ∈ oj.op.operands.toList, x ≠ .tmp s := fun s hs x hx ex => by
      refine h1 s hs ?_
      subst ex
      simp only [Oper.looksAt, List.mem_append, List.mem_filterMap]
      exact .inl ⟨_, hx, rfl⟩
    have h2' := h.2
    rw [aop_congr fun x hx => ev_putD fun s hs => h0 s hs x hx] at h2'
    refine aop_mono (fun d H1 k => ⟨k.1, by rw [Yf_putD h3]; exact hy, ?_⟩) h2'
    have k2 := k.2
    rw [putD_comm (fun s hs => h2 s hs)] at k2
    exact k2
  · rename_i hv
    rw [if_neg hv] at h
    obtain ⟨d, g1, g2⟩ := h
    rw [Yf_putD h1] at g1
    refine ⟨d, g1, by rw [Yf_putD h3]; exact hy, ?_⟩
    rw [putD_comm (fun s hs => h2 s hs)] at g2
    exact g2

def hAny (E : Env) (S : List Ob → Prop) (md : Region.Mode) (all : Array Oper) (L : List D → List Ob → Prop) : Nat → Array Bool → List D → List Ob → Prop
  | 0, listed, ts, H => Region.ready md all listed = [] ∧ L ts H
  | f + 1, listed, ts, H => Region.ready md all listed ≠ [] ∧ ∀ i ∈ Region.ready md all listed, hOp E S all i (hAny E S md all L f (listed.setIfInBounds i true)) ts H

variable {md : Region.Mode}

theorem wpAny_of_h {L : List D → List Ob → Prop} {Q' : Exit → Act → World → Prop} {M0 : Mem} {μ0 : Mu}
    (hL : ∀ ts H M μ w a, M0.le M → μ0.le μ → R E M μ H w → RelL M μ ts a.tmps.toList → a.defers = [] → L ts H → Q' .normal a w) :
    ∀ (f : Nat) (listed : Array Bool) (ts : List D) (H : List Ob) (M : Mem) (μ : Mu) (w : World) (a : Act), M0.le M → μ0.le μ → R E M μ H w → RelL M μ ts a.tmps.toList → a.defers = [] → S H → hAny E S md all L f listed ts H → wpAny E.P md all Q' f listed a w
  | 0, listed, ts, H, M, μ, w, a, h1, h2, h3, h4, h5, _, h => ⟨h.1, hL _ _ _ _ _ _ h1 h2 h3 h4 h5 h.2⟩
  | f + 1, listed, ts, H, M, μ, w, a, h1, h2, h3, h4, h5, hS, h =>
    ⟨fun h0 => absurd h0 h.1, fun i hi => wpOp_of_h h3 h4 h5 hS (h.2 i hi) fun M' μ' ts' H' w' a' g1 g2 g3 g4 g5 g6 g7 => wpAny_of_h hL f _ ts' H' M' μ' w' a' (h1.trans g1) (h2.trans g2) g3 g4 g5 g6 g7⟩

theorem hAny_first {i : Nat} {oi : Oper} {v : D} {L : List D → List Ob → Prop} (hi : all[i]? = some oi) (hlt : heavyB oi = false) :
    ∀ (f : Nat) (listed : Array Bool) (ts : List D) (H : List Ob),
      (∀ j oj, all[j]? = some oj → j ≠ i → listed.getD j true = false → (∀ e ∈ oj.after, Region.binds md e = true → e.on ≠ i) → oi.apart all oj = true) →
      i ∈ Region.ready md all listed → Yf E S all oi v ts →
      hAny E S md all L f (listed.setIfInBounds i true) (putD ts oi.dst v) H → hAny E S md all L (f + 1) listed ts H := by
  have self : ∀ {ts : List D} {H : List Ob} {K : List D → List Ob → Prop}, Yf E S all oi v ts → K (putD ts oi.dst v) H → hOp E S all i K ts H := fun hy hk => by
    unfold hOp; simp only [hi, hlt, Bool.false_eq_true, if_false]; exact ⟨v, hy, hk⟩
  intro f
  induction f with
  | zero =>
    intro listed ts H _ hr hy Hh
    refine ⟨fun h => (by rw [h] at hr; cases hr), fun j hj => ?_⟩
    by_cases hji : j = i
    · subst hji; exact self hy Hh
    · have := ready_mono hj hji
      rw [Hh.1] at this; cases this
  | succ f ih =>
    intro listed ts H hfree hr hy Hh
    have hun := (mem_ready.1 hr).1
    refine ⟨fun h => (by rw [h] at hr; cases hr), fun j hj => ?_⟩
    by_cases hji : j = i
    · subst hji; exact self hy Hh
    · have h1 := Hh.2 j (ready_mono hj hji)
      obtain ⟨hjun, oj, hoj, hall⟩ := mem_ready.1 hj
      have hnot : ∀ e ∈ oj.after, Region.binds md e = true → e.on ≠ i := fun e he hb heq => by
        have h1 := hall e he hb
        rw [heq, getD_both hun] at h1
        cases h1
      have h2 := hOp_put hoj (hfree j oj hoj hji hjun hnot) hy h1
      have hfree' : ∀ k ok, all[k]? = some ok → k ≠ i → (listed.setIfInBounds j true).getD k true = false →
          (∀ e ∈ ok.after, Region.binds md e = true → e.on ≠ i) → oi.apart all ok = true := fun k ok hk hki hun hno => by
        refine hfree k ok hk hki ?_ hno
        by_cases hjk : j = k
        · subst hjk; exact hjun
        · rw [getD_set_ne true hjk] at hun; exact hun
      refine hOp_mono (fun ts' H' h3 => ih (listed.setIfInBounds j true) ts' H' hfree' (ready_mono hr (Ne.symm hji)) h3.1 ?_) h2
      rw [Array.setIfInBounds_comm _ _ hji]
      exact h3.2

/-- The operations, in the text's order. -/
def hops (E : Env) (S : List Ob → Prop) (all : Array Oper) : List Oper → List D → List Ob → (List D → List Ob → Prop) → Prop
  | [], ts, H, Q => Q ts H
  | o :: os, ts, H, Q => if heavyB o then o.guard = none ∧ aop E o ts H fun d H' => S H' ∧ hops E S all os (putD ts o.dst d) H' Q else
    match o.guard with
    | none => Ex (fun d => ∀ H, S H → aop E o ts H fun d' H' => d' = d ∧ H' = H) (fun d => hops E S all os (putD ts o.dst d) H Q)
    | some (g, want) => (match (all[g]?).bind (·.dst) with
      | none => False
      | some s => (match ts[s]? with
        | some (.v (.bool b)) => Gd b want
          (Ex (fun d => ∀ H, S H → aop E o (ts.set s (.v (.bool want))) H fun d' H' => d' = d ∧ H' = H) (fun d => hops E S all os (putD (ts.set s (.v (.bool want))) o.dst d) H Q))
          (hops E S all os (putD (ts.set s (.v (.bool !want))) o.dst (.tup [])) H Q)
        | some (.tup []) => hops E S all os (putD ts o.dst (.tup [])) H Q
        | _ => False))

theorem hops_step {o : Oper} {os : List Oper} {ts : List D} {H : List Ob} {Q : List D → List Ob → Prop} (hlt : heavyB o = false) (k : hops E S all (o :: os) ts H Q) : ∃ d, Yf E S all o d ts ∧ hops E S all os (putD ts o.dst d) H Q := by
  simp only [hops, hlt, Bool.false_eq_true, if_false] at k
  unfold Yf
  cases hg : o.guard with
  | none => simp only [hg] at k ⊢; exact k
  | some gw =>
    obtain ⟨g, want⟩ := gw
    simp only [hg] at k ⊢
    cases hs : (all[g]?).bind (·.dst) with
    | none => simp only [hs] at k
    | some s =>
      simp only [hs] at k
      cases hts : ts[s]? with
      | none => simp only [hts] at k
      | some d =>
        simp only [hts] at k
        have same : ∀ d', d = d' → ts.set s d' = ts := fun d' e => by
          subst e
          apply List.ext_getElem?
          intro i
          rw [List.getElem?_set]
          split
          · rename_i e; subst e
            split
            · exact hts.symm
            · rename_i hlt; rw [List.getElem?_eq_none (by omega)]
          · rfl
        split at k
        · rename_i b hb
          cases hb
          have hv : gval all ts g = some (some b) := by simp [gval, hs, hts]
          simp only [hv]
          by_cases e : b = want
          · obtain ⟨d, k1, k2⟩ := k.1 e
            rw [same _ (by rw [e])] at k1 k2
            exact ⟨d, by rw [if_pos e]; exact k1, k2⟩
          · have e2 : b = !want := by cases b <;> cases want <;> simp_all
            have k2 := k.2 e2
            rw [same _ (by rw [e2])] at k2
            exact ⟨_, by rw [if_neg e], k2⟩
        · rename_i hb
          cases hb
          have hv : gval all ts g = some none := by simp [gval, hs, hts]
          simp only [hv]
          exact ⟨_, rfl, k⟩
        · exact k.elim

/-- In the text's order each quiet operation is free of what may come ahead of it, and at each other one nothing else may come. -/
def mixFrom (md : Region.Mode) (all : Array Oper) : List Oper → Nat → Array Bool → Bool
  | [], _, listed => Region.ready md all listed == []
  | o :: os, k, listed => (Region.ready md all listed).contains k && (if heavyB o then o.guard.isNone && Region.ready md all listed == [k] else Region.free md all listed k) && mixFrom md all os (k + 1) (listed.setIfInBounds k true)
def mixB (all : List Oper) : Bool := all.any heavyB && mixFrom .any all.toArray all 0 (Array.replicate all.length false)

theorem hAny_lex {L : List D → List Ob → Prop} :
    ∀ (l : List Oper) (k : Nat) (listed : Array Bool) (ts : List D) (H : List Ob), (∀ j, j < l.length → l[j]? = all[k + j]?) →
    mixFrom md all l k listed = true → hops E S all l ts H L → hAny E S md all L l.length listed ts H
  | [], k, listed, ts, H, _, hB, h => ⟨by simpa [mixFrom] using hB, h⟩
  | o :: l, k, listed, ts, H, hl, hB, h => by
    have h0 : all[k]? = some o := by simpa using (hl 0 (by simp)).symm
    have hl' : ∀ j, j < l.length → l[j]? = all[k + 1 + j]? := fun j hj => by have := hl (j + 1) (by simp; omega); simpa [Nat.add_assoc, Nat.add_comm 1 j] using this
    simp only [mixFrom, Bool.and_eq_true] at hB
    obtain ⟨⟨hr, hf⟩, hB'⟩ := hB
    have hr : k ∈ Region.ready md all listed := by simpa using hr
    cases hv : heavyB o with
    | false =>
      rw [hv] at hf
      obtain ⟨d, hy, hK⟩ := hops_step hv h
      exact hAny_first h0 hv l.length listed ts H (Region.free_spec h0 (by simpa using hf)) hr hy (hAny_lex l (k + 1) _ _ _ hl' hB' hK)
    | true =>
      rw [hv] at hf
      simp only [if_true, Bool.and_eq_true, beq_iff_eq] at hf
      simp only [hops, hv, if_true] at h
      refine ⟨fun e => (by rw [e] at hr; cases hr), fun j hj => ?_⟩
      rw [hf.2] at hj
      have : j = k := by simpa using hj
      subst this
      unfold hOp
      simp only [h0, hv, if_true]
      exact ⟨h.1, aop_mono (fun d H1 k => ⟨k.1, hAny_lex l _ _ _ _ hl' hB' k.2⟩) h.2⟩
end

/-- A region that draws its order, where some operations change the heap. -/
theorem sat_mixS {E : Env} (S : List Ob → Prop) {ts : List D} {H : List Ob} {Q : Exit → List D → List Ob → Prop} {id : Nat} {l : List Oper} (hm : E.P.follows .mixedOrders = true) (hB : mixB l = true) (hS : S H)
    (h : hops E S l.toArray l ts H fun ts' H' => Q .normal ts' H') : Sat E (.region id l.toArray true) ts H Q := by
  intro M μ w a h1 h2 h3 h4 h5
  simp only [mixB, Bool.and_eq_true] at hB
  refine wp_region_any hm ?_
  have hq := hAny_lex (E := E) (S := S) (md := .any) (all := l.toArray) l 0 (Array.replicate l.length false) ts H (fun j _ => by simp) hB.2 h
  have := wpAny_of_h (E := E) (S := S) (md := .any) (all := l.toArray) (M0 := M) (μ0 := μ)
    (Q' := fun e a' w' => ∃ M' μ' ts' H', E.M0.le M' ∧ E.μ0.le μ' ∧ R E M' μ' H' w' ∧ RelL M' μ' ts' a'.tmps.toList ∧ a'.defers = [] ∧ Q e ts' H')
    (fun ts' H' M' μ' w' a' g1 g2 g3 g4 g5 hL => ⟨M', μ', ts', H', h1.trans g1, h2.trans g2, g3, g4, g5, hL⟩)
    l.length (Array.replicate l.length false) ts H M μ w.drew a (.refl _) (.refl _) h3.drew h4 h5 hS hq
  simpa using this
def anyS (_ : List Ob) : Prop := True
theorem sat_mix {E : Env} {ts : List D} {H : List Ob} {Q : Exit → List D → List Ob → Prop} {id : Nat} {l : List Oper} (hm : E.P.follows .mixedOrders = true) (hB : mixB l = true)
    (h : hops E anyS l.toArray l ts H fun ts' H' => Q .normal ts' H') : Sat E (.region id l.toArray true) ts H Q := sat_mixS anyS hm hB trivial h

theorem sat_mixp2 {E : Env} {ts : List D} {H : List Ob} {Q : Exit → List D → List Ob → Prop} {id : Nat} {l : List Oper} (hv : l.any heavyB = true) (hm : E.P.follows .mixedOrders = true) (hB : mixB l = true)
    (h : hops E anyS l.toArray l ts H fun ts' H' => Q .normal ts' H') : Sat E (.region id l.toArray true) ts H Q := sat_mix hm hB h
theorem sat_mixp {E : Env} {ts : List D} {H : List Ob} {Q : Exit → List D → List Ob → Prop} {id : Nat} {l : List Oper} (hg : l.all (fun o => o.guard.isNone) = true) (hv : l.any heavyB = true) (hm : E.P.follows .mixedOrders = true) (hB : mixB l = true)
    (h : hops E anyS l.toArray l ts H fun ts' H' => Q .normal ts' H') : Sat E (.region id l.toArray true) ts H Q := sat_mix hm hB h

section
variable {E : Env} {all : Array Oper} {os : List Oper} {ts : List D} {H : List Ob} {Q : List D → List Ob → Prop}
theorem sm_nil (h : Q ts H) : hops E anyS all [] ts H Q := h
variable {n : Nat} {l : List (Nat × D)} {o : Oper} {g : Nat} {want : Bool} {s : Tmp}
theorem sm_op (hv : heavyB o = false) (hg : o.guard = none) (h : ∀ K : D → Prop, (∀ d, hops E anyS all os (putD ts o.dst d) H Q → K d) → Ex (fun d => ∀ H, aop E o ts H fun d' H' => d' = d ∧ H' = H) K) : hops E anyS all (o :: os) ts H Q := by
  simp only [hops, hv, hg, Bool.false_eq_true, if_false]
  obtain ⟨d, h1, h2⟩ := h _ fun _ h => h
  exact ⟨d, fun H _ => h1 H, h2⟩
theorem sm_hv (hv : heavyB o = true) (hg : o.guard = none) (h : ∀ K : D → List Ob → Prop, (∀ d H', hops E anyS all os (putD ts o.dst d) H' Q → K d H') → aop E o ts H K) : hops E anyS all (o :: os) ts H Q := by
  simp only [hops, hv, hg, if_true]
  exact ⟨trivial, h _ fun _ _ h => ⟨trivial, h⟩⟩
theorem sm_split {b : Bool} (hv : heavyB o = false) (hg : o.guard = some (g, want)) (hs : (all[g]?).bind (·.dst) = some s) (hn : s < n) (hl : look l s = .v (.bool b))
    (h1 : b = want → ∀ K : D → Prop, (∀ d, hops E anyS all os (putD (fr n ((s, .v (.bool want)) :: l)) o.dst d) H Q → K d) → Ex (fun d => ∀ H, aop E o (fr n ((s, .v (.bool want)) :: l)) H fun d' H' => d' = d ∧ H' = H) K)
    (h2 : b = !want → hops E anyS all os (putD (fr n ((s, .v (.bool !want)) :: l)) o.dst (.tup [])) H Q) : hops E anyS all (o :: os) (fr n l) H Q := by
  simp only [hops, hv, hg, hs, fr_get hn, hl, fr_set, Bool.false_eq_true, if_false]
  refine ⟨fun e => ?_, h2⟩
  obtain ⟨d, h1, h2⟩ := h1 e _ fun _ h => h
  exact ⟨d, fun H _ => h1 H, h2⟩
theorem sm_go (hv : heavyB o = false) (hg : o.guard = some (g, want)) (hs : (all[g]?).bind (·.dst) = some s) (hn : s < n) (hl : look l s = .v (.bool want))
    (h1 : ∀ K : D → Prop, (∀ d, hops E anyS all os (putD (fr n l) o.dst d) H Q → K d) → Ex (fun d => ∀ H, aop E o (fr n l) H fun d' H' => d' = d ∧ H' = H) K) : hops E anyS all (o :: os) (fr n l) H Q :=
  sm_split hv hg hs hn hl (fun _ => by rw [fr_same hl]; exact h1) (fun h => by cases want <;> cases h)
theorem sm_not (hv : heavyB o = false) (hg : o.guard = some (g, want)) (hs : (all[g]?).bind (·.dst) = some s) (hn : s < n) (hl : look l s = .v (.bool !want))
    (h1 : hops E anyS all os (putD (fr n l) o.dst (.tup [])) H Q) : hops E anyS all (o :: os) (fr n l) H Q :=
  sm_split hv hg hs hn hl (fun h => by cases want <;> cases h) (fun _ => by rw [fr_same hl]; exact h1)
theorem sm_out (hv : heavyB o = false) (hg : o.guard = some (g, want)) (hs : (all[g]?).bind (·.dst) = some s) (hn : s < n) (hl : look l s = .tup [])
    (h1 : hops E anyS all os (putD (fr n l) o.dst (.tup [])) H Q) : hops E anyS all (o :: os) (fr n l) H Q := by
  simp only [hops, hv, hg, hs, fr_get hn, hl, Bool.false_eq_true, if_false]
  exact h1
end
end Go.Ag
