/- AGo, part 2: abstract heaps and the world. -/
import Derived.Test.YtbiajjcolfhioaaDoorAgRel
set_option linter.all false
namespace Go.Ag
open Go Go.RowKit

inductive Ob where
  | box (cs : List D)
  | arr (ver sz : Nat) (xs : List (List D)) (esc : Nat)
  | mp (es : List (D × D))
  | dead

def Rows (M : Mem) (μ : Mu) (sz : Nat) (xs : List (List D)) (vs : List Value) : Prop :=
  ∀ i x, xs[i]? = some x → x.length = sz ∧ RelL M μ x ((vs.drop (i * sz)).take sz)

def EntRel (M : Mem) (μ : Mu) : List (D × D) → List MapEntry → Prop
  | [], es => es = []
  | d :: ds, es => ∃ e es', es = e :: es' ∧ Rel M μ d.1 e.key ∧ Rel M μ d.2 e.val ∧ EntRel M μ ds es'

def ObRel (base : Nat) (M : Mem) (μ : Mu) (w : World) : Ob → Pt → Prop
  | .dead, _ => True
  | .box cs, p => base ≤ p.blk ∧ p.ver = 0 ∧ (∀ o, M p.blk o = none) ∧ ∃ (vs : List Value) (t : TypeId), w.heap[p.blk]? = some (.cells vs.toArray t (0, 0)) ∧ RelL M μ cs vs
  | .arr ver sz xs esc, p => base ≤ p.blk ∧ p.ver = ver ∧ 1 ≤ ver ∧ (∀ o y, M p.blk o = some y → o < esc * sz) ∧ xs.length ≤ p.cap ∧
      ∃ (vs : List Value) (t : TypeId), w.heap[p.blk]? = some (.cells vs.toArray t (0, 0)) ∧ vs.length = p.cap * sz ∧ Rows M μ sz xs vs
  | .mp es, p => base ≤ p.blk ∧ p.ver = 0 ∧ (∀ o, M p.blk o = none) ∧ ∃ (ents : Array MapEntry) (clock : Nat), w.heap[p.blk]? = some (.map ents clock) ∧ EntRel M μ es ents.toList ∧
      (∀ e ∈ ents.toList, e.born < clock) ∧ (ents.toList.map (·.born)).Nodup

structure Env where
  P : Program
  G : Nat → Option (List V)
  w0 : World
  M0 : Mem
  μ0 : Mu
  H0 : List Ob

structure R (E : Env) (M : Mem) (μ : Mu) (H : List Ob) (w : World) : Prop where
  below : Below E.w0.heap.size E.w0 w
  imm : ∀ b o y, M b o = some y → w.cell? ⟨b, o, none⟩ = some y
  glob : ∀ g cs, E.G g = some cs → RelRow M g 0 cs
  dom : ∀ i p, μ i = some p → i < H.length
  obj : ∀ i o p, H[i]? = some o → μ i = some p → ObRel E.w0.heap.size M μ w o p
  sep : ∀ i j oi oj pi pj, i ≠ j → H[i]? = some oi → H[j]? = some oj → oi ≠ .dead → oj ≠ .dead → μ i = some pi → μ j = some pj → pi.blk ≠ pj.blk
  tot : ∀ i, i < H.length → ∃ p, μ i = some p

theorem Rows.mono {M M' : Mem} {μ μ' : Mu} (h : M.le M') (k : μ.le μ') {sz : Nat} {xs : List (List D)} {vs : List Value} (r : Rows M μ sz xs vs) : Rows M' μ' sz xs vs :=
  fun i x hx => ⟨(r i x hx).1, RelL.mono h k (r i x hx).2⟩
theorem EntRel.mono {M M' : Mem} {μ μ' : Mu} (h : M.le M') (k : μ.le μ') : ∀ {ds : List (D × D)} {es : List MapEntry}, EntRel M μ ds es → EntRel M' μ' ds es
  | [], _, r => r
  | d :: ds, _, ⟨e, es, h1, h2, h3, h4⟩ => ⟨e, es, h1, Rel.mono h k h2, Rel.mono h k h3, EntRel.mono h k h4⟩

theorem ObRel.lt {base : Nat} {M : Mem} {μ : Mu} {w : World} {o : Ob} {p : Pt} (h : ObRel base M μ w o p) (ho : o ≠ .dead) : p.blk < w.heap.size := by
  have : ∃ x, w.heap[p.blk]? = some x := by
    cases o with
    | dead => exact absurd rfl ho
    | box cs => obtain ⟨_, _, _, vs, t, hb, _⟩ := h; exact ⟨_, hb⟩
    | arr ver sz xs esc => obtain ⟨_, _, _, _, _, vs, t, hb, _⟩ := h; exact ⟨_, hb⟩
    | mp es => obtain ⟨_, _, _, ents, c, hb, _⟩ := h; exact ⟨_, hb⟩
  obtain ⟨x, hx⟩ := this
  exact (Array.getElem?_eq_some_iff.1 hx).1
theorem ObRel.base_le {base : Nat} {M : Mem} {μ : Mu} {w : World} {o : Ob} {p : Pt} (h : ObRel base M μ w o p) (ho : o ≠ .dead) : base ≤ p.blk := by
  cases o with
  | dead => exact absurd rfl ho
  | box cs => exact h.1
  | arr ver sz xs esc => exact h.1
  | mp es => exact h.1

/-- An object whose block stays as it is. -/
theorem ObRel.same {base : Nat} {M : Mem} {μ μ' : Mu} {w w' : World} {o : Ob} {p : Pt} (h : ObRel base M μ w o p) (k : μ.le μ') (e : w'.heap[p.blk]? = w.heap[p.blk]?) : ObRel base M μ' w' o p := by
  cases o with
  | dead => trivial
  | box cs => obtain ⟨h1, h2, h3, vs, t, hb, h4⟩ := h; exact ⟨h1, h2, h3, vs, t, e.trans hb, RelL.mono (.refl _) k h4⟩
  | arr ver sz xs esc => obtain ⟨h1, h2, h3, h4, h5, vs, t, hb, h6, h7⟩ := h; exact ⟨h1, h2, h3, h4, h5, vs, t, e.trans hb, h6, h7.mono (.refl _) k⟩
  | mp es => obtain ⟨h1, h2, h3, ents, c, hb, h4, h5, h6⟩ := h; exact ⟨h1, h2, h3, ents, c, e.trans hb, h4.mono (.refl _) k, h5, h6⟩

theorem R.imm_lt {E : Env} {M : Mem} {μ : Mu} {H : List Ob} {w : World} (h : R E M μ H w) {b o : Nat} {y : Value} (hy : M b o = some y) : b < w.heap.size :=
  World.block_lt_of_cell? w _ (h.imm b o y hy)
theorem R.imm_new {E : Env} {M : Mem} {μ : Mu} {H : List Ob} {w : World} (h : R E M μ H w) (o : Nat) : M w.heap.size o = none := by
  cases hy : M w.heap.size o with
  | none => rfl
  | some y => have := h.imm_lt hy; omega
theorem R.mu_new {E : Env} {M : Mem} {μ : Mu} {H : List Ob} {w : World} (h : R E M μ H w) : μ H.length = none := by
  cases hy : μ H.length with
  | none => rfl
  | some y => have := h.dom _ _ hy; omega

def upd (μ : Mu) (i : Nat) (p : Pt) : Mu := fun j => if j = i then some p else μ j
theorem upd_self (μ : Mu) (i : Nat) (p : Pt) : upd μ i p i = some p := by simp [upd]
theorem upd_ne (μ : Mu) {i j : Nat} (p : Pt) (h : j ≠ i) : upd μ i p j = μ j := by simp [upd, h]
theorem Mu.le_upd_new {μ : Mu} {i : Nat} {p : Pt} (h : μ i = none) : μ.le (upd μ i p) := fun j q hq => by
  have : j ≠ i := fun e => by subst e; rw [h] at hq; cases hq
  exact ⟨q, by rw [upd_ne _ _ this]; exact hq, Nat.le_refl _, fun _ => rfl, fun h => h⟩
theorem Mu.le_upd_ver {μ : Mu} {i : Nat} {p q : Pt} (h : μ i = some q) (hv : q.ver < p.ver) (h1 : 1 ≤ q.ver) : μ.le (upd μ i p) := fun j r hr => by
  by_cases e : j = i
  · subst e
    rw [h] at hr; cases hr
    exact ⟨p, upd_self _ _ _, by omega, fun e => by omega, fun e => by omega⟩
  · exact ⟨r, by rw [upd_ne _ _ e]; exact hr, Nat.le_refl _, fun _ => rfl, fun h => h⟩

/-- Only draws. -/
theorem R.drew {E : Env} {M : Mem} {μ : Mu} {H : List Ob} {w : World} (h : R E M μ H w) : R E M μ H w.drew :=
  ⟨h.below.drew, fun b o y hy => h.imm b o y hy, h.glob, h.dom, fun i o p ho hp => (h.obj i o p ho hp).same (.refl _) rfl, h.sep, h.tot⟩

/-- A new object in a new block. -/
theorem R.push {E : Env} {M : Mem} {μ : Mu} {H : List Ob} {w : World} (h : R E M μ H w) {o : Ob} {ob : Obj} {p : Pt} (hp : p.blk = w.heap.size)
    (ho : ObRel E.w0.heap.size M (upd μ H.length p) (w.alloc ob) o p) : R E M (upd μ H.length p) (H ++ [o]) (w.alloc ob) := by
  have hle : μ.le (upd μ H.length p) := Mu.le_upd_new h.mu_new
  refine ⟨h.below.alloc h.below.size _, fun b o y hy => ?_, h.glob, fun i q hq => ?_, fun i o' q ho' hq => ?_, ?_, fun i hi => (by
    by_cases e : i = H.length
    · subst e; exact ⟨p, upd_self _ _ _⟩
    · rw [upd_ne _ _ e]; exact h.tot i (by simp at hi; omega))⟩
  · rw [World.cell?_alloc_lt _ _ _ (h.imm_lt hy)]; exact h.imm b o y hy
  · by_cases e : i = H.length
    · subst e; simp
    · rw [upd_ne _ _ e] at hq; have := h.dom i q hq; simp; omega
  · by_cases e : i = H.length
    · subst e
      rw [upd_self] at hq; cases hq
      simp at ho'; subst ho'
      exact ho
    · rw [upd_ne _ _ e] at hq
      have hlt := h.dom i q hq
      rw [List.getElem?_append_left hlt] at ho'
      have hob := h.obj i o' q ho' hq
      by_cases hd : o' = .dead
      · subst hd; trivial
      · exact hob.same hle (Below.heap_alloc _ _ _ (hob.lt hd))
  · intro i j oi oj pi pj hij hi hj di dj hpi hpj
    by_cases ei : i = H.length
    · subst ei
      rw [upd_self] at hpi; cases hpi
      have ej : j ≠ H.length := fun e => hij e.symm
      rw [upd_ne _ _ ej] at hpj
      have hlt := h.dom j pj hpj
      rw [List.getElem?_append_left hlt] at hj
      have := (h.obj j oj pj hj hpj).lt dj
      omega
    · rw [upd_ne _ _ ei] at hpi
      have hlt := h.dom i pi hpi
      rw [List.getElem?_append_left hlt] at hi
      by_cases ej : j = H.length
      · subst ej
        rw [upd_self] at hpj; cases hpj
        have := (h.obj i oi pi hi hpi).lt di
        omega
      · rw [upd_ne _ _ ej] at hpj
        have hlt := h.dom j pj hpj
        rw [List.getElem?_append_left hlt] at hj
        exact h.sep i j oi oj pi pj hij hi hj di dj hpi hpj

/-- One object's block is written. -/
theorem R.setOb {E : Env} {M : Mem} {μ : Mu} {H : List Ob} {w w' : World} (h : R E M μ H w) {i : Nat} {o o' : Ob} {p : Pt} (hi : H[i]? = some o) (hd : o ≠ .dead) (hp : μ i = some p)
    (hos : w'.os = w.os) (htape : w'.tape = w.tape) (hout : w'.output = w.output) (hsz : w'.heap.size = w.heap.size)
    (hother : ∀ k, k ≠ p.blk → w'.heap[k]? = w.heap[k]?) (himm : ∀ o y, M p.blk o = some y → w'.cell? ⟨p.blk, o, none⟩ = some y)
    (ho' : ObRel E.w0.heap.size M μ w' o' p) : R E M μ (H.set i o') w' := by
  have hob := h.obj i o p hi hp
  have hb := hob.base_le hd
  have hlt : i < H.length := h.dom i p hp
  refine ⟨h.below.trans ⟨hos, htape, hout, by omega, fun k hk => hother k (by omega)⟩, fun b o y hy => ?_, h.glob, fun j q hq => by simpa using h.dom j q hq, fun j oj q hj hq => ?_, ?_, fun j hj => h.tot j (by simpa using hj)⟩
  · by_cases e : b = p.blk
    · subst e; exact himm o y hy
    · rw [World.cell?_of_block (w := w) (hother b e)]; exact h.imm b o y hy
  · by_cases e : j = i
    · subst e
      rw [hp] at hq; cases hq
      rw [List.getElem?_set_self hlt] at hj; cases hj
      exact ho'
    · rw [List.getElem?_set_ne (fun x => e x.symm)] at hj
      have hoj := h.obj j oj q hj hq
      by_cases hdj : oj = .dead
      · subst hdj; trivial
      · exact hoj.same (.refl _) (hother _ (h.sep j i oj o q p e hj hi hdj hd hq hp))
  · intro j k oj ok pj pk hjk hj hk dj dk hpj hpk
    have back : ∀ (j : Nat) (oj : Ob), (H.set i o')[j]? = some oj → oj ≠ .dead → ∃ oj', H[j]? = some oj' ∧ oj' ≠ .dead := fun j oj hj dj => by
      by_cases e : j = i
      · subst e; exact ⟨o, hi, hd⟩
      · rw [List.getElem?_set_ne (fun x => e x.symm)] at hj; exact ⟨oj, hj, dj⟩
    obtain ⟨oj', hj', dj'⟩ := back j oj hj dj
    obtain ⟨ok', hk', dk'⟩ := back k ok hk dk
    exact h.sep j k oj' ok' pj pk hjk hj' hk' dj' dk' hpj hpk

/-- An array is laid anew, in a new block. -/
theorem R.relay {E : Env} {M : Mem} {μ : Mu} {H : List Ob} {w : World} (h : R E M μ H w) {i : Nat} {o o' : Ob} {ob : Obj} {p q : Pt} (hi : H[i]? = some o) (hd : o ≠ .dead) (hp : μ i = some p)
    (hq : q.blk = w.heap.size) (hv : p.ver < q.ver) (h1 : 1 ≤ p.ver)
    (ho' : ObRel E.w0.heap.size M (upd μ i q) (w.alloc ob) o' q) : R E M (upd μ i q) (H.set i o') (w.alloc ob) := by
  have hle : μ.le (upd μ i q) := Mu.le_upd_ver hp hv h1
  have hlt : i < H.length := h.dom i p hp
  refine ⟨h.below.alloc h.below.size _, fun b o y hy => ?_, h.glob, fun j r hr => ?_, fun j oj r hj hr => ?_, ?_, fun j hj => (by
    by_cases e : j = i
    · subst e; exact ⟨q, upd_self _ _ _⟩
    · rw [upd_ne _ _ e]; exact h.tot j (by simpa using hj))⟩
  · rw [World.cell?_alloc_lt _ _ _ (h.imm_lt hy)]; exact h.imm b o y hy
  · by_cases e : j = i
    · subst e; simpa using hlt
    · rw [upd_ne _ _ e] at hr; simpa using h.dom j r hr
  · by_cases e : j = i
    · subst e
      rw [upd_self] at hr; cases hr
      rw [List.getElem?_set_self hlt] at hj; cases hj
      exact ho'
    · rw [upd_ne _ _ e] at hr
      rw [List.getElem?_set_ne (fun x => e x.symm)] at hj
      have hoj := h.obj j oj r hj hr
      by_cases hdj : oj = .dead
      · subst hdj; trivial
      · exact hoj.same hle (Below.heap_alloc _ _ _ (hoj.lt hdj))
  · intro j k oj ok pj pk hjk hj hk dj dk hpj hpk
    by_cases ej : j = i
    · subst ej
      rw [upd_self] at hpj; cases hpj
      have ek : k ≠ j := fun e => hjk e.symm
      rw [upd_ne _ _ ek] at hpk
      rw [List.getElem?_set_ne (fun x => ek x.symm)] at hk
      have := (h.obj k ok pk hk hpk).lt dk
      omega
    · rw [upd_ne _ _ ej] at hpj
      rw [List.getElem?_set_ne (fun x => ej x.symm)] at hj
      by_cases ek : k = i
      · subst ek
        rw [upd_self] at hpk; cases hpk
        have := (h.obj j oj pj hj hpj).lt dj
        omega
      · rw [upd_ne _ _ ek] at hpk
        rw [List.getElem?_set_ne (fun x => ek x.symm)] at hk
        exact h.sep j k oj ok pj pk hjk hj hk dj dk hpj hpk

/-- Fewer cells that never turn. -/
theorem R.less {E : Env} {M M' : Mem} {μ : Mu} {H : List Ob} {w : World} (h : R E M' μ H w) (hle : M.le M') (hg : ∀ g cs, E.G g = some cs → RelRow M g 0 cs)
    (hobj : ∀ i o p, H[i]? = some o → μ i = some p → ObRel E.w0.heap.size M μ w o p) : R E M μ H w :=
  ⟨h.below, fun b o y hy => h.imm b o y (hle b o y hy), hg, h.dom, hobj, h.sep, h.tot⟩

theorem cell?_block {w : World} {b : Nat} {vs : List Value} {t : TypeId} (h : w.heap[b]? = some (.cells vs.toArray t (0, 0))) (j : Nat) : w.cell? ⟨b, j, none⟩ = vs[j]? := by
  simp [World.cell?, h]
theorem frozen?_block {w : World} {b : Nat} {vs : List Value} {t : TypeId} (h : w.heap[b]? = some (.cells vs.toArray t (0, 0))) (j : Nat) : w.frozen? ⟨b, j, none⟩ = false := by
  simp [World.frozen?, h]

end Go.Ag
