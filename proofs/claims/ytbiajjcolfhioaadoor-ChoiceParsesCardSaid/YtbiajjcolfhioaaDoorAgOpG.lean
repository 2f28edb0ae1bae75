/- AGo, part 9: one operation. -/
import Derived.Test.YtbiajjcolfhioaaDoorAgOpF
import Derived.Laws.MakeOwn
set_option linter.all false
namespace Go.Ag
open Go Go.RowKit

/-! ### len -/
def aLen (P : Program) (t : TypeId) (d : D) (H : List Ob) (K : D → Prop) : Prop :=
  match d with
  | .v (.str s) => tk P t = .str ∧ K (.v (.int .i64 s.length))
  | .v (.list _ xs) => (match tk P t with | .sl _ _ _ => K (.v (.int .i64 xs.length)) | _ => False)
  | .nils => (match tk P t with | .sl _ _ _ => K (.v (.int .i64 0)) | _ => False)
  | .own b ver len => (match tk P t with | .sl _ _ _ => vOk H b ver ∧ K (.v (.int .i64 len)) | _ => False)
  | .map m => (match tk P t with
    | .mp _ _ => (match H[m]? with | some (.mp es) => K (.v (.int .i64 es.length)) | _ => False)
    | _ => False)
  | .nilm => (match tk P t with | .mp _ _ => K (.v (.int .i64 0)) | _ => False)
  | _ => False
theorem EntRel.length {M : Mem} {μ : Mu} : ∀ {ds : List (D × D)} {es : List MapEntry}, EntRel M μ ds es → es.length = ds.length
  | [], _, r => by simp [EntRel] at r; simp [r]
  | d :: ds, _, ⟨e, es, h1, _, _, h4⟩ => by subst h1; simp [h4.length]
theorem aLen_sound {E : Env} {M : Mem} {μ : Mu} {H : List Ob} {w : World} (h : R E M μ H w) {t ty : TypeId} {d : D} {y : Value} (hy : Rel M μ d y) {K : D → Prop} (k : aLen E.P t d H K) :
    ∃ v d', (Builtin.len_ #[t] ty #[y]).run E.P w = .ok v w ∧ Rel M μ d' v ∧ K d' := by
  unfold aLen at k
  split at k
  · rename_i s
    obtain ⟨ht, k⟩ := k
    simp only [Rel, RelV] at hy; subst hy
    refine ⟨goInt s.length, _, ?_, by simp only [Rel, RelV]; rfl, k⟩
    have hsz : (⟨s.toArray⟩ : ByteArray).size = s.length := by simp [ByteArray.size]
    simp [Builtin.len_, run_underlying (tk_str ht), hsz]
  · rename_i sz xs
    cases ht : tk E.P t <;> simp only [ht] at k
    case sl e esz bytes =>
      obtain ⟨j, hu, hj, hsz, hby⟩ := tk_sl ht
      simp only [Rel, RelV] at hy
      obtain ⟨A, c, rfl, _⟩ := hy
      exact ⟨goInt xs.length, _, by simp [Builtin.len_, run_underlying hu], by simp only [Rel, RelV]; rfl, k⟩
    all_goals exact k.elim
  · cases ht : tk E.P t <;> simp only [ht] at k
    case sl e esz bytes =>
      obtain ⟨j, hu, hj, hsz, hby⟩ := tk_sl ht
      simp only [Rel] at hy; subst hy
      exact ⟨goInt 0, _, by simp [Builtin.len_, run_underlying hu], by simp only [Rel, RelV]; rfl, k⟩
    all_goals exact k.elim
  · rename_i b ver len
    cases ht : tk E.P t <;> simp only [ht] at k
    case sl e esz bytes =>
      obtain ⟨j, hu, hj, hsz, hby⟩ := tk_sl ht
      obtain ⟨hv, k⟩ := k
      simp only [Rel] at hy
      obtain ⟨_, p, hp, hle, hv1, hy⟩ := hy
      obtain ⟨_, rfl⟩ := hy (vOk_ver h hv hp)
      exact ⟨goInt len, _, by simp [Builtin.len_, run_underlying hu], by simp only [Rel, RelV]; rfl, k⟩
    all_goals exact k.elim
  · rename_i m
    cases ht : tk E.P t <;> simp only [ht] at k
    case mp kt et =>
      simp only [Rel] at hy
      obtain ⟨p, hp, _, rfl⟩ := hy
      cases ho : H[m]? with
      | none => simp [ho] at k
      | some ob =>
        cases ob <;> simp only [ho] at k
        case mp es =>
          obtain ⟨_, _, _, ents, c, hb, hr, _⟩ := h.obj m _ p ho hp
          have hl := hr.length
          refine ⟨goInt es.length, _, ?_, by simp only [Rel, RelV]; rfl, k⟩
          have hg : (getObj p.blk).run E.P w = .ok (.map ents c) w := by simp [getObj, Sem.run, hb]
          have hs : ents.size = es.length := by simpa using hl
          simp [Builtin.len_, run_underlying (tk_mp ht), hg, hs]
        all_goals exact k.elim
    all_goals exact k.elim
  · cases ht : tk E.P t <;> simp only [ht] at k
    case mp kt et =>
      simp only [Rel] at hy; subst hy
      exact ⟨goInt 0, _, by simp [Builtin.len_, run_underlying (tk_mp ht)], by simp only [Rel, RelV]; rfl, k⟩
    all_goals exact k.elim
  · exact k.elim

/-! ### max, min of two numbers; conversions -/
def aMax (x y : D) (K : D → Prop) : Prop :=
  match x, y with
  | .v (.int k a), .v (.int _ b) => K (.v (.int k (if b > a then b else a)))
  | _, _ => False
theorem aMax_sound {P : Program} {M : Mem} {μ : Mu} {w : World} {ts : Array TypeId} {ty : TypeId} {x y : D} {a b : Value} (hx : Rel M μ x a) (hy : Rel M μ y b) {K : D → Prop} (k : aMax x y K) :
    ∃ v d', (Builtin.max_ ts ty #[a, b]).run P w = .ok v w ∧ Rel M μ d' v ∧ K d' := by
  unfold aMax at k
  split at k
  · simp only [Rel, RelV] at hx hy; subst hx; subst hy
    exact ⟨_, _, by simp only [Builtin.max_, List.foldlM, Builtin.max2]; rfl, by simp only [Rel, RelV], k⟩
  · exact k.elim
def aMin (x y : D) (K : D → Prop) : Prop :=
  match x, y with
  | .v (.int k a), .v (.int _ b) => K (.v (.int k (if b < a then b else a)))
  | _, _ => False
theorem aMin_sound {P : Program} {M : Mem} {μ : Mu} {w : World} {ts : Array TypeId} {ty : TypeId} {x y : D} {a b : Value} (hx : Rel M μ x a) (hy : Rel M μ y b) {K : D → Prop} (k : aMin x y K) :
    ∃ v d', (Builtin.min_ ts ty #[a, b]).run P w = .ok v w ∧ Rel M μ d' v ∧ K d' := by
  unfold aMin at k
  split at k
  · simp only [Rel, RelV] at hx hy; subst hx; subst hy
    exact ⟨_, _, by simp only [Builtin.min_, List.foldlM, Builtin.min2]; rfl, by simp only [Rel, RelV], k⟩
  · exact k.elim

def aConv (P : Program) (s t : TypeId) (x : D) (K : D → Prop) : Prop :=
  match tk P s, tk P t, x with
  | .it _, .it k, .v (.int _ n) => K (.v (.int k (k.wrap n)))
  | .str, .str, .v (.str l) => K (.v (.str l))
  | .it _, .str, .v (.int _ n) => K (.v (.str (Utf8.encode n).data.toList))
  | _, _, _ => False
theorem aConv_sound {P : Program} {M : Mem} {μ : Mu} {w : World} {s t : TypeId} {x : D} {a : Value} (hx : Rel M μ x a) {K : D → Prop} (k : aConv P s t x K) :
    ∃ v d', (convert s t a).run P w = .ok v w ∧ Rel M μ d' v ∧ K d' := by
  unfold aConv at k
  split at k
  · rename_i k1 k2 k3 n h1 h2
    simp only [Rel, RelV] at hx; subst hx
    refine ⟨.int k2 (k2.wrap n), _, ?_, by simp only [Rel, RelV], k⟩
    simp [convert, run_underlying (tk_it h1), run_underlying (tk_it h2), Conv.intToInt]
  · rename_i l h1 h2
    simp only [Rel, RelV] at hx; subst hx
    refine ⟨_, _, ?_, by simp only [Rel, RelV]; rfl, k⟩
    simp [convert, run_underlying (tk_str h1), run_underlying (tk_str h2)]
  · rename_i k1 k3 n h1 h2
    simp only [Rel, RelV] at hx; subst hx
    refine ⟨.string (Utf8.encode n), _, ?_, by simp only [Rel, RelV], k⟩
    simp [convert, run_underlying (tk_it h1), run_underlying (tk_str h2), Conv.intToString]
  · exact k.elim

/-! ### make -/
def aMakeSlice (P : Program) (t : TypeId) (l c : D) (H : List Ob) (K : D → List Ob → Prop) : Prop :=
  match l, c with
  | .v (.int _ l), .v (.int _ c) => (match tk P t with
    | .sl e esz bytes => (match zerosB P e with
      | some z => z.length = esz ∧ 0 ≤ l ∧ l ≤ c ∧ (bytes : Int) * c ≤ 281474976710656 ∧ c ≤ 9223372036854775807 ∧ K (.own H.length 1 l.toNat) (H ++ [.arr 1 esz (List.replicate l.toNat z) 0])
      | none => False)
    | _ => False)
  | _, _ => False
theorem aMakeSlice_sound {E : Env} {M : Mem} {μ : Mu} {H : List Ob} {w : World} (h : R E M μ H w) {t : TypeId} {l c : D} {lv cv : Value} (hl : Rel M μ l lv) (hc : Rel M μ c cv) {K : D → List Ob → Prop} (k : aMakeSlice E.P t l c H K) :
    Ok E M μ (Instr.makeSlice t lv cv) w K := by
  unfold aMakeSlice at k
  split at k
  · rename_i lk l ck c
    cases ht : tk E.P t <;> simp only [ht] at k
    case sl e esz bytes =>
      obtain ⟨i, hu, hi, hsz, hby⟩ := tk_sl ht
      cases hz : zerosB E.P e with
      | none => simp [hz] at k
      | some z =>
        simp only [hz] at k
        obtain ⟨hzl, h0, hlc, hb, h63, k⟩ := k
        obtain ⟨zv, _, rfl, i', hi', hiz⟩ := zerosB_spec hz
        rw [hi] at hi'; cases hi'
        simp only [Rel, RelV] at hl hc
        subst hl; subst hc
        have hrun := run_make (P := E.P) w t e i zv hu hi hiz lk ck l c h0 hlc (by rw [hby]; exact hb) h63
        have hzs : zv.cells.size = esz := by simpa using hzl
        have hmc : (madeCells zv.cells (c.toNat * i.size)) = ((List.replicate c.toNat zv.cells.toList).flatten).toArray := by
          have := zeros_range zv.cells.toList c.toNat
          simp only [Array.length_toList, Array.toArray_toList, hzs] at this
          unfold madeCells
          apply Array.toList_inj.1
          rw [List.toList_toArray, hsz, ← this, hzs]
        rw [hmc] at hrun
        have hlen : ((List.replicate c.toNat zv.cells.toList).flatten).length = c.toNat * esz := by simp [hzs]
        have hle : l.toNat ≤ c.toNat := by omega
        obtain ⟨μ', g1, g2, g3⟩ := h.newArr (xs := List.replicate l.toNat (zv.cells.toList.map ofC)) (cap := c.toNat) (sz := esz) (fun x hx => by rw [List.eq_of_mem_replicate hx]; exact hzl) hlen (by simpa using hle)
          (by
            rw [List.length_replicate]
            have e1 : (List.replicate c.toNat zv.cells.toList).flatten = (List.replicate l.toNat zv.cells.toList).flatten ++ (List.replicate (c.toNat - l.toNat) zv.cells.toList).flatten := by
              rw [← List.flatten_append, List.replicate_append_replicate]; congr 2; omega
            rw [e1, List.take_left' (by simp [hzs])]
            exact relL_zeros M μ _ _) e
        exact ⟨_, _, _, M, μ', _, hrun, .refl _, g1, g2, g3 _ hle, k⟩
    all_goals exact k.elim
  · exact k.elim

def aMakeMap (P : Program) (t : TypeId) (r : Option D) (H : List Ob) (K : D → List Ob → Prop) : Prop :=
  match r with
  | none => K (.map H.length) (H ++ [.mp []])
  | some (.v (.int _ _)) => (match tk P t with | .mp _ _ => K (.map H.length) (H ++ [.mp []]) | _ => False)
  | _ => False
theorem aMakeMap_sound {E : Env} {M : Mem} {μ : Mu} {H : List Ob} {w : World} (h : R E M μ H w) {t : TypeId} {r : Option D} {rv : Option Value} (hr : bndV M μ r rv) {K : D → List Ob → Prop} (k : aMakeMap E.P t r H K) :
    Ok E M μ (Instr.makeMap t rv) w K := by
  have made : ∀ s : Sem Value, s.run E.P w = .ok (.map (some w.heap.size)) (w.alloc (.map #[] 0)) → K (.map H.length) (H ++ [.mp []]) → Ok E M μ s w K := fun s hs k => by
    refine ⟨_, _, _, M, upd μ H.length ⟨w.heap.size, 0, 0⟩, _, hs, .refl _, Mu.le_upd_new h.mu_new, ?_, ?_, k⟩
    · refine h.push rfl ⟨h.below.size, rfl, fun o => h.imm_new o, #[], 0, heap_alloc_new w _, by simp [EntRel], by simp, by simp⟩
    · simp only [Rel]; exact ⟨_, upd_self _ _ _, rfl, rfl⟩
  unfold aMakeMap at k
  split at k
  · cases rv with
    | some v => exact hr.elim
    | none => exact made _ (by simp [Instr.makeMap]) k
  · rename_i kk n
    cases rv with
    | none => exact hr.elim
    | some v =>
      simp only [bndV, Rel, RelV] at hr
      subst hr
      cases ht : tk E.P t <;> simp only [ht] at k
      case mp kt et => exact made _ (by simp [Instr.makeMap, run_underlying (tk_mp ht), asInt, asIntOf]) k
      all_goals exact k.elim
  · exact k.elim

end Go.Ag
