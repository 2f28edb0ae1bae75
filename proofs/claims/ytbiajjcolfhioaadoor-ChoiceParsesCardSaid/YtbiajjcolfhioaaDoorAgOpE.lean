/- AGo, part 7: aggregates, slices that are made and grown. -/
import Derived.Test.YtbiajjcolfhioaaDoorAgOpD
import Derived.Laws.AppendOwn
set_option linter.all false
namespace Go.Ag
open Go Go.RowKit

/-! ### build -/
def fillD (place : Nat → Option (Nat × Nat)) : List D → List (Nat × D) → Option (List D)
  | cells, [] => some cells
  | cells, (i, d) :: rest => match place i, d.cs with
    | some (off, size), some ds => if ds.length = size ∧ off + ds.length ≤ cells.length then fillD place (cells.take off ++ ds ++ cells.drop (off + ds.length)) rest else none
    | _, _ => none

theorem foldl_set (ds : List Value) : ∀ (off : Nat) (cells : Array Value), off + ds.length ≤ cells.size →
    (ds.toArray.zipIdx.foldl (fun cs (c, j) => cs.setIfInBounds (off + j) c) cells).toList = cells.toList.take off ++ ds ++ cells.toList.drop (off + ds.length) := by
  have key : ∀ (ds : List Value) (k off : Nat) (cells : Array Value), off + k + ds.length ≤ cells.size →
      ((ds.zipIdx k).foldl (fun (cs : Array Value) (x : Value × Nat) => cs.setIfInBounds (off + x.2) x.1) cells).toList = cells.toList.take (off + k) ++ ds ++ cells.toList.drop (off + k + ds.length) := by
    intro ds
    induction ds with
    | nil => intro k off cells _; simp
    | cons d ds ih =>
      intro k off cells h
      simp only [List.length_cons] at h
      rw [List.zipIdx_cons, List.foldl_cons, ih (k + 1) off _ (by simp; omega)]
      simp only [Array.toList_setIfInBounds]
      apply List.ext_getElem?
      intro i
      have e1 := splice_get (cells.toList.set (off + k) d) ds (off + (k + 1)) (by simp; omega) i
      have e2 := splice_get cells.toList (d :: ds) (off + k) (by simp; omega) i
      simp only [List.length_cons] at e2 ⊢
      rw [e1, e2, List.getElem?_set]
      by_cases c1 : i < off + k
      · rw [if_pos (by omega), if_neg (by omega), if_pos c1]
      · rw [if_neg c1]
        by_cases c2 : i = off + k
        · subst c2
          rw [if_pos (by omega), if_pos rfl, if_pos (by simp; omega), if_pos (by omega)]
          simp
        · rw [if_neg (show ¬ i < off + (k + 1) from by omega)]
          by_cases c3 : i < off + (k + 1) + ds.length
          · rw [if_pos c3, if_pos (by omega), show i - (off + k) = (i - (off + (k + 1))) + 1 from by omega, List.getElem?_cons_succ]
          · rw [if_neg c3, if_neg (by omega), if_neg (by omega)]
  intro off cells h
  have := key ds 0 off cells (by omega)
  simp only [Nat.add_zero] at this
  rw [← this]
  rw [← Array.foldl_toList]
  simp

theorem fill_sound {M : Mem} {μ : Mu} {place : Nat → Option (Nat × Nat)} : ∀ (parts : List (Nat × D)) (vparts : List (Nat × Value)) (cells : List D) (vcells : Array Value) (out : List D),
    parts.map (·.1) = vparts.map (·.1) → (∀ (i : Nat) (d : Nat × D) (v : Nat × Value), parts[i]? = some d → vparts[i]? = some v → Rel M μ d.2 v.2) → RelL M μ cells vcells.toList → fillD place cells parts = some out →
    ∃ vout, Instr.fill place vcells vparts = some vout ∧ RelL M μ out vout.toList
  | [], [], cells, vcells, out, _, _, hc, h => by simp [fillD] at h; subst h; exact ⟨vcells, rfl, hc⟩
  | [], _ :: _, _, _, _, hp, _, _, _ => by simp at hp
  | _ :: _, [], _, _, _, hp, _, _, _ => by simp at hp
  | (i, d) :: ps, (i', v) :: vs, cells, vcells, out, hp, hr, hc, h => by
    simp only [List.map_cons, List.cons.injEq] at hp
    obtain ⟨rfl, hp⟩ := hp
    have hd : Rel M μ d v := hr 0 (i, d) (i, v) rfl rfl
    simp only [fillD] at h
    cases hpl : place i with
    | none => simp [hpl] at h
    | some q =>
      cases hds : d.cs with
      | none => simp [hpl, hds] at h
      | some ds =>
        simp only [hpl, hds] at h
        split at h
        · rename_i hh
          obtain ⟨h1, _⟩ := hd.cells hds
          have hl := h1.length
          have hvl : v.cells.size = ds.length := by simpa using hl
          have hcl := hc.length
          simp only [Array.length_toList] at hcl
          have hfold := foldl_set v.cells.toList q.1 vcells (by rw [show v.cells.toList.length = v.cells.size from by simp, hvl, hcl]; exact hh.2)
          obtain ⟨vout, e1, e2⟩ := fill_sound ps vs _ (v.cells.toList.toArray.zipIdx.foldl (fun cs (c, j) => cs.setIfInBounds (q.1 + j) c) vcells) out hp (fun j d' v' a b => hr (j + 1) d' v' (by simpa using a) (by simpa using b)) (by
            rw [hfold]
            exact hc.splice h1 q.1) h
          refine ⟨vout, ?_, e2⟩
          simp only [Instr.fill, hpl]
          rw [if_neg (by simp [hvl]; omega)]
          exact e1
        · cases h

def aBuild (P : Program) (t : TypeId) (parts : List (Nat × D)) (K : D → Prop) : Prop :=
  match zerosB P t with
  | none => False
  | some z => (match tk P t with
    | .st _ fs => (match fillD (fun i => fs[i]?) z parts with | some cs => K (.agg cs) | none => False)
    | .ar _ esz _ => (match fillD (fun i => some (i * esz, esz)) z parts with | some cs => K (.agg cs) | none => False)
    | _ => False)

/-- Every field's type is known. -/
def knownB (P : Program) (t : TypeId) : Bool :=
  match P.underlying t with
  | some (.struct fs) => fs.toList.all fun f => (P.info? f.type).isSome
  | some (.array _ e) => (P.info? e).isSome
  | _ => false

theorem places_of {P : Program} : ∀ (fs : List Field), (fs.all fun f => (P.info? f.type).isSome) = true → fs.mapM (fun f => (P.info? f.type).map fun i => (f.offset, i.size)) = some (fs.map fun f => (f.offset, szB P f.type))
  | [], _ => rfl
  | f :: fs, h => by
    simp only [List.all_cons, Bool.and_eq_true] at h
    obtain ⟨i, hi⟩ := Option.isSome_iff_exists.1 h.1
    rw [List.mapM_cons, places_of fs h.2]
    simp [hi, szB]

theorem aBuild_sound {P : Program} {M : Mem} {μ : Mu} {w : World} {t : TypeId} (hk : knownB P t = true) {parts : List (Nat × D)} {vparts : Array (Nat × Value)} (hp : parts.map (·.1) = vparts.toList.map (·.1))
    (hr : ∀ (i : Nat) (d : Nat × D) (v : Nat × Value), parts[i]? = some d → vparts.toList[i]? = some v → Rel M μ d.2 v.2) {K : D → Prop} (k : aBuild P t parts K) :
    ∃ v d', (Instr.build t vparts).run P w = .ok v w ∧ Rel M μ d' v ∧ K d' := by
  unfold aBuild at k
  cases hz : zerosB P t with
  | none => simp [hz] at k
  | some z =>
    simp only [hz] at k
    obtain ⟨zv, _, rfl, i, hi, hiz⟩ := zerosB_spec hz
    have hzr : RelL M μ (zv.cells.toList.map ofC) zv.cells.toList := relL_ofC M μ _
    cases ht : tk P t <;> simp only [ht] at k
    case st sz fs =>
      obtain ⟨fields, i', hu, hi', _, rfl⟩ := tk_st ht
      cases hf : fillD (fun i => (fields.toList.map fun f => (f.offset, szB P f.type))[i]?) (zv.cells.toList.map ofC) parts with
      | none => simp only [hf] at k
      | some cs =>
        simp only [hf] at k
        obtain ⟨vout, h1, h2⟩ := fill_sound parts vparts.toList _ zv.cells cs hp hr hzr hf
        have hb : P.built t vparts.toList = some vout := by
          simp only [knownB, hu] at hk
          simp only [Program.built, hi, hu, hiz, places_of _ hk]
          simpa using h1
        exact ⟨_, _, run_build w t vparts vout hb, by simp only [Rel]; exact ⟨vout.toList, rfl, h2⟩, k⟩
    case ar n esz sz =>
      obtain ⟨e, i', hu, hi', _, rfl⟩ := tk_ar ht
      cases hf : fillD (fun i => some (i * szB P e, szB P e)) (zv.cells.toList.map ofC) parts with
      | none => simp only [hf] at k
      | some cs =>
        simp only [hf] at k
        obtain ⟨vout, h1, h2⟩ := fill_sound parts vparts.toList _ zv.cells cs hp hr hzr hf
        have hb : P.built t vparts.toList = some vout := by
          simp only [knownB, hu] at hk
          obtain ⟨ie, hie⟩ := Option.isSome_iff_exists.1 hk
          have hs : szB P e = ie.size := by simp [szB, hie]
          simp only [Program.built, hi, hu, hiz, hie]
          rw [hs] at h1
          exact h1
        exact ⟨_, _, run_build w t vparts vout hb, by simp only [Rel]; exact ⟨vout.toList, rfl, h2⟩, k⟩
    all_goals exact k.elim

/-! ### rows of an array -/
theorem Rows.of_flat {M : Mem} {μ : Mu} {sz : Nat} : ∀ {xs : List (List D)} {vs : List Value}, (∀ x ∈ xs, x.length = sz) → (∃ rest, vs = rest ∧ RelL M μ xs.flatten (rest.take (xs.length * sz))) → Rows M μ sz xs vs := by
  intro xs vs hl ⟨rest, e, hr⟩ i x hx
  subst e
  have hi : i < xs.length := (List.getElem?_eq_some_iff.1 hx).1
  refine ⟨hl x (List.mem_of_getElem? hx), RelL.of_get ?_ fun j d y hj hy => ?_⟩
  · have h1 := hr.length
    have h2 : xs.flatten.length = xs.length * sz := by
      clear hr hx hi h1
      induction xs with
      | nil => simp
      | cons a as ih => simp [hl a (by simp), ih (fun x hx => hl x (by simp [hx])), Nat.add_mul, Nat.add_comm]
    have h3 : (i + 1) * sz ≤ xs.length * sz := Nat.mul_le_mul_right _ hi
    rw [Nat.add_mul, Nat.one_mul] at h3
    have := hl x (List.mem_of_getElem? hx)
    rw [h2] at h1
    simp at h1 ⊢
    omega
  · have hjl : j < sz := by rw [← hl x (List.mem_of_getElem? hx)]; exact (List.getElem?_eq_some_iff.1 hj).1
    have h3 : (i + 1) * sz ≤ xs.length * sz := Nat.mul_le_mul_right _ hi
    rw [Nat.add_mul, Nat.one_mul] at h3
    have hf : xs.flatten[i * sz + j]? = some d := by
      clear hr h3 hi hy
      induction xs generalizing i with
      | nil => simp at hx
      | cons a as ih =>
        have ha := hl a (by simp)
        cases i with
        | zero =>
          simp at hx; subst hx
          rw [List.flatten_cons, List.getElem?_append_left (by omega)]
          simpa using hj
        | succ i =>
          rw [List.flatten_cons, List.getElem?_append_right (by rw [ha, Nat.add_mul]; omega), ha]
          rw [show (i + 1) * sz + j - sz = i * sz + j from by rw [Nat.add_mul]; omega]
          exact ih (fun x hx => hl x (by simp [hx])) i (by simpa using hx)
    obtain ⟨y', g1, g2⟩ := hr.get _ _ hf
    rw [List.getElem?_take, if_pos (by omega)] at g1
    rw [List.getElem?_take, if_pos hjl, List.getElem?_drop, g1] at hy
    cases hy; exact g2

/-- A new array. -/
theorem R.newArr {E : Env} {M : Mem} {μ : Mu} {H : List Ob} {w : World} (h : R E M μ H w) {sz : Nat} {xs : List (List D)} {vs : List Value} {cap : Nat} (hl : ∀ x ∈ xs, x.length = sz) (hv : vs.length = cap * sz) (hc : xs.length ≤ cap)
    (hr : RelL M μ xs.flatten (vs.take (xs.length * sz))) (t : TypeId) :
    ∃ μ', μ.le μ' ∧ R E M μ' (H ++ [.arr 1 sz xs 0]) (w.alloc (.cells vs.toArray t)) ∧ (∀ n, n ≤ cap → Rel M μ' (.own H.length 1 n) (.slice (some ⟨w.heap.size, 0, none⟩) n cap)) := by
  refine ⟨upd μ H.length ⟨w.heap.size, cap, 1⟩, Mu.le_upd_new h.mu_new, ?_, ?_⟩
  · refine h.push rfl ⟨h.below.size, rfl, Nat.le_refl _, fun o y hy => (by rw [h.imm_new o] at hy; cases hy), hc, vs, t, heap_alloc_new w _, hv, ?_⟩
    exact Rows.of_flat hl ⟨vs, rfl, RelL.mono (.refl _) (Mu.le_upd_new h.mu_new) hr⟩
  · intro n hn
    simp only [Rel]
    exact ⟨⟨_, _, _, rfl⟩, _, upd_self _ _ _, Nat.le_refl _, Nat.le_refl _, fun _ => ⟨hn, rfl⟩⟩

/-- A list cut into rows. -/
def chop (sz : Nat) : Nat → List D → List (List D)
  | 0, _ => []
  | n + 1, l => l.take sz :: chop sz n (l.drop sz)
theorem chop_length (sz : Nat) : ∀ (n : Nat) (l : List D), (chop sz n l).length = n
  | 0, _ => rfl
  | n + 1, l => by simp [chop, chop_length sz n]
theorem chop_rows (sz : Nat) : ∀ (n : Nat) (l : List D), l.length = n * sz → ∀ x ∈ chop sz n l, x.length = sz
  | 0, _, _, x, hx => by simp [chop] at hx
  | n + 1, l, h, x, hx => by
    rw [Nat.add_mul, Nat.one_mul] at h
    simp only [chop, List.mem_cons] at hx
    rcases hx with rfl | hx
    · simp; omega
    · exact chop_rows sz n _ (by simp; omega) x hx
theorem chop_flatten (sz : Nat) : ∀ (n : Nat) (l : List D), l.length = n * sz → (chop sz n l).flatten = l
  | 0, l, h => by simp at h; subst h; rfl
  | n + 1, l, h => by
    rw [Nat.add_mul, Nat.one_mul] at h
    simp only [chop, List.flatten_cons]
    rw [chop_flatten sz n _ (by simp; omega), List.take_append_drop]

def aBuildSlice (P : Program) (t : TypeId) (n : Nat) (parts : List (Nat × D)) (H : List Ob) (K : D → List Ob → Prop) : Prop :=
  match tk P t with
  | .sl e esz _ => n * esz ≤ 16777216 ∧ (match zerosB P e with
    | some z => z.length = esz ∧ (match fillD (fun i => some (i * esz, esz)) (List.replicate n z).flatten parts with
      | some cs => K (.own H.length 1 n) (H ++ [.arr 1 esz (chop esz n cs) 0])
      | none => False)
    | none => False)
  | _ => False

theorem fillD_length {place : Nat → Option (Nat × Nat)} : ∀ (parts : List (Nat × D)) (cells out : List D), fillD place cells parts = some out → out.length = cells.length
  | [], cells, out, h => by simp [fillD] at h; rw [h]
  | (i, d) :: ps, cells, out, h => by
    simp only [fillD] at h
    split at h
    · split at h
      · rename_i hh
        rw [fillD_length ps _ _ h, splice_length _ _ _ hh.2]
      · cases h
    · cases h

theorem zeros_range (z : List Value) (n : Nat) : ((Array.range (n * z.length)).map fun i => z.toArray[i % z.toArray.size]!).toList = (List.replicate n z).flatten := by
  simp only [Array.toList_map, Array.toList_range, List.size_toArray]
  induction n with
  | zero => simp
  | succ n ih =>
    by_cases hz : z.length = 0
    · have : z = [] := List.eq_nil_of_length_eq_zero hz
      subst this; simp
    rw [Nat.add_mul, Nat.one_mul, List.range_add, List.map_append, ih, List.replicate_succ']
    rw [List.flatten_append, List.flatten_singleton]
    congr 1
    apply List.ext_getElem?
    intro j
    simp only [List.map_map]
    rw [List.getElem?_map]
    by_cases hj : j < z.length
    · rw [List.getElem?_range hj]
      simp only [Option.map_some, Function.comp]
      have : (n * z.length + j) % z.length = j := by rw [Nat.mul_comm, Nat.mul_add_mod, Nat.mod_eq_of_lt hj]
      rw [this]
      simp [hj]
    · rw [List.getElem?_eq_none (by simp; omega), List.getElem?_eq_none (by omega)]; rfl

theorem relL_zeros (M : Mem) (μ : Mu) (vs : List Value) : ∀ n, RelL M μ (List.replicate n (vs.map ofC)).flatten (List.replicate n vs).flatten
  | 0 => by simp [RelL]
  | n + 1 => by rw [List.replicate_succ, List.replicate_succ, List.flatten_cons, List.flatten_cons]; exact (relL_ofC M μ vs).append (relL_zeros M μ vs n)

theorem aBuildSlice_sound {E : Env} {M : Mem} {μ : Mu} {H : List Ob} {w : World} (h : R E M μ H w) {t : TypeId} {n : Nat} {parts : List (Nat × D)} {vparts : Array (Nat × Value)} (hp : parts.map (·.1) = vparts.toList.map (·.1))
    (hr : ∀ (i : Nat) (d : Nat × D) (v : Nat × Value), parts[i]? = some d → vparts.toList[i]? = some v → Rel M μ d.2 v.2) {K : D → List Ob → Prop} (k : aBuildSlice E.P t n parts H K) :
    Ok E M μ (Instr.buildSlice t n vparts) w K := by
  unfold aBuildSlice at k
  cases ht : tk E.P t <;> simp only [ht] at k
  case sl e esz bytes =>
    obtain ⟨j, hu, hj, hsz, hby⟩ := tk_sl ht
    obtain ⟨hmax, k⟩ := k
    cases hz : zerosB E.P e with
    | none => simp [hz] at k
    | some z =>
      simp only [hz] at k
      obtain ⟨hzl, k⟩ := k
      obtain ⟨zv, hzr, rfl, i, hi, hiz⟩ := zerosB_spec hz
      have hzl' : zv.cells.size = esz := by simpa using hzl
      cases hf : fillD (fun i => some (i * esz, esz)) (List.replicate n (zv.cells.toList.map ofC)).flatten parts with
      | none => simp [hf] at k
      | some cs =>
        simp only [hf] at k
        have hcs : cs.length = n * esz := by rw [fillD_length _ _ _ hf]; simp [hzl']
        have hz0 : RelL M μ (List.replicate n (zv.cells.toList.map ofC)).flatten ((Array.range (n * esz)).map (fun i => zv.cells[i % zv.cells.size]!)).toList := by
          have := zeros_range zv.cells.toList n
          simp only [Array.length_toList, Array.toArray_toList, hzl'] at this
          rw [hzl', this]
          exact relL_zeros M μ _ n
        obtain ⟨vout, h1, h2⟩ := fill_sound parts vparts.toList _ ((Array.range (n * esz)).map (fun i => zv.cells[i % zv.cells.size]!)) cs hp hr hz0 hf
        obtain ⟨μ', g1, g2, g3⟩ := h.newArr (xs := chop esz n cs) (vs := vout.toList) (cap := n) (chop_rows esz n cs hcs) (by rw [h2.length, hcs]) (by rw [chop_length]; exact Nat.le_refl _)
          (by rw [chop_flatten esz n cs hcs, chop_length, List.take_of_length_le (by rw [h2.length, hcs]; exact Nat.le_refl _)]; exact h2) e
        refine ⟨_, _, _, M, μ', _, ?_, .refl _, g1, g2, g3 n (Nat.le_refl _), k⟩
        have hne : ¬ 16777216 < n * esz := by omega
        by_cases h0 : n * esz = 0
        · have e0 : (Array.range (n * esz)).map (fun i => zv.cells[i % zv.cells.size]!) = #[] := by simp [h0]
          rw [e0] at h1
          have hr0 : Array.range 0 = #[] := rfl
          rcases Nat.mul_eq_zero.1 h0 with en | en
          · subst en
            simp [Instr.buildSlice, run_underlying hu, sizeOf, typeInfo, hj, hsz, newRow, hr0, h1]
          · rw [en] at h1
            simp only [Nat.mul_zero] at h1
            simp [Instr.buildSlice, run_underlying hu, sizeOf, typeInfo, hj, newRow, hsz, en, hr0, h1]
        · simp [Instr.buildSlice, run_underlying hu, sizeOf, typeInfo, hj, hsz, hne, h0, hzr, h1, newRow]
  all_goals exact k.elim

end Go.Ag
