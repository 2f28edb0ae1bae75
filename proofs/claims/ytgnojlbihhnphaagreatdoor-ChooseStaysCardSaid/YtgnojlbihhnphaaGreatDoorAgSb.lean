import Derived.Test.YtgnojlbihhnphaaGreatDoorAgSa
import Derived.Laws.CopyRow
import Derived.Lib.AppendZerosOnto
import Derived.StillTail
import Derived.IntWalk
import Derived.Sort.Row
import Derived.Sort.Grow
import Derived.Lib.Join
set_option linter.all false
/- AGo, part 32: stretches of arrays of one's own: clear, copy, cap. -/
namespace Go.Ag
open Go Go.RowKit

/-- The rows that lie behind a slice's begin. -/
def seg (xs : List (List D)) (off : Nat) (rows : List (List D)) : List (List D) := xs.take off ++ rows ++ xs.drop (off + rows.length)
theorem seg_len {xs rows : List (List D)} {off : Nat} (h : off + rows.length ≤ xs.length) : (seg xs off rows).length = xs.length := by
  simp only [seg, List.length_append, List.length_take, List.length_drop]; omega
theorem seg_get {xs rows : List (List D)} {off i : Nat} (h : off + rows.length ≤ xs.length) : (seg xs off rows)[i]? = if i < off then xs[i]? else if i < off + rows.length then rows[i - off]? else xs[i]? := by
  unfold seg
  by_cases h1 : i < off
  · rw [if_pos h1, List.append_assoc, List.getElem?_append_left (by simp; omega), List.getElem?_take_of_lt h1]
  · rw [if_neg h1, List.append_assoc, List.getElem?_append_right (by simp; omega)]
    have e : (xs.take off).length = off := by simp; omega
    rw [e]
    by_cases h2 : i < off + rows.length
    · rw [if_pos h2, List.getElem?_append_left (by omega)]
    · rw [if_neg h2, List.getElem?_append_right (by omega), List.getElem?_drop]
      congr 1; omega

/-- A stretch of an array is written. -/
theorem R.setSeg {E : Env} {M : Mem} {μ : Mu} {H : List Ob} {w : World} (hr : R E M μ H w) {b ver sz esc off : Nat} {xs rows : List (List D)} {cs : List Value} {p : Pt} (hb : H[b]? = some (.arr ver sz xs esc)) (hp : μ b = some p)
    (hesc : esc ≤ off) (hfit : off + rows.length ≤ xs.length) (hrl : ∀ r ∈ rows, r.length = sz) (hcs : RelL M μ rows.flatten cs) :
    ∃ cur t, w.heap[p.blk]? = some (.cells cur t (0, 0)) ∧ off * sz + cs.length ≤ cur.size ∧ cs.length = rows.length * sz ∧ R E M μ (H.set b (.arr ver sz (seg xs off rows) esc)) (w.setRow p.blk (cur.toList.take (off * sz) ++ cs ++ cur.toList.drop (off * sz + cs.length)).toArray) := by
  obtain ⟨h1, h2, h3, h4, h5, vs, t, h6, h7, h8⟩ := hr.obj b _ p hb hp
  have hcl : cs.length = rows.length * sz := by rw [hcs.length, flatten_len hrl]
  have hcap : (off + rows.length) * sz ≤ p.cap * sz := Nat.mul_le_mul_right _ (by omega)
  rw [Nat.add_mul] at hcap
  have hsize : vs.toArray.size = p.cap * sz := by simp [h7]
  refine ⟨vs.toArray, t, h6, by rw [hsize, hcl]; exact hcap, hcl, ?_⟩
  have hh := setRow_heap w p.blk vs.toArray (vs.toArray.toList.take (off * sz) ++ cs ++ vs.toArray.toList.drop (off * sz + cs.length)).toArray t (0, 0) h6
  refine hr.setOb hb (by simp) hp rfl rfl rfl (by simp) (fun k hk => setRow_other w p.blk k _ hk) (fun o y hy => ?_) ?_
  · have ho : o < off * sz := Nat.lt_of_lt_of_le (h4 o y hy) (Nat.mul_le_mul_right _ hesc)
    have := hr.imm _ _ _ hy
    rw [cell_setRow_same w p.blk o _ _ t (0, 0) h6]
    rw [cell?_block h6] at this
    simp only [List.getElem?_toArray]
    rw [List.append_assoc, List.getElem?_append_left (by simp; have := (List.getElem?_eq_some_iff.1 this).1; omega), List.getElem?_take_of_lt ho]
    simpa using this
  · refine ⟨h1, h2, h3, h4, by rw [seg_len hfit]; exact h5, _, t, hh, ?_, fun i x hx => ?_⟩
    · simp only [List.length_append, List.length_take, List.length_drop, h7, List.toList_toArray]; omega
    · rw [seg_get hfit] at hx
      have hdt : ∀ (i : Nat) (l : List Value), l.length = p.cap * sz → i < off ∨ off + rows.length ≤ i → ((l.take (off * sz) ++ cs ++ l.drop (off * sz + cs.length)).drop (i * sz)).take sz = (l.drop (i * sz)).take sz := by
        intro i l hl hi
        apply List.ext_getElem?
        intro j
        rw [List.getElem?_take, List.getElem?_take]
        split
        · rename_i hj
          rw [List.getElem?_drop, List.getElem?_drop]
          rcases hi with hi | hi
          · have hlt : i * sz + j < off * sz := by
              have : (i + 1) * sz ≤ off * sz := Nat.mul_le_mul_right _ hi
              rw [Nat.add_mul] at this; omega
            rw [List.append_assoc, List.getElem?_append_left (by simp; omega), List.getElem?_take_of_lt hlt]
          · have hge : off * sz + cs.length ≤ i * sz + j := by
              have : (off + rows.length) * sz ≤ i * sz := Nat.mul_le_mul_right _ hi
              rw [Nat.add_mul] at this; omega
            rw [List.getElem?_append_right (by simp; omega), List.getElem?_drop]
            congr 1
            simp only [List.length_append, List.length_take]; omega
        · rfl
      split at hx
      · rename_i hi
        have := h8 i x hx
        rw [List.toList_toArray, hdt i vs h7 (.inl hi)]
        exact this
      · rename_i hi
        split at hx
        · rename_i hi2
          have hxl : x.length = sz := hrl x (List.mem_of_getElem? hx)
          refine ⟨hxl, ?_⟩
          have hseg : ((vs.take (off * sz) ++ cs ++ vs.drop (off * sz + cs.length)).drop (i * sz)).take sz = (cs.drop ((i - off) * sz)).take sz := by
            apply List.ext_getElem?
            intro j
            rw [List.getElem?_take, List.getElem?_take]
            split
            · rename_i hj
              rw [List.getElem?_drop, List.getElem?_drop]
              have e1 : i * sz = off * sz + (i - off) * sz := by rw [← Nat.add_mul]; congr 1; omega
              have e2 : (i - off + 1) * sz ≤ rows.length * sz := Nat.mul_le_mul_right _ (by omega)
              rw [Nat.add_mul] at e2
              have e3 : (vs.take (off * sz)).length = off * sz := by simp; omega
              rw [List.append_assoc, List.getElem?_append_right (by rw [e3]; omega), e3, List.getElem?_append_left (by omega)]
              congr 1; omega
            · rfl
          rw [List.toList_toArray, hseg]
          have hrows : Rows M μ sz rows cs := Rows.of_flat hrl ⟨cs, rfl, by rw [← hcl, List.take_length]; exact hcs⟩
          exact (hrows (i - off) x hx).2
        · rename_i hi2
          have := h8 i x hx
          rw [List.toList_toArray, hdt i vs h7 (.inr (by omega))]
          exact this

theorem flat_take {α : Type} {sz : Nat} : ∀ {xs : List (List α)}, (∀ x ∈ xs, x.length = sz) → ∀ k, (xs.take k).flatten = xs.flatten.take (min xs.length k * sz)
  | [], _, k => by simp
  | x :: xs, h, 0 => by simp
  | x :: xs, h, k + 1 => by
    have hx := h x (by simp)
    have ih := flat_take (xs := xs) (fun y hy => h y (List.mem_cons_of_mem _ hy)) k
    have e : min (x :: xs).length (k + 1) = min xs.length k + 1 := by simp only [List.length_cons]; omega
    have e2 : (x ++ xs.flatten).take ((min xs.length k + 1) * sz) = x ++ xs.flatten.take (min xs.length k * sz) := by
      rw [List.take_append, List.take_of_length_le (by rw [hx, Nat.add_mul]; omega), hx]
      congr 2
      rw [Nat.add_mul]; omega
    rw [List.take_succ_cons, List.flatten_cons, List.flatten_cons, ih, e, e2]
theorem flat_rep {α : Type} (l : List α) : ∀ (n i : Nat), (List.replicate n l).flatten[i]? = if i < n * l.length then l[i % l.length]? else none
  | 0, i => by simp
  | n + 1, i => by
    rw [List.replicate_succ, List.flatten_cons]
    by_cases h : i < l.length
    · rw [List.getElem?_append_left h, if_pos (by rw [Nat.add_mul]; omega), Nat.mod_eq_of_lt h]
    · rw [List.getElem?_append_right (by omega), flat_rep l n (i - l.length)]
      by_cases h2 : i < (n + 1) * l.length
      · rw [if_pos (by rw [Nat.add_mul] at h2; omega), if_pos h2, ← Nat.mod_eq_sub_mod (by omega)]
      · rw [if_neg (by rw [Nat.add_mul] at h2; omega), if_neg h2]
theorem zeroCells_list (z : Array Value) (n : Nat) : (Builtin.zeroCells z n).toList = (List.replicate n z.toList).flatten := by
  apply List.ext_getElem?
  intro i
  rw [flat_rep, Array.length_toList]
  simp only [Builtin.zeroCells, Array.getElem?_toList, Array.getElem?_map]
  by_cases h : i < n * z.size
  · rw [if_pos h]
    have hz : 0 < z.size := by
      rcases Nat.eq_zero_or_pos z.size with e | e
      · rw [e] at h; omega
      · exact e
    have hm := Nat.mod_lt i hz
    rw [Array.getElem?_range, if_pos h]
    simp [hm]
  · rw [if_neg h, Array.getElem?_range, if_neg h]
    rfl

/-! ### clear -/
def aClear (P : Program) (t : TypeId) (d : D) (H : List Ob) (K : List Ob → Prop) : Prop :=
  match tk P t with
  | .sl e esz _ => (match zerosB P e with
    | none => False
    | some z => z.length = esz ∧ z.all D.cell = true ∧ (match d with
      | .nils => K H
      | .sub b ver sz off len _ => sz = esz ∧ (match H[b]? with
        | some (.arr ver' sz' xs esc) => ver' = ver ∧ sz' = esz ∧ esc ≤ off ∧ off + len ≤ xs.length ∧ K (H.set b (.arr ver esz (seg xs off (List.replicate len z)) esc))
        | _ => False)
      | .own b ver len => (match H[b]? with
        | some (.arr ver' sz' xs esc) => ver' = ver ∧ sz' = esz ∧ esc = 0 ∧ len ≤ xs.length ∧ K (H.set b (.arr ver esz (seg xs 0 (List.replicate len z)) 0))
        | _ => False)
      | _ => False))
  | _ => False
theorem aClear_mono {P : Program} {t : TypeId} {d : D} {H : List Ob} {K K' : List Ob → Prop} (hk : ∀ H, K H → K' H) (h : aClear P t d H K) : aClear P t d H K' := by
  unfold aClear at *
  split at h
  · split at h
    · exact h.elim
    · refine ⟨h.1, h.2.1, ?_⟩
      have h := h.2.2
      split at h
      · exact hk _ h
      · refine ⟨h.1, ?_⟩
        have h := h.2
        split at h
        · exact ⟨h.1, h.2.1, h.2.2.1, h.2.2.2.1, hk _ h.2.2.2.2⟩
        · exact h.elim
      · split at h
        · exact ⟨h.1, h.2.1, h.2.2.1, h.2.2.2.1, hk _ h.2.2.2.2⟩
        · exact h.elim
      · exact h.elim
  · exact h.elim
theorem clear_seg {E : Env} {M : Mem} {μ : Mu} {H : List Ob} {w : World} (h : R E M μ H w) {t ty e : TypeId} {b ver esz esc off len c : Nat} {xs : List (List D)} {A : Option Addr} {p : Pt} {zv : Value} (hu : E.P.underlying t = some (.slice e)) (hz : ∀ w, (zeroValue e).run E.P w = .ok zv w) (hone : ∀ v ∈ zv.cells.toList, v.oneCell' = true) (hzl : (zv.cells.toList.map ofC).length = esz)
    (hb : H[b]? = some (.arr ver esz xs esc)) (hp : μ b = some p) (hesc : esc ≤ off) (hfit : off + len ≤ xs.length) (hA : len ≠ 0 → A = some ⟨p.blk, off * esz, none⟩) :
    ∃ w', (Builtin.clear_ #[t] ty #[.slice A len c]).run E.P w = .ok (.tuple #[]) w' ∧ R E M μ (H.set b (.arr ver esz (seg xs off (List.replicate len (zv.cells.toList.map ofC))) esc)) w' := by
  by_cases hl : len = 0
  · subst hl
    refine ⟨w, ?_, ?_⟩
    · cases A <;> simp [Builtin.clear_, run_underlying hu]
    · have e1 : seg xs off (List.replicate 0 (zv.cells.toList.map ofC)) = xs := by simp [seg]
      rw [e1]
      have e2 : H.set b (.arr ver esz xs esc) = H := by
        apply List.ext_getElem?
        intro i
        by_cases e : b = i
        · subst e; rw [List.getElem?_set_self (List.getElem?_eq_some_iff.1 hb).1, hb]
        · rw [List.getElem?_set_ne e]
      rw [e2]; exact h
  · rw [hA hl]
    obtain ⟨cur, tt, g1, g2, g3, g4⟩ := h.setSeg (rows := List.replicate len (zv.cells.toList.map ofC)) (cs := (List.replicate len zv.cells.toList).flatten) hb hp hesc (by simpa using hfit) (fun r hr => by rw [List.eq_of_mem_replicate hr]; exact hzl) (relL_zeros M μ _ _)
    refine ⟨_, ?_, g4⟩
    have hst := run_storeCells_at E.P p.blk (off * esz) tt (List.replicate len zv.cells.toList).flatten 0 cur w g1 (by simpa using g2) (fun v hv => by
      obtain ⟨l, hl1, hl2⟩ := List.mem_flatten.1 hv
      rw [List.eq_of_mem_replicate hl1] at hl2
      exact hone v hl2)
    rw [Nat.add_zero] at hst
    obtain ⟨n, rfl⟩ : ∃ n, len = n + 1 := ⟨len - 1, by omega⟩
    simp [Builtin.clear_, run_underlying hu, Result.andThen, hz, zeroCells_list, hst]

theorem ofC_cells {zv : Value} (h : (zv.cells.toList.map ofC).all D.cell = true) : ∀ v ∈ zv.cells.toList, v.oneCell' = true := fun v hv => by
  have h1 := List.all_eq_true.1 h (ofC v) (List.mem_map.2 ⟨v, hv, rfl⟩)
  have h2 := relL_ofC (fun _ _ => none) (fun _ => none) [v]
  simp only [List.map_cons, List.map_nil, RelL] at h2
  obtain ⟨y, ys, e, h2, _⟩ := h2
  cases e
  exact h2.one h1
theorem aClear_sound {E : Env} {M : Mem} {μ : Mu} {H : List Ob} {w : World} (h : R E M μ H w) {t ty : TypeId} {d : D} {y : Value} (hy : Rel M μ d y) {K : List Ob → Prop} (k : aClear E.P t d H K) :
    ∃ w' H', (Builtin.clear_ #[t] ty #[y]).run E.P w = .ok (.tuple #[]) w' ∧ R E M μ H' w' ∧ K H' := by
  unfold aClear at k
  split at k
  · rename_i e esz by_ ht
    obtain ⟨i, hu, hi, hsz, hby⟩ := tk_sl ht
    split at k
    · exact k.elim
    · rename_i z hz
      obtain ⟨hzl, hzc, k⟩ := k
      obtain ⟨zv, hzr, rfl, _⟩ := zerosB_spec hz
      have hone := ofC_cells hzc
      split at k
      · simp only [Rel] at hy; subst hy
        exact ⟨w, H, by simp [Builtin.clear_, run_underlying hu], h, k⟩
      · rename_i b ver sz off len cap
        obtain ⟨rfl, k⟩ := k
        split at k
        · rename_i ver' sz' xs esc hb
          obtain ⟨rfl, rfl, hesc, hfit, k⟩ := k
          simp only [Rel] at hy
          obtain ⟨_, p, hp, _, _, hy⟩ := hy
          obtain ⟨_, hver, _, _, hcap, _⟩ := h.obj b _ p hb hp
          obtain ⟨_, hle, A, rfl, hA⟩ := hy hver
          obtain ⟨w', g1, g2⟩ := clear_seg (ty := ty) (c := p.cap - off) (A := A) h hu hzr hone hzl hb hp hesc hfit (fun hl => hA (by omega))
          exact ⟨w', _, g1, g2, k⟩
        · exact k.elim
      · rename_i b ver len
        split at k
        · rename_i ver' sz' xs esc hb
          obtain ⟨rfl, rfl, rfl, hfit, k⟩ := k
          simp only [Rel] at hy
          obtain ⟨_, p, hp, _, _, hy⟩ := hy
          obtain ⟨_, hver, _, _, hcap, _⟩ := h.obj b _ p hb hp
          obtain ⟨_, rfl⟩ := hy hver
          obtain ⟨w', g1, g2⟩ := clear_seg (ty := ty) (off := 0) (len := len) (c := p.cap) (A := some ⟨p.blk, 0, none⟩) h hu hzr hone hzl hb hp (Nat.le_refl _) (by omega) (fun _ => by rw [Nat.zero_mul])
          exact ⟨w', _, g1, g2, k⟩
        · exact k.elim
      · exact k.elim
  · exact k.elim

/-! ### cap -/
def aCap (P : Program) (t : TypeId) (d : D) (H : List Ob) (K : D → Prop) : Prop :=
  match d with
  | .sub b ver _ off _ (some c) => (match tk P t with | .sl _ _ _ => vOk H b ver ∧ off ≤ c ∧ K (.v (.int .i64 (c - off : Nat))) | _ => False)
  | .nils => (match tk P t with | .sl _ _ _ => K (.v (.int .i64 0)) | _ => False)
  | _ => False
theorem aCap_mono {P : Program} {t : TypeId} {d : D} {H : List Ob} {K K' : D → Prop} (hk : ∀ d, K d → K' d) (h : aCap P t d H K) : aCap P t d H K' := by
  unfold aCap at *
  split at h
  · split at h
    · exact ⟨h.1, h.2.1, hk _ h.2.2⟩
    · exact h.elim
  · split at h
    · exact hk _ h
    · exact h.elim
  · exact h.elim
theorem aCap_sound {E : Env} {M : Mem} {μ : Mu} {H : List Ob} {w : World} (h : R E M μ H w) {t ty : TypeId} {d : D} {y : Value} (hy : Rel M μ d y) {K : D → Prop} (k : aCap E.P t d H K) :
    ∃ v d', (Builtin.cap_ #[t] ty #[y]).run E.P w = .ok v w ∧ Rel M μ d' v ∧ K d' := by
  unfold aCap at k
  split at k
  · rename_i b ver sz off len c
    split at k
    · rename_i e esz by_ ht
      obtain ⟨i, hu, hi, hsz, hby⟩ := tk_sl ht
      obtain ⟨hv, hoc, k⟩ := k
      simp only [Rel] at hy
      obtain ⟨_, p, hp, _, _, hy⟩ := hy
      obtain ⟨hc, hle, A, rfl, hA⟩ := hy (vOk_ver h hv hp)
      have hc := hc c rfl
      exact ⟨goInt (p.cap - off : Nat), _, by simp [Builtin.cap_, run_underlying hu], by rw [hc]; simp only [Rel, RelV]; rfl, k⟩
    · exact k.elim
  · split at k
    · rename_i e esz by_ ht
      obtain ⟨i, hu, hi, hsz, hby⟩ := tk_sl ht
      simp only [Rel] at hy; subst hy
      exact ⟨goInt 0, _, by simp [Builtin.cap_, run_underlying hu], by simp only [Rel, RelV]; rfl, k⟩
    · exact k.elim
  · exact k.elim

/-! ### copy -/
def aSrcS (x : D) (H : List Ob) (sz m : Nat) (K : List (List D) → Prop) : Prop :=
  match x with
  | .sub b ver sz0 off len _ => (match H[b]? with
    | some (.arr ver' sz' xs _) => ver' = ver ∧ sz' = sz ∧ sz0 = sz ∧ off + min len m ≤ xs.length ∧ (((xs.drop off).take (min len m)).all (·.all D.cell)) = true ∧ K ((xs.drop off).take (min len m))
    | _ => False)
  | x => aSrc x H sz fun rows => K (rows.take m)
theorem aSrcS_sound {E : Env} {M : Mem} {μ : Mu} {H : List Ob} {w : World} (h : R E M μ H w) {x : D} {y : Value} (hy : Rel M μ x y) {sz m : Nat} {K : List (List D) → Prop} (k : aSrcS x H sz m K) :
    ∃ rows A n c, K rows ∧ y = .slice A n c ∧ rows.length = min n m ∧ (∀ r ∈ rows, r.length = sz) ∧ (rows = [] ∨ ∃ a news, A = some a ∧ RelL M μ rows.flatten news ∧ (∀ v ∈ news, v.oneCell' = true) ∧ ∀ j u, news[j]? = some u → w.cell? (a.add j) = some u) := by
  unfold aSrcS at k
  split at k
  · rename_i b ver sz0 off len cap
    split at k
    · rename_i ver' sz1 xs esc hb
      obtain ⟨rfl, rfl, rfl, hfit, hcells, k⟩ := k
      simp only [Rel] at hy
      obtain ⟨_, p, hp, _, _, hy⟩ := hy
      obtain ⟨_, hver, _, _, hcap, vs, tt, hbk, hvl, hv⟩ := h.obj b _ p hb hp
      obtain ⟨_, hle, A, rfl, hA⟩ := hy hver
      generalize hq : min len m = q at *
      have hl2 : ((xs.drop off).take q).length = q := by simp; omega
      have hrows : Rows M μ sz0 ((xs.drop off).take q) (vs.drop (off * sz0)) := fun i x hx => by
        rw [List.getElem?_take] at hx
        split at hx
        · rw [List.getElem?_drop] at hx
          have := hv (off + i) x hx
          rw [List.drop_drop]
          rw [show off * sz0 + i * sz0 = (off + i) * sz0 from (Nat.add_mul _ _ _).symm]
          exact this
        · simp at hx
      have hfl := hrows.flat (by rw [hl2, List.length_drop, hvl, ← Nat.sub_mul]; exact Nat.mul_le_mul_right _ (by omega))
      refine ⟨_, _, _, _, k, rfl, by rw [hl2, hq], hrows.len, ?_⟩
      by_cases h0 : q = 0
      · left; subst h0; simp
      · right
        refine ⟨⟨p.blk, off * sz0, none⟩, _, hA (by omega), hfl, ?_, ?_⟩
        · intro v hv'
          obtain ⟨i, hi⟩ := List.mem_iff_getElem?.1 hv'
          have hil : i < ((xs.drop off).take q).flatten.length := by rw [← hfl.length]; exact (List.getElem?_eq_some_iff.1 hi).1
          obtain ⟨y', g1, g2⟩ := hfl.get i _ (List.getElem?_eq_getElem hil)
          rw [hi] at g1; cases g1
          refine g2.one ?_
          obtain ⟨q, hq1, hq2⟩ := List.mem_flatten.1 (List.getElem_mem hil)
          exact List.all_eq_true.1 (List.all_eq_true.1 hcells q hq1) _ hq2
        · intro j u hj
          rw [List.getElem?_take] at hj
          split at hj
          · rw [List.getElem?_drop] at hj
            rw [Addr.add_mid, cell?_block hbk]; exact hj
          · simp at hj
    · exact k.elim
  · obtain ⟨rows, A, c, k, rfl, hrl, hsrc⟩ := aSrc_sound h hy k
    refine ⟨rows.take m, A, _, c, k, rfl, by rw [List.length_take, Nat.min_comm], fun r hr => hrl r (List.mem_of_mem_take hr), ?_⟩
    rcases hsrc with rfl | ⟨a, news, rfl, g1, g2, g3⟩
    · left; simp
    · right
      refine ⟨a, news.take (min rows.length m * sz), rfl, ?_, fun v hv => g2 v (List.mem_of_mem_take hv), fun j u hj => ?_⟩
      · rw [flat_take hrl]; exact g1.take _
      · rw [List.getElem?_take] at hj
        split at hj
        · exact g3 j u hj
        · cases hj
def aCopy (P : Program) (t : TypeId) (d x : D) (H : List Ob) (K : D → List Ob → Prop) : Prop :=
  match tk P t, d with
  | .sl _ esz _, .sub b ver sz off len _ => aSrcS x H esz len fun rows => sz = esz ∧ (match H[b]? with
      | some (.arr ver' sz' xs esc) => ver' = ver ∧ sz' = esz ∧ esc ≤ off ∧ off + rows.length ≤ xs.length ∧ K (.v (.int .i64 (rows.length : Nat))) (H.set b (.arr ver esz (seg xs off rows) esc))
      | _ => False)
  | _, _ => False
theorem aSrcS_mono {x : D} {H : List Ob} {sz m : Nat} {K K' : List (List D) → Prop} (hk : ∀ r, K r → K' r) (h : aSrcS x H sz m K) : aSrcS x H sz m K' := by
  unfold aSrcS at *
  split at h
  · split at h
    · exact ⟨h.1, h.2.1, h.2.2.1, h.2.2.2.1, h.2.2.2.2.1, hk _ h.2.2.2.2.2⟩
    · exact h.elim
  · rename_i hne
    unfold aSrc at *
    split at h
    · exact hk _ h
    · exact ⟨h.1, hk _ h.2⟩
    · split at h
      · exact ⟨h.1, h.2.1, h.2.2.1, h.2.2.2.1, hk _ h.2.2.2.2⟩
      · exact h.elim
    · exact h.elim
theorem aCopy_mono {P : Program} {t : TypeId} {d x : D} {H : List Ob} {K K' : D → List Ob → Prop} (hk : ∀ d H, K d H → K' d H) (h : aCopy P t d x H K) : aCopy P t d x H K' := by
  unfold aCopy at *
  split at h
  · refine aSrcS_mono (fun rows hr => ?_) h
    refine ⟨hr.1, ?_⟩
    have hr := hr.2
    split at hr
    · exact ⟨hr.1, hr.2.1, hr.2.2.1, hr.2.2.2.1, hk _ _ hr.2.2.2.2⟩
    · exact hr.elim
  · exact h.elim
theorem aCopy_sound {E : Env} {M : Mem} {μ : Mu} {H : List Ob} {w : World} (h : R E M μ H w) {t t2 ty : TypeId} {d x : D} {y z : Value} (hy : Rel M μ d y) (hx : Rel M μ x z) {K : D → List Ob → Prop} (k : aCopy E.P t d x H K) :
    Ok E M μ (Builtin.copy_ #[t, t2] ty #[y, z]) w K := by
  unfold aCopy at k
  split at k
  · rename_i e esz by_ b ver sz off len cap ht
    obtain ⟨i, hu, hi, hsz, hby⟩ := tk_sl ht
    obtain ⟨rows, A, n, c, ⟨rfl, k⟩, rfl, hrn, hrl, hsrc⟩ := aSrcS_sound h hx k
    split at k
    · rename_i ver' sz' xs esc hb
      obtain ⟨rfl, rfl, hesc, hfit, k⟩ := k
      simp only [Rel] at hy
      obtain ⟨_, p, hp, _, _, hy⟩ := hy
      obtain ⟨_, hver, _, _, hcap, _⟩ := h.obj b _ p hb hp
      obtain ⟨_, hle, B, rfl, hB⟩ := hy hver
      rw [hrn] at hfit k
      have hnn : Rel M μ (.v (.int .i64 (min n len : Nat))) (goInt (min n len : Nat)) := by simp only [Rel, RelV]; rfl
      by_cases h0 : min n len = 0
      · have e1 : rows = [] := List.eq_nil_of_length_eq_zero (by rw [hrn, h0])
        have e2 : H.set b (.arr ver' sz' (seg xs off rows) esc) = H := by
          rw [e1]
          have : seg xs off [] = xs := by simp [seg]
          rw [this]
          apply List.ext_getElem?
          intro i
          by_cases e : b = i
          · subst e; rw [List.getElem?_set_self (List.getElem?_eq_some_iff.1 hb).1, hb]
          · rw [List.getElem?_set_ne e]
        rw [e2] at k
        have h0' : Nat.min n len = 0 := h0
        refine ⟨_, w, _, M, μ, H, ?_, .refl _, .refl _, h, hnn, k⟩
        have hf : (Builtin.firstCells i.size 0 (.slice A n c)).run E.P w = .ok #[] w := by
          cases A with
          | none => exact run_firstCells_none w i.size 0 _ _
          | some a => exact run_firstCells_some w i.size 0 a _ _ [] (by simp) (fun j v hj => by simp at hj)
        cases B <;> simp [Builtin.copy_, run_underlying hu, Builtin.lenOf, sizeOf, typeInfo, hi, h0', hf, h0, storeCells, Result.andThen]
      · rcases hsrc with rfl | ⟨a, news, rfl, hn1, hn2, hn3⟩
        · simp at hrn; omega
        have hB := hB (by omega)
        subst hB
        have hnl : news.length = rows.length * sz' := by rw [hn1.length, flatten_len hrl]
        obtain ⟨cur, tt, g1, g2, g3, g4⟩ := h.setSeg (rows := rows) hb hp hesc (by rw [hrn]; exact hfit) hrl hn1
        have hld := run_firstCells_some (P := E.P) (w := w) sz' (min n len) a n c news (by rw [g3, hrn]) hn3
        have hst := run_storeCells_at E.P p.blk (off * sz') tt news 0 cur w g1 (by simpa using g2) hn2
        rw [Nat.add_zero] at hst
        refine ⟨_, _, _, M, μ, _, ?_, .refl _, .refl _, g4, hnn, k⟩
        have hmin : Nat.min n len = min n len := rfl
        simp [Builtin.copy_, run_underlying hu, Builtin.lenOf, sizeOf, typeInfo, hi, hsz, hmin, hld, hst, Result.andThen]
    · exact k.elim
  · exact k.elim

/-! ### append of a make, where there is no room -/
def aAppendZ (P : Program) (t : TypeId) (s x : D) (H : List Ob) (K : D → List Ob → Prop) : Prop :=
  match tk P t, s, x with
  | .sl e esz bytes, .sub b ver sz off len (some cap), .v (.int _ k) => (match zerosB P e with
    | none => False
    | some z => z.length = esz ∧ sz = esz ∧ off = 0 ∧ 0 < esz ∧ 0 < k ∧ cap < len + k.toNat ∧ (len + k.toNat) * bytes ≤ 140737488355328 ∧ len + k.toNat ≤ 9223372036854775807 ∧ (match H[b]? with
      | some (.arr ver' sz' xs _) => ver' = ver ∧ sz' = esz ∧ len ≤ xs.length ∧ K (.own H.length 1 (len + k.toNat)) (H ++ [.arr 1 esz (xs.take len ++ List.replicate k.toNat z) 0])
      | _ => False))
  | _, _, _ => False
theorem aAppendZ_mono {P : Program} {t : TypeId} {s x : D} {H : List Ob} {K K' : D → List Ob → Prop} (hk : ∀ d H, K d H → K' d H) (h : aAppendZ P t s x H K) : aAppendZ P t s x H K' := by
  unfold aAppendZ at *
  split at h
  · split at h
    · exact h.elim
    · obtain ⟨a1, a2, a3, a4, a5, a6, a7, a8, h⟩ := h
      refine ⟨a1, a2, a3, a4, a5, a6, a7, a8, ?_⟩
      split at h
      · exact ⟨h.1, h.2.1, h.2.2.1, hk _ _ h.2.2.2⟩
      · exact h.elim
  · exact h.elim
theorem aAppendZ_sound {E : Env} {M : Mem} {μ : Mu} {H : List Ob} {w : World} (h : R E M μ H w) {t t2 ty : TypeId} {kn : IntKind} {s x : D} {sv xv : Value} (ht2 : E.P.underlying t2 = some (.int kn)) (hs : Rel M μ s sv) (hx : Rel M μ x xv) {K : D → List Ob → Prop} (k : aAppendZ E.P t s x H K) :
    Ok E M μ (Builtin.append_ #[t, t2] ty #[sv, xv]) w K := by
  unfold aAppendZ at k
  split at k
  · rename_i e esz bytes b ver sz off len cap kq n ht
    obtain ⟨i, hu, hi, hsz, hby⟩ := tk_sl ht
    split at k
    · exact k.elim
    · rename_i z hz
      obtain ⟨zv, _, rfl, i', hi', hiz⟩ := zerosB_spec hz
      rw [hi] at hi'; cases hi'
      obtain ⟨hzl, rfl, rfl, hpos, hn0, hcap, hb1, hb2, k⟩ := k
      have hzs : zv.cells.size = sz := by simpa using hzl
      split at k
      · rename_i ver' sz' xs esc hb
        obtain ⟨rfl, rfl, hlen, k⟩ := k
        simp only [Rel] at hs
        obtain ⟨_, p, hp, _, _, hs⟩ := hs
        obtain ⟨_, hver, _, _, hxc, vs, tt, hbk, hvl, hv⟩ := h.obj b _ p hb hp
        obtain ⟨hc, hle, A, rfl, hA⟩ := hs hver
        have hc := hc cap rfl
        simp only [Rel, RelV] at hx
        subst hx
        obtain ⟨m, rfl⟩ : ∃ m : Nat, n = m := ⟨n.toNat, by omega⟩
        rw [Int.toNat_natCast] at *
        have hlv : len * sz' ≤ vs.length := by rw [hvl]; exact Nat.mul_le_mul_right _ (by omega)
        have hold : (Builtin.firstCells i.size len (.slice A len (p.cap - 0))).run E.P w.drew = .ok (vs.take (len * sz')).toArray w.drew := by
          by_cases h0 : len = 0
          · subst h0
            rw [Nat.zero_mul, List.take_zero]
            cases A with
            | none => exact run_firstCells_none w.drew i.size 0 0 _
            | some a => exact run_firstCells_some w.drew i.size 0 a 0 _ [] (by simp) (fun j v hj => by simp at hj)
          · rw [hA (by omega)]
            refine run_firstCells_some w.drew i.size len _ len _ _ (by rw [hsz, List.length_take]; omega) (fun j v hj => ?_)
            rw [List.getElem?_take] at hj
            split at hj
            · rw [Addr.add_mid]
              rw [show (w.drew.cell? ⟨p.blk, 0 * sz' + j, none⟩) = w.cell? ⟨p.blk, 0 * sz' + j, none⟩ from rfl, Nat.zero_mul, Nat.zero_add, cell?_block hbk]
              exact hj
            · cases hj
        have hrun := Lib.run_append_grow_zeros w t t2 ty e i zv kq kn hu ht2 hi hiz A len (p.cap - 0) _ hold m (by omega) (by rw [hsz]; exact hpos) (by omega) (by omega) (by
            have : m * i.bytes ≤ (len + m) * i.bytes := Nat.mul_le_mul_right _ (by omega)
            rw [hby] at this ⊢; omega) (growslice_fits (by omega) (by rw [hby]; exact hb1))
        have hge := grownCap_ge w (len + m) (p.cap - 0) e
        generalize grownCap w (len + m) (p.cap - 0) e = g at hrun hge
        have harr : ((vs.take (len * sz')).toArray ++ Builtin.zeroCells zv.cells m ++ Builtin.zeroCells zv.cells (g - (len + m))) = ((vs.take (len * sz') ++ (List.replicate m zv.cells.toList).flatten) ++ (Builtin.zeroCells zv.cells (g - (len + m))).toList).toArray := by
          apply Array.toList_inj.1
          simp [zeroCells_list]
        rw [harr] at hrun
        have e0 : (vs.take (len * sz') ++ (List.replicate m zv.cells.toList).flatten).length = (len + m) * sz' := by
          have : ((List.replicate m zv.cells.toList).flatten).length = m * sz' := by
            rw [← zeroCells_list, Array.length_toList, size_zeros, hzs]
          rw [List.length_append, this, List.length_take, Nat.add_mul]; omega
        have hvl' : ((vs.take (len * sz') ++ (List.replicate m zv.cells.toList).flatten) ++ (Builtin.zeroCells zv.cells (g - (len + m))).toList).length = g * sz' := by
          rw [List.length_append, e0, show (Builtin.zeroCells zv.cells (g - (len + m))).toList.length = _ from Array.length_toList, size_zeros, hzs, ← Nat.add_mul]
          congr 1; omega
        have hl2 : (xs.take len).length = len := by simp; omega
        have hfl := (hv.take len).flat (by rw [hl2]; exact hlv)
        rw [hl2] at hfl
        have hrows : ∀ r ∈ xs.take len ++ List.replicate m (zv.cells.toList.map ofC), r.length = sz' := fun r hr => by
          rcases List.mem_append.1 hr with hr | hr
          · exact (hv.take len).len r hr
          · rw [List.eq_of_mem_replicate hr]; exact hzl
        have hxl : (xs.take len ++ List.replicate m (zv.cells.toList.map ofC)).length = len + m := by rw [List.length_append, hl2, List.length_replicate]
        obtain ⟨μ', g1, g2, g3⟩ := h.drew.newArr (xs := xs.take len ++ List.replicate m (zv.cells.toList.map ofC)) (cap := g) hrows hvl' (by rw [hxl]; exact hge) (by
          rw [hxl, ← e0, List.take_left, List.flatten_append]
          exact hfl.append (relL_zeros M μ _ _)) e
        exact ⟨_, _, _, M, μ', _, hrun, .refl _, g1, g2, g3 _ hge, k⟩
      · exact k.elim
  · exact k.elim
end Go.Ag
/- AGo, part 10: operations, lists of operations, code. -/
namespace Go.Ag
open Go Go.RowKit

def callB (P : Program) (f : FuncId) : Bool :=
  match P.funcs[f]? with
  | some fn => fn.name != "runtime.NumGoroutine" && fn.body.isSome
  | none => false

/-- A call comes to its end: its body does, or the model's own entry. -/
def Does (P : Program) (f : FuncId) (vs : Array Value) (w : World) (Q : Ending → World → Prop) : Prop :=
  (callB P f = true ∧ Calls P f vs w Q) ∨ (callB P f = false ∧ ∃ v w', (callFunc f vs).run P w = .ok (.value v) w' ∧ Q (.returned v) w')
theorem Does.mono {P : Program} {f : FuncId} {vs : Array Value} {w : World} {Q Q' : Ending → World → Prop} (h : Does P f vs w Q) (k : ∀ e w', Q e w' → Q' e w') : Does P f vs w Q' := by
  rcases h with ⟨h1, h2⟩ | ⟨h1, v, w', h2, h3⟩
  · exact .inl ⟨h1, h2.mono k⟩
  · exact .inr ⟨h1, v, w', h2, k _ _ h3⟩
/-- A call: whatever the world, the function returns, and what it hands back and leaves meets K. -/
def ACalls (P : Program) (G : Nat → Option (List V)) (f : FuncId) (args : List D) (H : List Ob) (K : D → List Ob → Prop) : Prop :=
  ∀ (E : Env), E.P = P → E.G = G → ∀ (M : Mem) (μ : Mu) (w : World) (vs : List Value), R E M μ H w → RelL M μ args vs →
    Does P f vs.toArray w fun e w' => ∃ v d M' μ' H', e = .returned v ∧ M.le M' ∧ μ.le μ' ∧ R E M' μ' H' w' ∧ Rel M' μ' d v ∧ K d H'

theorem ACalls.mono {P : Program} {G : Nat → Option (List V)} {f : FuncId} {args : List D} {H : List Ob} {K K' : D → List Ob → Prop} (h : ACalls P G f args H K) (k : ∀ d H', K d H' → K' d H') : ACalls P G f args H K' :=
  fun E e1 e2 M μ w vs hr hv => (h E e1 e2 M μ w vs hr hv).mono fun e w' ⟨v, d, M', μ', H', h1, h2, h3, h4, h5, h6⟩ => ⟨v, d, M', μ', H', h1, h2, h3, h4, h5, k _ _ h6⟩
theorem ACalls.ofB {P : Program} {G : Nat → Option (List V)} {f : FuncId} {args : List D} {H : List Ob} {K : D → List Ob → Prop} (hc : callB P f = true)
    (h : ∀ (E : Env), E.P = P → E.G = G → ∀ (M : Mem) (μ : Mu) (w : World) (vs : List Value), R E M μ H w → RelL M μ args vs →
      Calls P f vs.toArray w fun e w' => ∃ v d M' μ' H', e = .returned v ∧ M.le M' ∧ μ.le μ' ∧ R E M' μ' H' w' ∧ Rel M' μ' d v ∧ K d H') : ACalls P G f args H K :=
  fun E e1 e2 M μ w vs hr hv => .inl ⟨hc, h E e1 e2 M μ w vs hr hv⟩

def ev (E : Env) (ts : List D) : Operand → D
  | .tmp t => ts.getD t (.tup [])
  | .const v => ofConst v
  | .global g => match E.G g with | some cs => .rptr cs | none => .any
  | .func f => .fn f []

theorem rel_ev {E : Env} {M : Mem} {μ : Mu} {H : List Ob} {w : World} (h : R E M μ H w) {ts : List D} {a : Act} (ht : RelL M μ ts a.tmps.toList) (x : Operand) : Rel M μ (ev E ts x) (a.eval x) := by
  cases x with
  | tmp t =>
    simp only [ev, Act.eval]
    have hl : a.tmps.size = ts.length := by have := ht.length; rwa [show a.tmps.toList.length = a.tmps.size from Array.length_toList] at this
    by_cases hlt : t < ts.length
    · obtain ⟨y, h1, h2⟩ := ht.get t _ (List.getElem?_eq_getElem hlt)
      rw [List.getD_eq_getElem?_getD, List.getElem?_eq_getElem hlt]
      have : a.tmps.getD t undef = y := by
        have h3 : a.tmps[t]? = some y := by simpa using h1
        rw [Array.getD_eq_getD_getElem?, h3]; rfl
      rw [this]; exact h2
    · rw [List.getD_eq_getElem?_getD, List.getElem?_eq_none (Nat.le_of_not_lt hlt)]
      have : a.tmps.getD t undef = undef := by
        rw [Array.getD_eq_getD_getElem?, Array.getElem?_eq_none (by rw [hl]; exact Nat.le_of_not_lt hlt)]; rfl
      rw [this]
      simp only [Option.getD_none, Rel, RelL]
      exact ⟨[], rfl, rfl⟩
  | const v => exact rel_ofConst M μ v
  | global g =>
    simp only [ev, Act.eval]
    cases hg : E.G g with
    | none => simp only [Rel]
    | some cs => simp only [Rel]; exact ⟨g, 0, rfl, h.glob g cs hg⟩
  | func f => simp only [ev, Act.eval, Rel, RelL]; exact ⟨[], rfl, rfl⟩

def putD (ts : List D) (dst : Option Tmp) (d : D) : List D := match dst with | some s => ts.set s d | none => ts
theorem rel_put {M : Mem} {μ : Mu} {ts : List D} {a : Act} (ht : RelL M μ ts a.tmps.toList) (dst : Option Tmp) {d : D} {v : Value} (hd : Rel M μ d v) : RelL M μ (putD ts dst d) (a.put dst v).tmps.toList := by
  cases dst with
  | none => exact ht
  | some s => simp only [putD, Act.put, Array.toList_setIfInBounds]; exact ht.set hd s
theorem put_defers (a : Act) (dst : Option Tmp) (v : Value) : (a.put dst v).defers = a.defers := by cases dst <;> rfl

def aCall (E : Env) (c : Call) (ρ : Operand → D) (H : List Ob) (K : D → List Ob → Prop) : Prop :=
  match c.callee with
  | .value f => (match ρ f with
    | .fn g caps => ACalls E.P E.G g (c.args.toList.map ρ ++ caps) H K
    | _ => False)
  | .builtin .append => (match c.args.toList, c.argTypes.toList with
    | [s, x], [t, t2] => (match tk E.P t2 with
      | .it _ => aAppendZ E.P t (ρ s) (ρ x) H K
      | _ => aAppend E.P t t2 (ρ s) (ρ x) H K)
    | _, _ => False)
  | .builtin .len => (match c.args.toList, c.argTypes.toList with
    | [x], [t] => aLen E.P t (ρ x) H fun d => K d H
    | _, _ => False)
  | .builtin .max => (match c.args.toList with
    | [x, y] => aMax (ρ x) (ρ y) fun d => K d H
    | _ => False)
  | .builtin .min => (match c.args.toList with
    | [x, y] => aMin (ρ x) (ρ y) fun d => K d H
    | _ => False)
  | .builtin .copy => (match c.args.toList, c.argTypes.toList with
    | [d, x], [t, _] => aCopy E.P t (ρ d) (ρ x) H K
    | _, _ => False)
  | .builtin .clear => (match c.args.toList, c.argTypes.toList with
    | [x], [t] => aClear E.P t (ρ x) H fun H' => K (.tup []) H'
    | _, _ => False)
  | .builtin .cap => (match c.args.toList, c.argTypes.toList with
    | [x], [t] => aCap E.P t (ρ x) H fun d => K d H
    | _, _ => False)
  | _ => False

def aop (E : Env) (o : Oper) (ts : List D) (H : List Ob) (K : D → List Ob → Prop) : Prop :=
  match o.op with
  | .move x => K (ev E ts x) H
  | .assign x => K (ev E ts x) H
  | .pick c a b => (match ev E ts c with | .v (.bool t) => K (if t then ev E ts a else ev E ts b) H | _ => False)
  | .alloc t => aAlloc E.P t H K
  | .box _ x => aBox (ev E ts x) H K
  | .build t parts => knownB E.P t = true ∧ aBuild E.P t (parts.toList.map fun p => (p.1, ev E ts p.2)) fun d => K d H
  | .buildSlice t n parts => aBuildSlice E.P t n (parts.toList.map fun p => (p.1, ev E ts p.2)) H K
  | .load t x => aLoad E.P t (ev E ts x) H fun d => K d H
  | .store t x y => aStore E.P t (ev E ts x) (ev E ts y) H fun H' => K (.tup []) H'
  | .nilCheck x => (match ev E ts x with
    | .ptr b o => K (.ptr b o) H
    | .rptr cs => K (.rptr cs) H
    | .eptr b v s i o => vOk H b v ∧ K (.eptr b v s i o) H
    | _ => False)
  | .binOp op t x y _ => aBin E.P op t (ev E ts x) (ev E ts y) H fun d => K d H
  | .unOp op _ x => aUn op (ev E ts x) fun d => K d H
  | .convert s t x => aConv E.P s t (ev E ts x) fun d => K d H
  | .makeFunc fn first caps => (match fn with | .func f => first = #[] ∧ K (.fn f (caps.toList.map (ev E ts))) H | _ => False)
  | .makeMap t r => aMakeMap E.P t (r.map (ev E ts)) H K
  | .lookup t m k ok => aLookup E.P t (ev E ts m) (ev E ts k) ok H fun d => K d H
  | .mapEntry t m k => aMapEntry E.P t (ev E ts m) (ev E ts k) H K
  | .entryStore _ m s v => aEntryStore (ev E ts m) (ev E ts s) (ev E ts v) H fun H' => K (.tup []) H'
  | .makeSlice t l c => aMakeSlice E.P t (ev E ts l) (ev E ts c) H K
  | .slice t x lo hi mx => mx = none ∧ aSlice E.P t (ev E ts x) (lo.map (ev E ts)) (hi.map (ev E ts)) H fun d => K d H
  | .fieldAddr s x f => aFieldAddr E.P s (ev E ts x) f H fun d => K d H
  | .indexAddr t x i => aIndexAddr E.P t (ev E ts x) (ev E ts i) H fun d => K d H
  | .index t x i => aIndex E.P t (ev E ts x) (ev E ts i) fun d => K d H
  | .extract x i => (match ev E ts x with | .tup ds => (match ds[i]? with | some d => K d H | none => False) | _ => False)
  | .call c => aCall E c (ev E ts) H K
  | _ => False

section
variable {E : Env} {M : Mem} {μ : Mu} {H : List Ob} {w : World} {o : Oper} {a : Act} {ts : List D} {K : D → List Ob → Prop} {next : Act → World → Prop} {Qx : Exit → Act → World → Prop}

theorem wp_val {s : Sem Value} (he : execOp a.eval o = (do pure (.value (← s)))) {v : Value} {w' : World} (hs : s.run E.P w = .ok v w') (hn : next (a.put o.dst v) w') : o.wp E.P a w next Qx := by
  unfold Oper.wp
  rw [he]
  simp only [Sem.run_bind, hs, Result.andThen_ok, Sem.run_pure, Oper.upon]
  exact hn
theorem wp_unit {s : Sem Unit} (he : execOp a.eval o = (do s; pure .skip)) {w' : World} (hs : s.run E.P w = .ok () w') (hn : next (a.put o.dst undef) w') : o.wp E.P a w next Qx := by
  unfold Oper.wp
  rw [he]
  simp only [Sem.run_bind, hs, Result.andThen_ok, Sem.run_pure, Oper.upon]
  exact hn
theorem wp_pure {v : Value} (he : execOp a.eval o = pure (.value v)) (hn : next (a.put o.dst v) w) : o.wp E.P a w next Qx := by
  unfold Oper.wp
  rw [he]
  simp only [Sem.run_pure, Oper.upon]
  exact hn

def Nx (E : Env) (M : Mem) (μ : Mu) (o : Oper) (a : Act) (K : D → List Ob → Prop) (next : Act → World → Prop) : Prop :=
  ∀ d v M' μ' H' w', M.le M' → μ.le μ' → R E M' μ' H' w' → Rel M' μ' d v → K d H' → next (a.put o.dst v) w'

theorem wp_ok {s : Sem Value} (he : execOp a.eval o = (do pure (.value (← s)))) (hn : Nx E M μ o a K next) (h : Ok E M μ s w K) : o.wp E.P a w next Qx := by
  obtain ⟨v, w', d, M', μ', H', h1, h2, h3, h4, h5, h6⟩ := h
  exact wp_val he h1 (hn d v M' μ' H' w' h2 h3 h4 h5 h6)
theorem wp_same {s : Sem Value} (he : execOp a.eval o = (do pure (.value (← s)))) (h : R E M μ H w) (hn : Nx E M μ o a K next) (hs : ∃ v d, s.run E.P w = .ok v w ∧ Rel M μ d v ∧ K d H) : o.wp E.P a w next Qx := by
  obtain ⟨v, d, h1, h2, h3⟩ := hs
  exact wp_val he h1 (hn d v M μ H w (.refl _) (.refl _) h h2 h3)
end

theorem relL_map {E : Env} {M : Mem} {μ : Mu} {H : List Ob} {w : World} (h : R E M μ H w) {ts : List D} {a : Act} (ht : RelL M μ ts a.tmps.toList) : ∀ xs : List Operand, RelL M μ (xs.map (ev E ts)) (xs.map a.eval)
  | [] => by simp [RelL]
  | x :: xs => by rw [List.map_cons, List.map_cons, RelL.cons_iff]; exact ⟨rel_ev h ht x, relL_map h ht xs⟩

theorem bndV_map {E : Env} {M : Mem} {μ : Mu} {H : List Ob} {w : World} (h : R E M μ H w) {ts : List D} {a : Act} (ht : RelL M μ ts a.tmps.toList) (x : Option Operand) : bndV M μ (x.map (ev E ts)) (x.map a.eval) := by
  cases x with
  | none => trivial
  | some x => exact rel_ev h ht x

theorem parts_rel {E : Env} {M : Mem} {μ : Mu} {H : List Ob} {w : World} (h : R E M μ H w) {ts : List D} {a : Act} (ht : RelL M μ ts a.tmps.toList) (parts : Array (Nat × Operand)) :
    (parts.toList.map fun p => (p.1, ev E ts p.2)).map (·.1) = (parts.map fun (i, x) => (i, a.eval x)).toList.map (·.1) ∧
    ∀ (i : Nat) (d : Nat × D) (v : Nat × Value), (parts.toList.map fun p => (p.1, ev E ts p.2))[i]? = some d → (parts.map fun (i, x) => (i, a.eval x)).toList[i]? = some v → Rel M μ d.2 v.2 := by
  constructor
  · simp
  · intro i d v h1 h2
    rw [Array.toList_map, List.getElem?_map] at h2
    rw [List.getElem?_map] at h1
    cases hp : parts.toList[i]? with
    | none => simp [hp] at h1
    | some p =>
      rw [hp] at h1 h2
      simp at h1 h2
      subst h1; subst h2
      exact rel_ev h ht p.2

theorem aCall_sound {E : Env} {M : Mem} {μ : Mu} {H : List Ob} {w : World} {o : Oper} {a : Act} {ts : List D} {K : D → List Ob → Prop} {next : Act → World → Prop} {Qx : Exit → Act → World → Prop}
    (h : R E M μ H w) (ht : RelL M μ ts a.tmps.toList) {c : Call} (ho : o.op = .call c) (k : aCall E c (ev E ts) H K) (hn : Nx E M μ o a K next) : o.wp E.P a w next Qx := by
  unfold aCall at k
  obtain ⟨callee, args, argTypes⟩ := c
  simp only at k
  split at k
  · rename_i f
    split at k
    · rename_i g caps hf
      have hfr := rel_ev h ht f
      rw [hf] at hfr
      simp only [Rel] at hfr
      obtain ⟨vs, hfe, hvs⟩ := hfr
      have hargs := (relL_map h ht args.toList).append hvs
      have hcall := k E rfl rfl M μ w _ h hargs
      have e1 : (#[] ++ args.map a.eval) ++ vs.toArray = ((args.toList.map a.eval) ++ vs).toArray := by
        apply Array.toList_inj.1; simp
      rcases hcall with ⟨hb, hcall⟩ | ⟨_, v, w', hrun, d, hq⟩
      rotate_left
      · obtain ⟨d', M', μ', H', he, h1, h2, h3, h4, h5⟩ := hq
        cases he
        have hrun2 : (execOp a.eval o).run E.P w = .ok (.value v) w' := by
          simp only [execOp, ho, resolve, hfe, Deferred.ofValue, Sem.run_bind, Sem.run_pure, Result.andThen_ok, invoke, e1, hrun]
        unfold Oper.wp
        rw [hrun2]
        simp only [Oper.upon]
        exact hn d' v M' μ' H' w' h1 h2 h3 h4 h5
      unfold callB at hb
      cases hfn : E.P.funcs[g]? with
      | none => simp [hfn] at hb
      | some fn =>
        simp only [hfn, Bool.and_eq_true, bne_iff_ne, ne_eq] at hb
        obtain ⟨hname, hbody⟩ := hb
        have hnb : fn.body.isNone = false := by cases hq : fn.body <;> simp_all
        have hrun : (execOp a.eval o).run E.P w = .ok (.enter g ((args.toList.map a.eval) ++ vs).toArray) w := by
          simp only [execOp, ho, resolve, hfe, Deferred.ofValue, Sem.run_bind, Sem.run_pure, Result.andThen_ok, invoke, callFunc, run_program, hfn, e1]
          simp [hname, hnb]
        unfold Oper.wp
        rw [hrun]
        simp only [Oper.upon]
        refine hcall.mono fun e w' ⟨v, d, M', μ', H', he, h1, h2, h3, h4, h5⟩ => ?_
        subst he
        exact hn d v M' μ' H' w' h1 h2 h3 h4 h5
    · exact k.elim
  · split at k
    · rename_i s x t t2 he1 he2
      have e1 : args = #[s, x] := by apply Array.toList_inj.1; exact he1
      have e2 : argTypes = #[t, t2] := by apply Array.toList_inj.1; exact he2
      subst e1; subst e2
      split at k
      · rename_i kn h2
        exact wp_ok (s := Builtin.append_ #[t, t2] o.type #[a.eval s, a.eval x]) (by simp [execOp, ho, resolve, invoke, builtin]) hn (aAppendZ_sound h (tk_it h2) (rel_ev h ht s) (rel_ev h ht x) k)
      · exact wp_ok (s := Builtin.append_ #[t, t2] o.type #[a.eval s, a.eval x]) (by simp [execOp, ho, resolve, invoke, builtin]) hn (aAppend_sound h (rel_ev h ht s) (rel_ev h ht x) k)
    · exact k.elim
  · split at k
    · rename_i x t he1 he2
      have e1 : args = #[x] := by apply Array.toList_inj.1; exact he1
      have e2 : argTypes = #[t] := by apply Array.toList_inj.1; exact he2
      subst e1; subst e2
      exact wp_same (s := Builtin.len_ #[t] o.type #[a.eval x]) (by simp [execOp, ho, resolve, invoke, builtin]) h hn (aLen_sound h (rel_ev h ht x) k)
    · exact k.elim
  · split at k
    · rename_i x y he1
      have e1 : args = #[x, y] := by apply Array.toList_inj.1; exact he1
      subst e1
      exact wp_same (s := Builtin.max_ argTypes o.type #[a.eval x, a.eval y]) (by simp [execOp, ho, resolve, invoke, builtin]) h hn (aMax_sound (rel_ev h ht x) (rel_ev h ht y) k)
    · exact k.elim
  · split at k
    · rename_i x y he1
      have e1 : args = #[x, y] := by apply Array.toList_inj.1; exact he1
      subst e1
      exact wp_same (s := Builtin.min_ argTypes o.type #[a.eval x, a.eval y]) (by simp [execOp, ho, resolve, invoke, builtin]) h hn (aMin_sound (rel_ev h ht x) (rel_ev h ht y) k)
    · exact k.elim
  · split at k
    · rename_i d x t t2 he1 he2
      have e1 : args = #[d, x] := by apply Array.toList_inj.1; exact he1
      have e2 : argTypes = #[t, t2] := by apply Array.toList_inj.1; exact he2
      subst e1; subst e2
      exact wp_ok (s := Builtin.copy_ #[t, t2] o.type #[a.eval d, a.eval x]) (by simp [execOp, ho, resolve, invoke, builtin]) hn (aCopy_sound h (rel_ev h ht d) (rel_ev h ht x) k)
    · exact k.elim
  · split at k
    · rename_i x t he1 he2
      have e1 : args = #[x] := by apply Array.toList_inj.1; exact he1
      have e2 : argTypes = #[t] := by apply Array.toList_inj.1; exact he2
      subst e1; subst e2
      obtain ⟨w', H', h1, h2, h3⟩ := aClear_sound (ty := o.type) h (rel_ev h ht x) k
      exact wp_ok (s := Builtin.clear_ #[t] o.type #[a.eval x]) (by simp [execOp, ho, resolve, invoke, builtin]) hn ⟨_, w', _, M, μ, H', h1, .refl _, .refl _, h2, by simp only [Rel, RelL]; exact ⟨[], rfl, rfl⟩, h3⟩
    · exact k.elim
  · split at k
    · rename_i x t he1 he2
      have e1 : args = #[x] := by apply Array.toList_inj.1; exact he1
      have e2 : argTypes = #[t] := by apply Array.toList_inj.1; exact he2
      subst e1; subst e2
      exact wp_same (s := Builtin.cap_ #[t] o.type #[a.eval x]) (by simp [execOp, ho, resolve, invoke, builtin]) h hn (aCap_sound h (rel_ev h ht x) k)
    · exact k.elim
  · exact k.elim

theorem aop_sound {E : Env} {M : Mem} {μ : Mu} {H : List Ob} {w : World} {o : Oper} {a : Act} {ts : List D} {K : D → List Ob → Prop} {next : Act → World → Prop} {Qx : Exit → Act → World → Prop}
    (h : R E M μ H w) (ht : RelL M μ ts a.tmps.toList) (k : aop E o ts H K) (hn : Nx E M μ o a K next) : o.wp E.P a w next Qx := by
  unfold aop at k
  have RV := rel_ev h ht
  split at k
  · rename_i x ho
    exact wp_pure (by simp [execOp, ho]) (hn _ _ M μ H w (.refl _) (.refl _) h (RV x) k)
  · rename_i x ho
    exact wp_pure (by simp [execOp, ho]) (hn _ _ M μ H w (.refl _) (.refl _) h (RV x) k)
  · rename_i c x y ho
    split at k
    · rename_i t hc
      have hcv := RV c
      rw [hc] at hcv
      simp only [Rel, RelV] at hcv
      refine wp_pure (v := if t then a.eval x else a.eval y) (by simp [execOp, ho, hcv, asBool]) (hn _ _ M μ H w (.refl _) (.refl _) h ?_ k)
      cases t
      · exact RV y
      · exact RV x
    · exact k.elim
  · rename_i t ho
    exact wp_ok (s := Instr.alloc t true (.tuple #[])) (by simp [execOp, ho]) hn (aAlloc_sound h k)
  · rename_i t x ho
    exact wp_ok (s := Instr.box t (a.eval x)) (by simp [execOp, ho]) hn (aBox_sound h (RV x) k)
  · rename_i t parts ho
    obtain ⟨hk, k⟩ := k
    obtain ⟨p1, p2⟩ := parts_rel h ht parts
    exact wp_same (s := Instr.build t (parts.map fun (i, x) => (i, a.eval x))) (by simp [execOp, ho]) h hn (aBuild_sound hk p1 p2 k)
  · rename_i t n parts ho
    obtain ⟨p1, p2⟩ := parts_rel h ht parts
    have hk : Ok E M μ (Instr.buildSlice t n (parts.map fun (i, x) => (i, a.eval x))) w K := aBuildSlice_sound h p1 p2 k
    have he : execOp a.eval o = (do pure (.value (← Instr.buildSlice t n (parts.map fun (i, x) => (i, a.eval x))))) := by unfold execOp; rw [ho]
    exact wp_ok he hn hk
  · rename_i t x ho
    exact wp_same (s := Instr.loadAt t (a.eval x)) (by simp [execOp, ho]) h hn (aLoad_sound h (RV x) k)
  · rename_i t x y ho
    obtain ⟨w', H', h1, h2, h3⟩ := aStore_sound h (RV x) (RV y) k
    exact wp_unit (s := Instr.storeAt t (a.eval x) (a.eval y)) (by simp [execOp, ho]) h1 (hn _ undef M μ H' w' (.refl _) (.refl _) h2 (by simp only [Rel, RelL]; exact ⟨[], rfl, rfl⟩) h3)
  · rename_i x ho
    have hx := RV x
    split at k
    · rename_i b off hd
      rw [hd] at hx
      have hx' := hx
      simp only [Rel] at hx'
      obtain ⟨p, hp, hv, e⟩ := hx'
      exact wp_pure (v := a.eval x) (by simp [execOp, ho, e]) (hn _ _ M μ H w (.refl _) (.refl _) h hx k)
    · rename_i cs hd
      rw [hd] at hx
      have hx' := hx
      simp only [Rel] at hx'
      obtain ⟨b, off, e, _⟩ := hx'
      exact wp_pure (v := a.eval x) (by simp [execOp, ho, e]) (hn _ _ M μ H w (.refl _) (.refl _) h hx k)
    · rename_i b v s i off hd
      obtain ⟨hv, k⟩ := k
      rw [hd] at hx
      have hx' := hx
      simp only [Rel] at hx'
      obtain ⟨_, p, hp, _, _, e⟩ := hx'
      have e := e (vOk_ver h hv hp)
      exact wp_pure (v := a.eval x) (by simp [execOp, ho, e]) (hn _ _ M μ H w (.refl _) (.refl _) h hx k)
    · exact k.elim
  · rename_i op t x y ty ho
    exact wp_same (s := do eqGuard op t x y (a.eval x) (a.eval y); binOp op t (a.eval x) (a.eval y)) (by simp [execOp, ho]) h hn (aBin_sound h (RV x) (RV y) k x y)
  · rename_i op t x ho
    exact wp_same (s := Op.unary op (a.eval x)) (by simp [execOp, ho]) h hn (aUn_sound (RV x) k)
  · rename_i s t x ho
    exact wp_same (s := convert s t (a.eval x)) (by simp [execOp, ho]) h hn (aConv_sound rfl h (RV x) k)
  · rename_i fn first caps ho
    split at k
    · rename_i f
      obtain ⟨rfl, k⟩ := k
      refine wp_pure (v := .func (.func f) #[] (caps.map a.eval)) (by simp [execOp, ho, Instr.makeFunc]) (hn _ _ M μ H w (.refl _) (.refl _) h ?_ k)
      simp only [Rel]
      exact ⟨caps.toList.map a.eval, by congr 1; apply Array.toList_inj.1; simp, relL_map h ht _⟩
    · exact k.elim
  · rename_i t r ho
    exact wp_ok (s := Instr.makeMap t (r.map a.eval)) (by simp [execOp, ho]) hn (aMakeMap_sound h (bndV_map h ht r) k)
  · rename_i t m x ok ho
    exact wp_same (s := Instr.lookup t (a.eval m) (a.eval x) ok) (by simp [execOp, ho]) h hn (aLookup_sound h (RV m) (RV x) k)
  · rename_i t m x ho
    exact wp_ok (s := Instr.mapEntry t (a.eval m) (a.eval x)) (by simp [execOp, ho]) hn (aMapEntry_sound h (RV m) (RV x) k)
  · rename_i t m s x ho
    obtain ⟨w', H', h1, h2, h3⟩ := aEntryStore_sound h t (RV m) (RV s) (RV x) k
    exact wp_unit (s := Instr.entryStore t (a.eval m) (a.eval s) (a.eval x)) (by simp [execOp, ho]) h1 (hn _ undef M μ H' w' (.refl _) (.refl _) h2 (by simp only [Rel, RelL]; exact ⟨[], rfl, rfl⟩) h3)
  · rename_i t l c ho
    exact wp_ok (s := Instr.makeSlice t (a.eval l) (a.eval c)) (by simp [execOp, ho]) hn (aMakeSlice_sound h (RV l) (RV c) k)
  · rename_i t x lo hi mx ho
    obtain ⟨rfl, k⟩ := k
    exact wp_same (s := Instr.sliceAt t (a.eval x) (lo.map a.eval) (hi.map a.eval) none) (by simp [execOp, ho]) h hn (aSlice_sound h (RV x) (bndV_map h ht lo) (bndV_map h ht hi) k)
  · rename_i s x f ho
    exact wp_same (s := Instr.fieldAt s (a.eval x) f) (by simp [execOp, ho]) h hn (aFieldAddr_sound h (RV x) k)
  · rename_i t x i ho
    exact wp_same (s := Instr.indexAt t (a.eval x) (a.eval i)) (by simp [execOp, ho]) h hn (aIndexAddr_sound h (RV x) (RV i) k)
  · rename_i t x i ho
    exact wp_same (s := Instr.index t (a.eval x) (a.eval i)) (by simp [execOp, ho]) h hn (aIndex_sound (RV x) (RV i) k)
  · rename_i x i ho
    have hx := RV x
    split at k
    · rename_i ds hd
      rw [hd] at hx
      simp only [Rel] at hx
      obtain ⟨vs, e, hvs⟩ := hx
      split at k
      · rename_i d hdi
        obtain ⟨y, h1, h2⟩ := hvs.get i d hdi
        exact wp_same (s := Instr.extract (a.eval x) i) (by simp [execOp, ho]) h hn ⟨y, d, by simp [Instr.extract, e, h1], h2, k⟩
      · exact k.elim
    · exact k.elim
  · rename_i c ho
    exact aCall_sound h ht ho k hn
  · exact k.elim

/-! ### operations in the text's order -/
/-- A guard's two ways. -/
def Gd (b want : Bool) (x y : Prop) : Prop := (b = want → x) ∧ (b = !want → y)
def aops (E : Env) (all : Array Oper) : List Oper → List D → List Ob → (List D → List Ob → Prop) → Prop
  | [], ts, H, Q => Q ts H
  | o :: os, ts, H, Q => match o.guard with
    | none => aop E o ts H fun d H' => aops E all os (putD ts o.dst d) H' Q
    | some (g, want) => (match (all[g]?).bind (·.dst) with
      | none => False
      | some s => (match ts[s]? with
        | some (.v (.bool b)) => Gd b want
          (aop E o (ts.set s (.v (.bool want))) H fun d H' => aops E all os (putD (ts.set s (.v (.bool want))) o.dst d) H' Q)
          (aops E all os (putD (ts.set s (.v (.bool !want))) o.dst (.tup [])) H Q)
        | some (.tup []) => aops E all os (putD ts o.dst (.tup [])) H Q
        | _ => False))

theorem aops_sound {E : Env} {all : Array Oper} {Qx : Exit → Act → World → Prop} : ∀ (os : List Oper) (M : Mem) (μ : Mu) (ts : List D) (H : List Ob) (w : World) (a : Act) (Q : List D → List Ob → Prop),
    R E M μ H w → RelL M μ ts a.tmps.toList → a.defers = [] → aops E all os ts H Q →
    (∀ M' μ' ts' H' w' a', M.le M' → μ.le μ' → R E M' μ' H' w' → RelL M' μ' ts' a'.tmps.toList → a'.defers = [] → Q ts' H' → Qx .normal a' w') → wpList E.P all Qx os a w
  | [], M, μ, ts, H, w, a, Q, h, ht, hd, k, hq => hq M μ ts H w a (.refl _) (.refl _) h ht hd k
  | o :: os, M, μ, ts, H, w, a, Q, h, ht, hd, k, hq => by
    simp only [aops] at k
    unfold wpList
    have go : ∀ ts' : List D, RelL M μ ts' a.tmps.toList → aop E o ts' H (fun d H' => aops E all os (putD ts' o.dst d) H' Q) → o.wp E.P a w (wpList E.P all Qx os) Qx := fun ts' ht' k =>
      aop_sound h ht' k fun d v M' μ' H' w' h1 h2 h3 h4 h5 =>
        aops_sound os M' μ' _ H' w' _ Q h3 (rel_put (RelL.mono h1 h2 ht') o.dst h4) (by rw [put_defers]; exact hd) h5
          fun M2 μ2 ts2 H2 w2 a2 g1 g2 => hq M2 μ2 ts2 H2 w2 a2 (h1.trans g1) (h2.trans g2)
    have skip : ∀ ts' : List D, RelL M μ ts' a.tmps.toList → aops E all os (putD ts' o.dst (.tup [])) H Q → wpList E.P all Qx os (a.put o.dst undef) w := fun ts' ht' k =>
      aops_sound os M μ _ H w _ Q h (rel_put ht' o.dst (by simp only [Rel, RelL]; exact ⟨[], rfl, rfl⟩)) (by rw [put_defers]; exact hd) k hq
    split at k
    · rename_i hg
      simp only [Region.wanted, hg, if_true]
      exact .inl (go ts ht k)
    · rename_i g want hg
      split at k
      · exact k.elim
      · rename_i s hs
        split at k
        · rename_i b hb
          obtain ⟨y, h1, h2⟩ := ht.get s _ hb
          simp only [Rel, RelV] at h2
          subst h2
          have hy : yielded all a.tmps g = some b := by
            have h1' : a.tmps[s]? = some (.bool b) := by simpa using h1
            simp only [yielded]
            rw [hs]
            simp [h1']
          have hset : ∀ b', b = b' → RelL M μ (ts.set s (.v (.bool b'))) a.tmps.toList := fun b' e => by
            subst e
            have : ts.set s (.v (.bool b)) = ts := by
              apply List.ext_getElem?
              intro i
              rw [List.getElem?_set]
              split
              · rename_i e; subst e
                split
                · exact hb.symm
                · rename_i hlt; rw [List.getElem?_eq_none (by omega)]
              · rfl
            rw [this]; exact ht
          by_cases e : b = want
          · have hw : Region.wanted o (yielded all a.tmps) = true := by simp [Region.wanted, hg, hy, e]
            rw [if_pos hw]
            exact .inl (go _ (hset want e) (k.1 e))
          · have hw : Region.wanted o (yielded all a.tmps) = false := by simp [Region.wanted, hg, hy, e]
            rw [hw]
            simp only [Bool.false_eq_true, if_false]
            have e2 : b = !want := by cases b <;> cases want <;> simp_all
            exact skip _ (hset _ e2) (k.2 e2)
        · rename_i hb
          obtain ⟨y, h1, h2⟩ := ht.get s _ hb
          simp only [Rel, RelL] at h2
          obtain ⟨vs, rfl, rfl⟩ := h2
          have hy : yielded all a.tmps g = none := by
            have h1' : a.tmps[s]? = some (.tuple #[]) := by simpa using h1
            simp only [yielded]
            rw [hs]
            simp [h1']
          have hw : Region.wanted o (yielded all a.tmps) = false := by simp [Region.wanted, hg, hy]
          rw [hw]
          simp only [Bool.false_eq_true, if_false]
          exact skip _ ht k
        · exact k.elim

/-! ### code -/
def Sat (E : Env) (c : Code) (ts : List D) (H : List Ob) (Q : Exit → List D → List Ob → Prop) : Prop :=
  ∀ (M : Mem) (μ : Mu) (w : World) (a : Act), E.M0.le M → E.μ0.le μ → R E M μ H w → RelL M μ ts a.tmps.toList → a.defers = [] →
    c.wp E.P (fun e a' w' => ∃ M' μ' ts' H', E.M0.le M' ∧ E.μ0.le μ' ∧ R E M' μ' H' w' ∧ RelL M' μ' ts' a'.tmps.toList ∧ a'.defers = [] ∧ Q e ts' H') a w

section
variable {E : Env} {ts : List D} {H : List Ob} {Q : Exit → List D → List Ob → Prop}

theorem Sat.mono {c : Code} {Q' : Exit → List D → List Ob → Prop} (h : Sat E c ts H Q) (k : ∀ e ts H, Q e ts H → Q' e ts H) : Sat E c ts H Q' :=
  fun M μ w a h1 h2 h3 h4 h5 => wp_mono (h M μ w a h1 h2 h3 h4 h5) fun e a' w' ⟨M', μ', ts', H', g1, g2, g3, g4, g5, g6⟩ => ⟨M', μ', ts', H', g1, g2, g3, g4, g5, k _ _ _ g6⟩
theorem sat_skip (h : Q .normal ts H) : Sat E .skip ts H Q := fun M μ w a h1 h2 h3 h4 h5 => wp_skip ⟨M, μ, ts, H, h1, h2, h3, h4, h5, h⟩
theorem sat_label {l : Nat} (h : Q .normal ts H) : Sat E (.label l) ts H Q := fun M μ w a h1 h2 h3 h4 h5 => wp_label ⟨M, μ, ts, H, h1, h2, h3, h4, h5, h⟩
theorem sat_exit {id : Nat} (h : Q (.exit id) ts H) : Sat E (.exit id) ts H Q := fun M μ w a h1 h2 h3 h4 h5 => wp_exit ⟨M, μ, ts, H, h1, h2, h3, h4, h5, h⟩
theorem sat_ret (h : Q .ret ts H) : Sat E .ret ts H Q := fun M μ w a h1 h2 h3 h4 h5 => wp_ret ⟨M, μ, ts, H, h1, h2, h3, h4, h5, h⟩

/-- What comes behind a piece of code. -/
def Th (next : List D → List Ob → Prop) (Q : Exit → List D → List Ob → Prop) : Exit → List D → List Ob → Prop
  | .normal, ts, H => next ts H
  | e, ts, H => Q e ts H

theorem sat_seq {x y : Code} (h : ∀ K : List D → List Ob → Prop, (∀ ts H, Sat E y ts H Q → K ts H) → Sat E x ts H (Th K Q)) : Sat E (.seq x y) ts H Q := by
  intro M μ w a h1 h2 h3 h4 h5
  refine wp_seq (wp_mono (h (fun ts H => Sat E y ts H Q) (fun _ _ h => h) M μ w a h1 h2 h3 h4 h5) ?_)
  rintro e a' w' ⟨M', μ', ts', H', g1, g2, g3, g4, g5, g6⟩
  cases e with
  | normal => exact g6 M' μ' w' a' g1 g2 g3 g4 g5
  | _ => exact ⟨M', μ', ts', H', g1, g2, g3, g4, g5, g6⟩
theorem sat_cond {c : Operand} {x y : Code} {b : Bool} (hc : ev E ts c = .v (.bool b)) (ht : b = true → Sat E x ts H Q) (hf : b = false → Sat E y ts H Q) : Sat E (.cond c x y) ts H Q := by
  intro M μ w a h1 h2 h3 h4 h5
  have hr := rel_ev h3 h4 c
  rw [hc] at hr
  simp only [Rel, RelV] at hr
  refine wp_cond hr ?_
  cases b
  · exact hf rfl M μ w a h1 h2 h3 h4 h5
  · exact ht rfl M μ w a h1 h2 h3 h4 h5
def Bl (id : Nat) (Q : Exit → List D → List Ob → Prop) : Exit → List D → List Ob → Prop
  | .exit id', ts, H => if id' = id then Q .normal ts H else Q (.exit id') ts H
  | e, ts, H => Q e ts H
theorem sat_block {id : Nat} {c : Code} (h : Sat E c ts H (Bl id Q)) : Sat E (.block id c) ts H Q := by
  intro M μ w a h1 h2 h3 h4 h5
  refine wp_block (wp_mono (h M μ w a h1 h2 h3 h4 h5) ?_)
  rintro e a' w' ⟨M', μ', ts', H', g1, g2, g3, g4, g5, g6⟩
  cases e with
  | exit id' =>
    simp only [Exit.inBlock, Bl] at g6 ⊢
    split
    · rename_i e; rw [if_pos e] at g6; exact ⟨M', μ', ts', H', g1, g2, g3, g4, g5, g6⟩
    · rename_i e; rw [if_neg e] at g6; exact ⟨M', μ', ts', H', g1, g2, g3, g4, g5, g6⟩
  | _ => exact ⟨M', μ', ts', H', g1, g2, g3, g4, g5, g6⟩
theorem wp_loop_n {P : Program} {c : Code} {Q : Exit → Act → World → Prop} (J : Nat → Act → World → Prop)
    (round : ∀ n a w, J n a w → c.wp P (Exit.then (fun a' w' => ∃ m, m < n ∧ J m a' w') Q) a w) : ∀ n a w, J n a w → (Code.loop c).wp P Q a w := by
  intro n a w hJ b k cs
  have key : ∀ n a w, J n a w → ∃ e a' w', Q e a' w' ∧ Arrives P (lone (b.at a (.code c :: .inLoop c :: k)) cs w) b k cs e a' w' := by
    intro n
    induction n using Nat.strongRecOn with
    | _ n ih =>
      intro a w hI
      obtain ⟨e, a₁, w₁, hq, harr⟩ := round n a w hI b (.inLoop c :: k) cs
      cases e with
      | normal =>
        obtain ⟨m, hlt, hI₁⟩ := hq
        obtain ⟨e₂, a₂, w₂, hq₂, harr₂⟩ := ih m hlt a₁ w₁ hI₁
        exact ⟨e₂, a₂, w₂, hq₂, .of_steps (Steps.trans harr (.one step_inLoop)) harr₂⟩
      | exit id => exact ⟨_, a₁, w₁, hq, .pass (x := .inLoop c) rfl (fun _ _ => .inl (by simp)) harr⟩
      | goto l => exact ⟨_, a₁, w₁, hq, .pass (x := .inLoop c) rfl (fun _ _ => .inl (by simp)) harr⟩
      | ret => exact ⟨_, a₁, w₁, hq, .pass (x := .inLoop c) rfl (fun _ _ => .inl (by simp)) harr⟩
      | panic ch => exact ⟨_, a₁, w₁, hq, .pass (x := .inLoop c) rfl (fun _ _ => .inl (by simp)) harr⟩
      | outgrown => exact ⟨_, a₁, w₁, hq, .pass (x := .inLoop c) rfl (fun _ _ => .inl (by simp)) harr⟩
  obtain ⟨e, a', w', hq, harr⟩ := key n a w hJ
  exact ⟨e, a', w', hq, .of_steps (.one step_loop) harr⟩
/-- A loop: at each round's head the invariant holds of some number; a round goes on with a lesser one. -/
theorem sat_loop {c : Code} (I : Nat → List D → List Ob → Prop) (n : Nat) (h0 : I n ts H) (hr : ∀ n ts H, I n ts H → Sat E c ts H (Th (fun ts' H' => ∃ m, m < n ∧ I m ts' H') Q)) : Sat E (.loop c) ts H Q := by
  intro M μ w a h1 h2 h3 h4 h5
  refine wp_loop_n (fun n a w => ∃ M μ ts H, E.M0.le M ∧ E.μ0.le μ ∧ R E M μ H w ∧ RelL M μ ts a.tmps.toList ∧ a.defers = [] ∧ I n ts H) ?_ n a w ⟨M, μ, ts, H, h1, h2, h3, h4, h5, h0⟩
  rintro n a w ⟨M, μ, ts, H, g1, g2, g3, g4, g5, g6⟩
  refine wp_mono (hr _ ts H g6 M μ w a g1 g2 g3 g4 g5) ?_
  rintro e a' w' ⟨M', μ', ts', H', k1, k2, k3, k4, k5, k6⟩
  cases e with
  | normal =>
    obtain ⟨q, hq, hI⟩ := k6
    exact ⟨q, hq, M', μ', ts', H', k1, k2, k3, k4, k5, hI⟩
  | _ => exact ⟨M', μ', ts', H', k1, k2, k3, k4, k5, k6⟩
theorem sat_region {id : Nat} {l : List Oper} (h : aops E l.toArray l ts H fun ts' H' => Q .normal ts' H') : Sat E (.region id l.toArray false) ts H Q := by
  intro M μ w a h1 h2 h3 h4 h5
  refine wp_region_lit (aops_sound l M μ ts H w a _ h3 h4 h5 h ?_)
  intro M' μ' ts' H' w' a' g1 g2 g3 g4 g5 g6
  exact ⟨M', μ', ts', H', h1.trans g1, h2.trans g2, g3, g4, g5, g6⟩
end

end Go.Ag
/- AGo, part 11: what a state says of another one; functions. -/
namespace Go.Ag
open Go Go.RowKit

mutual
def D.lt (n : Nat) : D → Prop
  | .own b _ _ => b < n
  | .sub b _ _ _ _ _ => b < n
  | .ptr b _ => b < n
  | .eptr b _ _ _ _ => b < n
  | .map b => b < n
  | .agg cs => D.ltL n cs
  | .tup cs => D.ltL n cs
  | .fn _ cs => D.ltL n cs
  | .v _ => True
  | .nils => True
  | .rptr _ => True
  | .nilp => True
  | .nilm => True
  | .nilf => True
  | .any => True
def D.ltL (n : Nat) : List D → Prop
  | [] => True
  | d :: ds => D.lt n d ∧ D.ltL n ds
end

mutual
theorem Rel.lt {M : Mem} {μ : Mu} {n : Nat} (hd : ∀ i p, μ i = some p → i < n) : ∀ {d : D} {y : Value}, Rel M μ d y → D.lt n d
  | .v _, _, _ => by simp only [D.lt]
  | .agg cs, _, r => by simp only [Rel, D.lt] at r ⊢; obtain ⟨vs, _, r⟩ := r; exact RelL.lt hd r
  | .tup cs, _, r => by simp only [Rel, D.lt] at r ⊢; obtain ⟨vs, _, r⟩ := r; exact RelL.lt hd r
  | .own b _ _, _, r => by simp only [Rel, D.lt] at r ⊢; obtain ⟨_, p, hp, _⟩ := r; exact hd _ _ hp
  | .sub b _ _ _ _ _, _, r => by simp only [Rel, D.lt] at r ⊢; obtain ⟨_, p, hp, _⟩ := r; exact hd _ _ hp
  | .nils, _, _ => by simp only [D.lt]
  | .ptr b _, _, r => by simp only [Rel, D.lt] at r ⊢; obtain ⟨p, hp, _⟩ := r; exact hd _ _ hp
  | .eptr b _ _ _ _, _, r => by simp only [Rel, D.lt] at r ⊢; obtain ⟨_, p, hp, _⟩ := r; exact hd _ _ hp
  | .rptr _, _, _ => by simp only [D.lt]
  | .nilp, _, _ => by simp only [D.lt]
  | .map b, _, r => by simp only [Rel, D.lt] at r ⊢; obtain ⟨p, hp, _⟩ := r; exact hd _ _ hp
  | .nilm, _, _ => by simp only [D.lt]
  | .fn f cs, _, r => by simp only [Rel, D.lt] at r ⊢; obtain ⟨vs, _, r⟩ := r; exact RelL.lt hd r
  | .nilf, _, _ => by simp only [D.lt]
  | .any, _, _ => by simp only [D.lt]
theorem RelL.lt {M : Mem} {μ : Mu} {n : Nat} (hd : ∀ i p, μ i = some p → i < n) : ∀ {ds : List D} {ys : List Value}, RelL M μ ds ys → D.ltL n ds
  | [], _, _ => by simp only [D.ltL]
  | d :: ds, _, r => by
    simp only [RelL, D.ltL] at r ⊢
    obtain ⟨v, vs, _, r1, r2⟩ := r
    exact ⟨Rel.lt hd r1, RelL.lt hd r2⟩
end
mutual
theorem Rel.only {M : Mem} {μ μ' : Mu} {n : Nat} (he : ∀ i, i < n → μ' i = μ i) : ∀ {d : D} {y : Value}, D.lt n d → Rel M μ d y → Rel M μ' d y
  | .v _, _, _, r => by simp only [Rel] at r ⊢; exact r
  | .agg cs, _, l, r => by simp only [Rel, D.lt] at l r ⊢; obtain ⟨vs, e, r⟩ := r; exact ⟨vs, e, RelL.only he l r⟩
  | .tup cs, _, l, r => by simp only [Rel, D.lt] at l r ⊢; obtain ⟨vs, e, r⟩ := r; exact ⟨vs, e, RelL.only he l r⟩
  | .own b _ _, _, l, r => by simp only [Rel, D.lt] at l r ⊢; rw [he b l]; exact r
  | .sub b _ _ _ _ _, _, l, r => by simp only [Rel, D.lt] at l r ⊢; rw [he b l]; exact r
  | .nils, _, _, r => by simp only [Rel] at r ⊢; exact r
  | .ptr b _, _, l, r => by simp only [Rel, D.lt] at l r ⊢; rw [he b l]; exact r
  | .eptr b _ _ _ _, _, l, r => by simp only [Rel, D.lt] at l r ⊢; rw [he b l]; exact r
  | .rptr _, _, _, r => by simp only [Rel] at r ⊢; exact r
  | .nilp, _, _, r => by simp only [Rel] at r ⊢; exact r
  | .map b, _, l, r => by simp only [Rel, D.lt] at l r ⊢; rw [he b l]; exact r
  | .nilm, _, _, r => by simp only [Rel] at r ⊢; exact r
  | .fn f cs, _, l, r => by simp only [Rel, D.lt] at l r ⊢; obtain ⟨vs, e, r⟩ := r; exact ⟨vs, e, RelL.only he l r⟩
  | .nilf, _, _, r => by simp only [Rel] at r ⊢; exact r
  | .any, _, _, _ => by simp only [Rel]
theorem RelL.only {M : Mem} {μ μ' : Mu} {n : Nat} (he : ∀ i, i < n → μ' i = μ i) : ∀ {ds : List D} {ys : List Value}, D.ltL n ds → RelL M μ ds ys → RelL M μ' ds ys
  | [], _, _, r => by simp only [RelL] at r ⊢; exact r
  | d :: ds, _, l, r => by
    simp only [RelL, D.ltL] at l r ⊢
    obtain ⟨v, vs, e, r1, r2⟩ := r
    exact ⟨v, vs, e, Rel.only he l.1 r1, RelL.only he l.2 r2⟩
end

def Ob.lt (n : Nat) : Ob → Prop
  | .box cs => D.ltL n cs
  | .arr _ _ xs _ => ∀ x ∈ xs, D.ltL n x
  | .mp es => ∀ e ∈ es, D.lt n e.1 ∧ D.lt n e.2.1
  | .dead => True

theorem EntRel.lt {M : Mem} {μ : Mu} {n : Nat} (hd : ∀ i p, μ i = some p → i < n) : ∀ {ds : List (D × D × Nat)} {es : List MapEntry}, EntRel M μ ds es → ∀ e ∈ ds, D.lt n e.1 ∧ D.lt n e.2.1
  | [], _, _, e, he => by simp at he
  | d :: ds, _, ⟨_, _, _, h2, h3, _, h4⟩, e, he => by
    simp only [List.mem_cons] at he
    rcases he with rfl | he
    · exact ⟨h2.lt hd, h3.lt hd⟩
    · exact EntRel.lt hd h4 e he
theorem ObRel.olt {base : Nat} {M : Mem} {μ : Mu} {w : World} {o : Ob} {p : Pt} {n : Nat} (hd : ∀ i p, μ i = some p → i < n) (h : ObRel base M μ w o p) : o.lt n := by
  cases o with
  | dead => trivial
  | box cs => obtain ⟨_, _, _, vs, t, _, hr⟩ := h; exact hr.lt hd
  | arr ver sz xs esc =>
    obtain ⟨_, _, _, _, _, vs, t, _, _, hr⟩ := h
    intro x hx
    obtain ⟨i, hi⟩ := List.mem_iff_getElem?.1 hx
    exact (hr i x hi).2.lt hd
  | mp es => obtain ⟨_, _, _, ents, c, _, hr, _⟩ := h; exact hr.lt hd
theorem EntRel.only {M : Mem} {μ μ' : Mu} {n : Nat} (he : ∀ i, i < n → μ' i = μ i) : ∀ {ds : List (D × D × Nat)} {es : List MapEntry}, (∀ e ∈ ds, D.lt n e.1 ∧ D.lt n e.2.1) → EntRel M μ ds es → EntRel M μ' ds es
  | [], _, _, r => r
  | d :: ds, _, hl, ⟨e, es, h1, h2, h3, hb, h4⟩ => ⟨e, es, h1, h2.only he (hl d (by simp)).1, h3.only he (hl d (by simp)).2, hb, h4.only he (fun x hx => hl x (by simp [hx]))⟩
theorem ObRel.only {base : Nat} {M : Mem} {μ μ' : Mu} {w : World} {o : Ob} {p : Pt} {n : Nat} (he : ∀ i, i < n → μ' i = μ i) (hl : o.lt n) (h : ObRel base M μ w o p) : ObRel base M μ' w o p := by
  cases o with
  | dead => trivial
  | box cs => obtain ⟨h1, h2, h3, vs, t, hb, hr⟩ := h; exact ⟨h1, h2, h3, vs, t, hb, hr.only he hl⟩
  | arr ver sz xs esc =>
    obtain ⟨h1, h2, h3, h4, h5, vs, t, hb, h6, hr⟩ := h
    exact ⟨h1, h2, h3, h4, h5, vs, t, hb, h6, fun i x hx => ⟨(hr i x hx).1, (hr i x hx).2.only he (hl x (List.mem_of_getElem? hx))⟩⟩
  | mp es => obtain ⟨h1, h2, h3, ents, c, hb, hr, h5⟩ := h; exact ⟨h1, h2, h3, ents, c, hb, hr.only he hl, h5⟩

/-- Of what was there at the begin all leads to what was there. -/
structure Env.Closed (E : Env) : Prop where
  tot : ∀ i, i < E.H0.length → ∃ p, E.μ0 i = some p
  dom : ∀ i p, E.μ0 i = some p → i < E.H0.length
  ob : ∀ i o p, E.H0[i]? = some o → E.μ0 i = some p → o.lt E.H0.length

/-- A state tells another one. -/
def Ent (E : Env) (ts : List D) (H : List Ob) (ts' : List D) (H' : List Ob) : Prop :=
  ∀ (M : Mem) (μ : Mu) (w : World) (vs : List Value), E.M0.le M → E.μ0.le μ → R E M μ H w → RelL M μ ts vs → ∃ M' μ', E.M0.le M' ∧ E.μ0.le μ' ∧ R E M' μ' H' w ∧ RelL M' μ' ts' vs

theorem Ent.refl {E : Env} (ts : List D) (H : List Ob) : Ent E ts H ts H := fun M μ w vs h1 h2 h3 h4 => ⟨M, μ, h1, h2, h3, h4⟩
theorem Ent.trans {E : Env} {a b c : List D} {A B C : List Ob} (h : Ent E a A b B) (k : Ent E b B c C) : Ent E a A c C := fun M μ w vs h1 h2 h3 h4 => by
  obtain ⟨M', μ', g1, g2, g3, g4⟩ := h M μ w vs h1 h2 h3 h4
  exact k M' μ' w vs g1 g2 g3 g4

/-- A slot's content told with less. -/
def D.le (d d' : D) : Prop := ∀ (M : Mem) (μ : Mu) (v : Value), Rel M μ d v → Rel M μ d' v
theorem D.le_refl (d : D) : D.le d d := fun _ _ _ h => h
theorem D.le_any (d : D) : D.le d .any := fun _ _ _ _ => by simp only [Rel]
theorem D.le_nils (sz : Nat) : D.le .nils (.v (.list sz [])) := fun M μ v h => by
  simp only [Rel, RelV] at h ⊢
  exact ⟨none, 0, by rw [h]; rfl, by simp, .inl trivial⟩
def leL : List D → List D → Prop
  | [], [] => True
  | d :: ds, e :: es => D.le d e ∧ leL ds es
  | _, _ => False
theorem leL.rel {M : Mem} {μ : Mu} : ∀ {ds es : List D} {vs : List Value}, leL ds es → RelL M μ ds vs → RelL M μ es vs
  | [], [], _, _, r => r
  | d :: ds, e :: es, _, h, r => by
    simp only [leL, RelL] at h r ⊢
    obtain ⟨v, vs, e', r1, r2⟩ := r
    exact ⟨v, vs, e', h.1 M μ v r1, leL.rel h.2 r2⟩
  | [], _ :: _, _, h, _ => by simp [leL] at h
  | _ :: _, [], _, h, _ => by simp [leL] at h
theorem Ent.weak {E : Env} {ts ts' : List D} {H : List Ob} (h : leL ts ts') : Ent E ts H ts' H := fun M μ w vs h1 h2 h3 h4 => ⟨M, μ, h1, h2, h3, h.rel h4⟩

/-- What nobody leads to is forgotten. -/
theorem Ent.gc {E : Env} {ts : List D} {H : List Ob} (n : Nat) (hE : E.Closed) (hn : E.H0.length ≤ n) (ht : D.ltL n ts) (ho : ∀ i o, i < n → H[i]? = some o → E.H0[i]? = some o ∨ o.lt n) : Ent E ts H ts (H.take n) := by
  intro M μ w vs h1 h2 h3 h4
  have he : ∀ i, i < n → (fun i => if i < n then μ i else none) i = μ i := fun i hi => by simp [hi]
  have hsome : ∀ i p, (fun i => if i < n then μ i else none) i = some p → i < n ∧ μ i = some p := fun i p hp => by
    by_cases hi : i < n
    · simp only [hi, if_true] at hp; exact ⟨hi, hp⟩
    · simp only [hi, if_false] at hp; cases hp
  refine ⟨M, fun i => if i < n then μ i else none, h1, fun i p hp => ?_, ⟨h3.below, h3.imm, h3.glob, fun i p hp => ?_, fun i o p hio hp => ?_, ?_, fun i hi => ?_⟩, h4.only he ht⟩
  · have := hE.dom i p hp
    obtain ⟨p', g1, g2⟩ := h2 i p hp
    exact ⟨p', by rw [he i (by omega)]; exact g1, g2⟩
  · obtain ⟨hi, hp⟩ := hsome i p hp
    have := h3.dom i p hp; simp; omega
  · obtain ⟨hi, hp⟩ := hsome i p hp
    rw [List.getElem?_take, if_pos hi] at hio
    have hob := h3.obj i o p hio hp
    rcases ho i o hi hio with h0 | h0
    · obtain ⟨q, hq⟩ := hE.tot i (List.getElem?_eq_some_iff.1 h0).1
      exact hob.only (n := E.H0.length) (fun j hj => he j (by omega)) (hE.ob i o q h0 hq)
    · exact hob.only he h0
  · intro i j oi oj pi pj hij hi hj di dj hpi hpj
    obtain ⟨hin, hpi⟩ := hsome i pi hpi
    obtain ⟨hjn, hpj⟩ := hsome j pj hpj
    rw [List.getElem?_take, if_pos hin] at hi
    rw [List.getElem?_take, if_pos hjn] at hj
    exact h3.sep i j oi oj pi pj hij hi hj di dj hpi hpj
  · have hi' : i < n ∧ i < H.length := by rw [List.length_take] at hi; omega
    obtain ⟨p, hp⟩ := h3.tot i hi'.2
    exact ⟨p, (he i hi'.1).trans hp⟩

/-- An array is told to stay as it is. -/
theorem R.publish {E : Env} {M : Mem} {μ : Mu} {H : List Ob} {w : World} (h : R E M μ H w) {b ver sz esc : Nat} {xs : List (List D)} {p : Pt} (hb : H[b]? = some (.arr ver sz xs esc)) (hp : μ b = some p) (he : esc ≤ xs.length) :
    ∃ M', M.le M' ∧ R E M' μ (H.set b (.arr ver sz xs xs.length)) w ∧ ∃ vs : List Value, Rows M' μ sz xs vs ∧ xs.length * sz ≤ vs.length ∧ ∀ j, j < xs.length * sz → M' p.blk j = vs[j]? := by
  obtain ⟨hbase, hver, hv1, himm, hcap, vs, tt, hbl, hvl, hv⟩ := h.obj b _ p hb hp
  have hlt := h.dom b p hp
  have hfit : xs.length * sz ≤ vs.length := by rw [hvl]; exact Nat.mul_le_mul_right _ hcap
  have hnew : ∀ b' o, b' = p.blk → o < xs.length * sz → (fun b' o => if b' = p.blk ∧ o < xs.length * sz then vs[o]? else M b' o) b' o = vs[o]? := fun b' o e ho => by simp [e, ho]
  have hold : ∀ b' o, ¬ (b' = p.blk ∧ o < xs.length * sz) → (fun b' o => if b' = p.blk ∧ o < xs.length * sz then vs[o]? else M b' o) b' o = M b' o := fun b' o e => by simp only [if_neg e]
  generalize hM : (fun b' o => if b' = p.blk ∧ o < xs.length * sz then vs[o]? else M b' o) = M' at hnew hold
  have hle : M.le M' := fun b' o y hy => by
    by_cases e : b' = p.blk ∧ o < xs.length * sz
    · rw [hnew b' o e.1 e.2]
      have := h.imm b' o y hy
      rw [e.1, cell?_block hbl] at this
      exact this
    · rw [hold b' o e]; exact hy
  have hne : ∀ b' o, b' ≠ p.blk → M' b' o = M b' o := fun b' o e => hold b' o (fun x => e x.1)
  refine ⟨M', hle, ⟨h.below, fun b' o y hy => ?_, fun g cs hg => (h.glob g cs hg).mono hle, fun i q hq => by simpa using h.dom i q hq, fun i o q hi hq => ?_, ?_, fun i hi => h.tot i (by simpa using hi)⟩, vs, hv.mono hle (.refl _), hfit, fun j hj => hnew _ j rfl hj⟩
  · by_cases e : b' = p.blk ∧ o < xs.length * sz
    · rw [hnew b' o e.1 e.2] at hy
      rw [e.1, cell?_block hbl]; exact hy
    · rw [hold b' o e] at hy; exact h.imm b' o y hy
  · by_cases e : i = b
    · subst e
      rw [hp] at hq; cases hq
      rw [List.getElem?_set_self hlt] at hi; cases hi
      refine ⟨hbase, hver, hv1, fun o y hy => ?_, hcap, vs, tt, hbl, hvl, hv.mono hle (.refl _)⟩
      by_cases ho : o < xs.length * sz
      · exact ho
      · rw [hold _ o (fun x => ho x.2)] at hy
        have := himm o y hy
        have : esc * sz ≤ xs.length * sz := Nat.mul_le_mul_right _ he
        omega
    · rw [List.getElem?_set_ne (fun x => e x.symm)] at hi
      have hob := h.obj i o q hi hq
      cases o with
      | dead => trivial
      | box cs =>
        have hs := h.sep i b _ _ q p e hi hb (by simp) (by simp) hq hp
        obtain ⟨h1, h2, h3, vs', t, hb', hr⟩ := hob
        exact ⟨h1, h2, fun o => by rw [hne _ o hs]; exact h3 o, vs', t, hb', hr.mono hle (.refl _)⟩
      | arr ver' sz' xs' esc' =>
        have hs := h.sep i b _ _ q p e hi hb (by simp) (by simp) hq hp
        obtain ⟨h1, h2, h3, h4, h5, vs', t, hb', h6, hr⟩ := hob
        exact ⟨h1, h2, h3, fun o y hy => h4 o y (by rw [hne _ o hs] at hy; exact hy), h5, vs', t, hb', h6, hr.mono hle (.refl _)⟩
      | mp es =>
        have hs := h.sep i b _ _ q p e hi hb (by simp) (by simp) hq hp
        obtain ⟨h1, h2, h3, ents, c, hb', hr, h5⟩ := hob
        exact ⟨h1, h2, fun o => by rw [hne _ o hs]; exact h3 o, ents, c, hb', hr.mono hle (.refl _), h5⟩
  · intro i j oi oj pi pj hij hi hj di dj hpi hpj
    have back : ∀ (j : Nat) (oj : Ob), (H.set b (.arr ver sz xs xs.length))[j]? = some oj → oj ≠ .dead → ∃ oj', H[j]? = some oj' ∧ oj' ≠ .dead := fun j oj hj dj => by
      by_cases e : j = b
      · subst e; exact ⟨_, hb, by simp⟩
      · rw [List.getElem?_set_ne (fun x => e x.symm)] at hj; exact ⟨oj, hj, dj⟩
    obtain ⟨oi', hi', di'⟩ := back i oi hi di
    obtain ⟨oj', hj', dj'⟩ := back j oj hj dj
    exact h.sep i j oi' oj' pi pj hij hi' hj' di' dj' hpi hpj

mutual
/-- A slot's content, where an array is told to stay as it is. -/
def D.conv (b ver sz : Nat) (ys : List (List V)) : D → D
  | .own b' ver' len => if b' = b ∧ ver' = ver ∧ len ≤ ys.length then .v (.list sz (ys.take len)) else .own b' ver' len
  | .agg cs => .agg (D.convL b ver sz ys cs)
  | .tup cs => .tup (D.convL b ver sz ys cs)
  | .fn f cs => .fn f (D.convL b ver sz ys cs)
  | .v x => .v x
  | .nils => .nils
  | .ptr b o => .ptr b o
  | .eptr b vv s i o => .eptr b vv s i o
  | .rptr cs => .rptr cs
  | .nilp => .nilp
  | .map m => .map m
  | .nilm => .nilm
  | .nilf => .nilf
  | .sub b vv s o l c => .sub b vv s o l c
  | .any => .any
def D.convL (b ver sz : Nat) (ys : List (List V)) : List D → List D
  | [] => []
  | d :: ds => D.conv b ver sz ys d :: D.convL b ver sz ys ds
end

theorem rows_of_pub {M : Mem} {μ : Mu} {sz blk : Nat} {ys : List (List V)} {vs : List Value} (hr : Rows M μ sz (ys.map (·.map .v)) vs) (hl : ys.length * sz ≤ vs.length) (hM : ∀ j, j < ys.length * sz → M blk j = vs[j]?) : RelRows M sz blk 0 ys := by
  refine RelRows.of_get fun i x hx => ?_
  have hil : i < ys.length := (List.getElem?_eq_some_iff.1 hx).1
  obtain ⟨h1, h2⟩ := hr i (x.map .v) (by rw [List.getElem?_map, hx]; rfl)
  refine ⟨by simpa using h1, RelRow.of_get fun j d hj => ?_⟩
  have hjl : j < sz := by have := (List.getElem?_eq_some_iff.1 hj).1; simp at h1; omega
  obtain ⟨y, g1, g2⟩ := h2.get j (.v d) (by rw [List.getElem?_map, hj]; rfl)
  rw [List.getElem?_take, if_pos hjl, List.getElem?_drop] at g1
  simp only [Rel] at g2
  refine ⟨y, ?_, g2⟩
  have : (i + 1) * sz ≤ ys.length * sz := Nat.mul_le_mul_right _ hil
  rw [Nat.add_mul, Nat.one_mul] at this
  rw [Nat.zero_add, hM _ (by omega), g1]

mutual
theorem Rel.conv {M : Mem} {μ : Mu} {b ver sz : Nat} {ys : List (List V)} {p : Pt} (hp : μ b = some p) (hv : p.ver = ver) (hr : RelRows M sz p.blk 0 ys) : ∀ {d : D} {y : Value}, Rel M μ d y → Rel M μ (D.conv b ver sz ys d) y
  | .own b' ver' len, y, r => by
    simp only [D.conv]
    split
    · rename_i hc
      obtain ⟨rfl, rfl, hl⟩ := hc
      simp only [Rel, RelV] at r ⊢
      obtain ⟨_, q, hq, _, _, g⟩ := r
      rw [hp] at hq; cases hq
      obtain ⟨g1, rfl⟩ := g hv
      have hlen : (ys.take len).length = len := by simp; omega
      exact ⟨_, _, by rw [hlen], by rw [hlen]; exact g1, .inr ⟨_, 0, rfl, hr.take len⟩⟩
    · exact r
  | .agg cs, _, r => by simp only [Rel, D.conv] at r ⊢; obtain ⟨vs, e, r⟩ := r; exact ⟨vs, e, RelL.conv hp hv hr r⟩
  | .tup cs, _, r => by simp only [Rel, D.conv] at r ⊢; obtain ⟨vs, e, r⟩ := r; exact ⟨vs, e, RelL.conv hp hv hr r⟩
  | .fn f cs, _, r => by simp only [Rel, D.conv] at r ⊢; obtain ⟨vs, e, r⟩ := r; exact ⟨vs, e, RelL.conv hp hv hr r⟩
  | .v _, _, r => by simp only [D.conv]; exact r
  | .nils, _, r => by simp only [D.conv]; exact r
  | .ptr _ _, _, r => by simp only [D.conv]; exact r
  | .eptr _ _ _ _ _, _, r => by simp only [D.conv]; exact r
  | .rptr _, _, r => by simp only [D.conv]; exact r
  | .nilp, _, r => by simp only [D.conv]; exact r
  | .map _, _, r => by simp only [D.conv]; exact r
  | .nilm, _, r => by simp only [D.conv]; exact r
  | .nilf, _, r => by simp only [D.conv]; exact r
  | .sub _ _ _ _ _ _, _, r => by simp only [D.conv]; exact r
  | .any, _, r => by simp only [D.conv]; exact r
theorem RelL.conv {M : Mem} {μ : Mu} {b ver sz : Nat} {ys : List (List V)} {p : Pt} (hp : μ b = some p) (hv : p.ver = ver) (hr : RelRows M sz p.blk 0 ys) : ∀ {ds : List D} {vs : List Value}, RelL M μ ds vs → RelL M μ (D.convL b ver sz ys ds) vs
  | [], _, r => by simp only [D.convL]; exact r
  | d :: ds, _, r => by
    simp only [RelL, D.convL] at r ⊢
    obtain ⟨v, vs, e, r1, r2⟩ := r
    exact ⟨v, vs, e, Rel.conv hp hv hr r1, RelL.conv hp hv hr r2⟩
end

/-- An array's rows are told, by value. -/
theorem Ent.pub {E : Env} {ts : List D} {H : List Ob} (b : Nat) {ver sz esc : Nat} {xs : List (List D)} (ys : List (List V)) (hb : H[b]? = some (.arr ver sz xs esc)) (he : esc ≤ xs.length) (hx : xs = ys.map (·.map .v)) :
    Ent E ts H (D.convL b ver sz ys ts) (H.set b (.arr ver sz xs ys.length)) := by
  intro M μ w vs h1 h2 h3 h4
  subst hx
  obtain ⟨p, hp⟩ := h3.tot b (List.getElem?_eq_some_iff.1 hb).1
  obtain ⟨M', g1, g2, vs', g3, g4, g5⟩ := h3.publish hb hp he
  have hver := (h3.obj b _ p hb hp).2.1
  rw [List.length_map] at g2 g4 g5
  exact ⟨M', μ, h1.trans g1, h2, g2, RelL.conv hp hver (rows_of_pub g3 g4 g5) (RelL.mono g1 (.refl _) h4)⟩

theorem sat_ent {E : Env} {c : Code} {ts ts' : List D} {H H' : List Ob} {Q : Exit → List D → List Ob → Prop} (h : Ent E ts H ts' H') (k : Sat E c ts' H' Q) : Sat E c ts H Q := by
  intro M μ w a h1 h2 h3 h4 h5
  obtain ⟨M', μ', g1, g2, g3, g4⟩ := h M μ w _ h1 h2 h3 h4
  exact k M' μ' w a g1 g2 g3 g4 h5

/-- A loop whose rounds end in a state that tells the next round's head. -/
theorem sat_loop_ent {E : Env} {c : Code} {ts : List D} {H : List Ob} {Q : Exit → List D → List Ob → Prop} (I : Nat → List D → List Ob → Prop) (n : Nat) {ts0 : List D} {H0 : List Ob} (h0 : Ent E ts H ts0 H0) (hi : I n ts0 H0)
    (hr : ∀ n ts H, I n ts H → Sat E c ts H (Th (fun ts' H' => ∃ m ts2 H2, m < n ∧ Ent E ts' H' ts2 H2 ∧ I m ts2 H2) Q)) : Sat E (.loop c) ts H Q := by
  refine sat_ent h0 (sat_loop (fun n ts H => ∃ ts2 H2, Ent E ts H ts2 H2 ∧ I n ts2 H2) n ⟨_, _, .refl _ _, hi⟩ ?_)
  rintro n ts H ⟨ts2, H2, he, hI⟩
  refine sat_ent he ((hr n ts2 H2 hI).mono ?_)
  intro e ts' H' hq
  cases e with
  | normal => obtain ⟨m, ts3, H3, g1, g2, g3⟩ := hq; exact ⟨m, g1, ts3, H3, g2, g3⟩
  | _ => exact hq

def retD (slots : List Tmp) (ts : List D) : D :=
  match slots with
  | [s] => ts.getD s (.tup [])
  | _ => .tup (slots.map fun s => ts.getD s (.tup []))

theorem getD_rel {M : Mem} {μ : Mu} {ts : List D} {a : Array Value} (ht : RelL M μ ts a.toList) (s : Nat) : Rel M μ (ts.getD s (.tup [])) (a.getD s undef) := by
  have hl : a.size = ts.length := by have := ht.length; rwa [show a.toList.length = a.size from Array.length_toList] at this
  rw [List.getD_eq_getElem?_getD, Array.getD_eq_getD_getElem?]
  by_cases hlt : s < ts.length
  · obtain ⟨y, h1, h2⟩ := ht.get s _ (List.getElem?_eq_getElem hlt)
    rw [List.getElem?_eq_getElem hlt]
    have h3 : a[s]? = some y := by simpa using h1
    rw [h3]; exact h2
  · rw [List.getElem?_eq_none (Nat.le_of_not_lt hlt), Array.getElem?_eq_none (by omega)]
    simp only [Option.getD_none, Rel, RelL]
    exact ⟨[], rfl, rfl⟩

def retV (slots : List Tmp) (a : Array Value) : Value :=
  match slots with
  | [s] => a.getD s undef
  | _ => .tuple (slots.map fun s => a.getD s undef).toArray
theorem results_run {P : Program} {w : World} {fn : Func} {slots : List Tmp} (hr : fn.results.toList = slots.map ResultVar.tmp) (a : Array Value) :
    (results fn a).run P w = Result.ok (retV slots a) w := by
  have hm : ∀ ss : List Tmp, ((ss.map ResultVar.tmp).mapM (fun x => match x with | ResultVar.tmp t => (pure (a.getD t undef) : Sem Value) | ResultVar.cell ad t => (do loadVar t (← asAddr (a.getD ad undef)) : Sem Value))).run P w = Result.ok (ss.map fun s => a.getD s undef) w := by
    intro ss
    induction ss with
    | nil => simp
    | cons s ss ih => simp only [List.map_cons, List.mapM_cons, Sem.run_bind, Sem.run_pure, Result.andThen_ok, ih]
  have hres : fn.results = (slots.map ResultVar.tmp).toArray := by apply Array.toList_inj.1; simpa using hr
  unfold results
  rw [hres, Array.mapM_eq_mapM_toList]
  simp only [Sem.run_bind, Sem.run_map, List.toList_toArray, hm, Result.andThen_ok, Sem.run_pure]
  match slots with
  | [] => rfl
  | [s] => rfl
  | s :: s' :: ss => exact (congrArg (fun r : Result (List Value) => (r.andThen fun a w' => Result.ok a.toArray w').andThen fun a w' => Result.ok (if h : a.size = 1 then a[0] else Value.tuple a) w') (hm (s :: s' :: ss))).trans rfl

theorem relL_slots {M : Mem} {μ : Mu} {ts : List D} {a : Array Value} (ht : RelL M μ ts a.toList) : ∀ ss : List Tmp, RelL M μ (ss.map fun s => ts.getD s (.tup [])) (ss.map fun s => a.getD s undef)
  | [] => by simp [RelL]
  | s :: ss => by rw [List.map_cons, List.map_cons, RelL.cons_iff]; exact ⟨getD_rel ht s, relL_slots ht ss⟩

/-- **A function, from its body.** -/
theorem ACalls.body {P : Program} {G : Nat → Option (List V)} {f : FuncId} {args : List D} {H : List Ob} {K : D → List Ob → Prop} (fn : Func) (c : Code) (slots : List Tmp) (hf : P.funcs[f]? = some fn) (hb : fn.body = some c) (hc : callB P f = true) (hr : fn.results.toList = slots.map .tmp)
    (h : ∀ E : Env, E.P = P → E.G = G → E.H0 = H → E.Closed → Sat E c (args ++ List.replicate (fn.ntmps - args.length) (.tup [])) H fun e ts H' => (e = .normal ∨ e = .ret) ∧ ∃ ts' H'', Ent E ts H' ts' H'' ∧ K (retD slots ts') H'') : ACalls P G f args H K := by
  refine ACalls.ofB hc ?_
  rintro ⟨P', G', w0, M0, μ0, H0⟩ e1 e2 M μ w vs h1 h2
  simp only at e1 e2
  subst e1; subst e2
  have hcl : Env.Closed ⟨P', G', w0, M, μ, H⟩ := ⟨h1.tot, h1.dom, fun i o p ho hp => (h1.obj i o p ho hp).olt h1.dom⟩
  have hR : R ⟨P', G', w0, M, μ, H⟩ M μ H w := ⟨h1.below, h1.imm, h1.glob, h1.dom, h1.obj, h1.sep, h1.tot⟩
  have hl := h2.length
  refine calls_of_wp hf hb (wp_mono (h ⟨P', G', w0, M, μ, H⟩ rfl rfl rfl hcl M μ w ⟨vs.toArray ++ Array.replicate (fn.ntmps - vs.toArray.size) undef, []⟩ (Mem.le.refl _) (Mu.le.refl _) hR ?_ rfl) ?_)
  · simp only [Array.toList_append, List.toList_toArray, Array.toList_replicate, List.size_toArray, hl]
    refine h2.append ?_
    generalize fn.ntmps - args.length = n
    induction n with
    | zero => simp [RelL]
    | succ n ih => rw [List.replicate_succ, List.replicate_succ, RelL.cons_iff]; exact ⟨by simp only [Rel, RelL]; exact ⟨[], rfl, rfl⟩, ih⟩
  · rintro e a' w' ⟨M', μ', ts', H', g1, g2, g3, g4, g5, g6, ts2, H2, g7, g8⟩
    obtain ⟨M2, μ2, k1, k2, k3, k4⟩ := g7 M' μ' w' _ g1 g2 g3 g4
    have hval : Rel M2 μ2 (retD slots ts2) (retV slots a'.tmps) := by
      match slots with
      | [] => simp only [retD, Rel]; exact ⟨[], rfl, by simp [RelL]⟩
      | [s] => exact getD_rel k4 s
      | s :: s' :: ss => simp only [retD, Rel]; exact ⟨_, rfl, relL_slots k4 _⟩
    have hfin : ∃ v, (results fn a'.tmps).run P' w' = .ok v w' ∧ ∃ v_1 d M' μ' H', Ending.returned v = .returned v_1 ∧ M.le M' ∧ μ.le μ' ∧ R ⟨P', G', w0, M0, μ0, H0⟩ M' μ' H' w' ∧ Rel M' μ' d v_1 ∧ K d H' :=
      ⟨_, results_run hr _, _, _, M2, μ2, H2, rfl, k1, k2, ⟨k3.below, k3.imm, k3.glob, k3.dom, k3.obj, k3.sep, k3.tot⟩, hval, g8⟩
    rcases g6 with rfl | rfl
    · exact ⟨g5, hfin⟩
    · exact ⟨g5, hfin⟩

end Go.Ag
/- AGo, part 12: frames told by the slots that matter. -/
namespace Go.Ag
open Go Go.RowKit

def look : List (Nat × D) → Nat → D
  | [], _ => .any
  | (j, d) :: l, i => if i = j then d else look l i
def fr (n : Nat) (l : List (Nat × D)) : List D := (List.range n).map (look l)

theorem fr_get {n : Nat} {l : List (Nat × D)} {i : Nat} (h : i < n) : (fr n l)[i]? = some (look l i) := by
  unfold fr; rw [List.getElem?_map, List.getElem?_range h]; rfl
theorem fr_set (n : Nat) (l : List (Nat × D)) (i : Nat) (d : D) : (fr n l).set i d = fr n ((i, d) :: l) := by
  apply List.ext_getElem?
  intro j
  rw [List.getElem?_set]
  by_cases hj : j < n
  · rw [fr_get hj]
    by_cases e : i = j
    · subst e
      rw [if_pos rfl, if_pos (by simp [fr, hj]), fr_get hj]
      simp [look]
    · rw [if_neg e, fr_get hj]
      simp only [look]
      rw [if_neg (fun x => e x.symm)]
  · rw [List.getElem?_eq_none (by simp [fr]; omega), List.getElem?_eq_none (by simp [fr]; omega)]
    split
    · split
      · rename_i h; simp [fr] at h; omega
      · rfl
    · rfl
theorem putD_some (n : Nat) (l : List (Nat × D)) (i : Nat) (d : D) : putD (fr n l) (some i) d = fr n ((i, d) :: l) := fr_set n l i d
theorem putD_none (ts : List D) (d : D) : putD ts none d = ts := rfl
theorem ev_tmp {E : Env} {n : Nat} {l : List (Nat × D)} {t : Nat} (h : t < n) : ev E (fr n l) (.tmp t) = look l t := by
  simp only [ev, List.getD_eq_getElem?_getD, fr_get h, Option.getD_some]
theorem getD_fr {n : Nat} {l : List (Nat × D)} {t : Nat} (h : t < n) (d : D) : (fr n l).getD t d = look l t := by
  simp only [List.getD_eq_getElem?_getD, fr_get h, Option.getD_some]

def leAll (l : List (Nat × D)) : List (Nat × D) → Prop
  | [] => True
  | (i, d) :: r => D.le (look l i) d ∧ leAll l r
theorem leAll_look {l : List (Nat × D)} : ∀ {r : List (Nat × D)}, leAll l r → ∀ i, D.le (look l i) (look r i)
  | [], _, i => D.le_any _
  | (j, d) :: r, h, i => by
    simp only [leAll] at h
    simp only [look]
    split
    · rename_i e; subst e; exact h.1
    · exact leAll_look h.2 i
theorem leL_map (f g : Nat → D) : ∀ (l : List Nat), (∀ i, D.le (f i) (g i)) → leL (l.map f) (l.map g)
  | [], _ => by simp [leL]
  | i :: l, h => by simp only [List.map_cons, leL]; exact ⟨h i, leL_map f g l h⟩
theorem Ent.weakFr {E : Env} {n : Nat} {l l' : List (Nat × D)} {H : List Ob} (h : leAll l l') : Ent E (fr n l) H (fr n l') H := Ent.weak (leL_map _ _ _ (leAll_look h))

def ltAll (n : Nat) : List (Nat × D) → Prop
  | [] => True
  | (_, d) :: r => D.lt n d ∧ ltAll n r
theorem ltAll_look {n : Nat} : ∀ {r : List (Nat × D)}, ltAll n r → ∀ i, D.lt n (look r i)
  | [], _, i => by simp only [look, D.lt]
  | (j, d) :: r, h, i => by
    simp only [ltAll] at h
    simp only [look]
    split
    · exact h.1
    · exact ltAll_look h.2 i
theorem ltL_map {n : Nat} (f : Nat → D) (h : ∀ i, D.lt n (f i)) : ∀ (l : List Nat), D.ltL n (l.map f)
  | [] => by simp only [List.map_nil, D.ltL]
  | i :: l => by simp only [List.map_cons, D.ltL]; exact ⟨h i, ltL_map f h l⟩
theorem ltL_fr {n m : Nat} {l : List (Nat × D)} (h : ltAll m l) : D.ltL m (fr n l) := ltL_map _ (ltAll_look h) _

def ltObs (n : Nat) : List Ob → Prop
  | [] => True
  | o :: os => o.lt n ∧ ltObs n os
theorem ltObs_get {n : Nat} : ∀ {L : List Ob}, ltObs n L → ∀ (i : Nat) (o : Ob), L[i]? = some o → o.lt n
  | [], _, i, o, h => by simp at h
  | a :: L, hl, i, o, h => by
    cases i with
    | zero => simp at h; subst h; exact hl.1
    | succ i => exact ltObs_get hl.2 i o (by simpa using h)

/-- Of what was made here only the first objects stay. -/
theorem Ent.gcFr {E : Env} {n : Nat} {l : List (Nat × D)} (L G : List Ob) (hE : E.Closed) (ht : ltAll (E.H0.length + L.length) l) (ho : ltObs (E.H0.length + L.length) L) : Ent E (fr n l) (E.H0 ++ (L ++ G)) (fr n l) (E.H0 ++ L) := by
  have h := Ent.gc (E := E) (ts := fr n l) (H := E.H0 ++ (L ++ G)) (E.H0.length + L.length) hE (by omega) (ltL_fr ht) (fun i o hi hio => by
    by_cases h0 : i < E.H0.length
    · rw [List.getElem?_append_left h0] at hio; exact .inl hio
    · right
      rw [List.getElem?_append_right (by omega), List.getElem?_append_left (by omega)] at hio
      exact ltObs_get ho _ _ hio)
  have e : (E.H0 ++ (L ++ G)).take (E.H0.length + L.length) = E.H0 ++ L := by
    rw [List.take_append, List.take_of_length_le (by omega)]
    congr 1
    rw [show E.H0.length + L.length - E.H0.length = L.length from by omega, List.take_left]
  rwa [e] at h

theorem convL_map {b ver sz : Nat} {ys : List (List V)} (f : Nat → D) : ∀ l : List Nat, D.convL b ver sz ys (l.map f) = l.map fun i => D.conv b ver sz ys (f i)
  | [] => by simp only [List.map_nil, D.convL]
  | i :: l => by simp only [List.map_cons, D.convL, convL_map f l]
def convFr (b ver sz : Nat) (ys : List (List V)) : List (Nat × D) → List (Nat × D)
  | [] => []
  | (i, d) :: l => (i, D.conv b ver sz ys d) :: convFr b ver sz ys l
theorem look_conv {b ver sz : Nat} {ys : List (List V)} : ∀ (l : List (Nat × D)) (i : Nat), look (convFr b ver sz ys l) i = D.conv b ver sz ys (look l i)
  | [], i => by simp only [convFr, look, D.conv]
  | (j, d) :: l, i => by
    simp only [convFr, look]
    split
    · rfl
    · exact look_conv l i
theorem Ent.pubFr {E : Env} {n : Nat} {l : List (Nat × D)} {H : List Ob} (b : Nat) {ver sz esc : Nat} {xs : List (List D)} (ys : List (List V)) (hb : H[b]? = some (.arr ver sz xs esc)) (he : esc ≤ xs.length) (hx : xs = ys.map (·.map .v)) :
    Ent E (fr n l) H (fr n (convFr b ver sz ys l)) (H.set b (.arr ver sz xs ys.length)) := by
  have h := Ent.pub (E := E) (ts := fr n l) b ys hb he hx
  have e : D.convL b ver sz ys (fr n l) = fr n (convFr b ver sz ys l) := by
    unfold fr
    rw [convL_map]
    apply List.map_congr_left
    intro i _
    exact (look_conv l i).symm
  rwa [e] at h

/-- The frame at a function's entry. -/
def args0 : Nat → List D → List (Nat × D)
  | _, [] => []
  | i, d :: ds => (i, d) :: args0 (i + 1) ds
theorem look_args (ds : List D) : ∀ (k i : Nat) (d : D), ds[i]? = some d → look (args0 k ds) (k + i) = d := by
  induction ds with
  | nil => intro k i d h; simp at h
  | cons a ds ih =>
    intro k i d h
    simp only [args0, look]
    cases i with
    | zero => simp at h; simp [h]
    | succ i =>
      rw [if_neg (by omega), show k + (i + 1) = (k + 1) + i from by omega]
      exact ih (k + 1) i d (by simpa using h)
theorem look_args_none (ds : List D) : ∀ (k i : Nat), ds.length ≤ i → look (args0 k ds) (k + i) = .any := by
  induction ds with
  | nil => intro k i _; rfl
  | cons a ds ih =>
    intro k i h
    simp only [args0, look]
    simp at h
    rw [if_neg (by omega), show k + i = (k + 1) + (i - 1) from by omega]
    exact ih (k + 1) (i - 1) (by omega)

/-- **A function, from its body**, its frame told by slots. -/
theorem ACalls.fn {P : Program} {G : Nat → Option (List V)} {f : FuncId} {args : List D} {H : List Ob} {K : D → List Ob → Prop} (fn : Func) (c : Code) (n : Nat) (slots : List Tmp) (hf : P.funcs[f]? = some fn) (hb : fn.body = some c) (hn : fn.ntmps = n) (hc : callB P f = true) (hr : fn.results.toList = slots.map .tmp) (hl : args.length ≤ n)
    (h : ∀ w0 M0 μ0, Env.Closed ⟨P, G, w0, M0, μ0, H⟩ → Sat ⟨P, G, w0, M0, μ0, H⟩ c (fr n (args0 0 args)) H fun e ts H' => (e = .normal ∨ e = .ret) ∧ ∃ ts' H'', Ent ⟨P, G, w0, M0, μ0, H⟩ ts H' ts' H'' ∧ K (retD slots ts') H'') : ACalls P G f args H K := by
  refine ACalls.body fn c slots hf hb hc hr ?_
  rintro ⟨P', G', w0, M0, μ0, H0⟩ e1 e2 e3 hcl
  simp only at e1 e2 e3
  subst e1; subst e2; subst e3
  refine sat_ent (Ent.weak ?_) (h w0 M0 μ0 hcl)
  rw [hn]
  have hlen : (args ++ List.replicate (n - args.length) (D.tup [])).length = n := by simp; omega
  have e : args ++ List.replicate (n - args.length) (D.tup []) = (List.range n).map fun i => (args ++ List.replicate (n - args.length) (D.tup [])).getD i (.tup []) := by
    apply List.ext_getElem?
    intro i
    rw [List.getElem?_map]
    by_cases hi : i < n
    · rw [List.getElem?_range hi, List.getElem?_eq_getElem (by omega)]
      simp only [Option.map_some, List.getD_eq_getElem?_getD]
      rw [List.getElem?_eq_getElem (by omega)]; rfl
    · rw [List.getElem?_eq_none (by omega), List.getElem?_eq_none (by simp; omega)]; rfl
  rw [e]
  refine leL_map _ _ _ fun i => ?_
  by_cases hi : i < args.length
  · have h1 := look_args args 0 i args[i] (List.getElem?_eq_getElem hi)
    rw [Nat.zero_add] at h1
    rw [h1, List.getD_eq_getElem?_getD, List.getElem?_append_left hi, List.getElem?_eq_getElem hi]
    exact D.le_refl _
  · have h1 := look_args_none args 0 i (by omega)
    rw [Nat.zero_add] at h1
    rw [h1]; exact D.le_any _

end Go.Ag
/- AGo, part 13: an operation's answer, told with less. -/
namespace Go.Ag
open Go Go.RowKit

theorem aLoad_mono {P : Program} {t : TypeId} {d : D} {H : List Ob} {K K' : D → Prop} (hk : ∀ d, K d → K' d) (h : aLoad P t d H K) : aLoad P t d H K' := by
  unfold aLoad at *; (repeat' split at h) <;> grind
theorem aAlloc_mono {P : Program} {t : TypeId} {H : List Ob} {K K' : D → List Ob → Prop} (hk : ∀ d H, K d H → K' d H) (h : aAlloc P t H K) : aAlloc P t H K' := by
  unfold aAlloc at *; grind
theorem aBox_mono {d : D} {H : List Ob} {K K' : D → List Ob → Prop} (hk : ∀ d H, K d H → K' d H) (h : aBox d H K) : aBox d H K' := by
  unfold aBox at *; grind
theorem aStore_mono {P : Program} {t : TypeId} {d x : D} {H : List Ob} {K K' : List Ob → Prop} (hk : ∀ H, K H → K' H) (h : aStore P t d x H K) : aStore P t d x H K' := by
  unfold aStore at *; (repeat' split at h) <;> grind
theorem aFieldAddr_mono {P : Program} {t : TypeId} {d : D} {f : Nat} {H : List Ob} {K K' : D → Prop} (hk : ∀ d, K d → K' d) (h : aFieldAddr P t d f H K) : aFieldAddr P t d f H K' := by
  unfold aFieldAddr at *; (repeat' split at h) <;> grind
theorem aIndexAddr_mono {P : Program} {t : TypeId} {d i : D} {H : List Ob} {K K' : D → Prop} (hk : ∀ d, K d → K' d) (h : aIndexAddr P t d i H K) : aIndexAddr P t d i H K' := by
  unfold aIndexAddr at *; (repeat' split at h) <;> grind
theorem aIndex_mono {P : Program} {t : TypeId} {d i : D} {K K' : D → Prop} (hk : ∀ d, K d → K' d) (h : aIndex P t d i K) : aIndex P t d i K' := by
  unfold aIndex at *; grind
theorem aSlice_mono {P : Program} {t : TypeId} {d : D} {lo hi : Option D} {H : List Ob} {K K' : D → Prop} (hk : ∀ d, K d → K' d) (h : aSlice P t d lo hi H K) : aSlice P t d lo hi H K' := by
  unfold aSlice at *; grind
theorem aEq_mono {P : Program} {t : TypeId} {x y : D} {H : List Ob} {K K' : Bool → Prop} (hk : ∀ d, K d → K' d) (h : aEq P t x y H K) : aEq P t x y H K' := by
  unfold aEq at *; (repeat' split at h) <;> grind
theorem aBin_mono {P : Program} {op : BinOp} {t : TypeId} {x y : D} {H : List Ob} {K K' : D → Prop} (hk : ∀ d, K d → K' d) (h : aBin P op t x y H K) : aBin P op t x y H K' := by
  cases op
  case eql => unfold aBin at *; exact aEq_mono (fun b hb => hk _ hb) h
  case neq => unfold aBin at *; exact aEq_mono (fun b hb => hk _ hb) h
  all_goals (unfold aBin at *; (repeat' split at h) <;> grind)
theorem aUn_mono {op : UnOp} {x : D} {K K' : D → Prop} (hk : ∀ d, K d → K' d) (h : aUn op x K) : aUn op x K' := by
  unfold aUn at *; grind
theorem aConv_mono {P : Program} {s t : TypeId} {x : D} {K K' : D → Prop} (hk : ∀ d, K d → K' d) (h : aConv P s t x K) : aConv P s t x K' := by
  unfold aConv at *; grind
theorem aBuild_mono {P : Program} {t : TypeId} {parts : List (Nat × D)} {K K' : D → Prop} (hk : ∀ d, K d → K' d) (h : aBuild P t parts K) : aBuild P t parts K' := by
  unfold aBuild at *; (repeat' split at h) <;> grind
theorem aBuildSlice_mono {P : Program} {t : TypeId} {n : Nat} {parts : List (Nat × D)} {H : List Ob} {K K' : D → List Ob → Prop} (hk : ∀ d H, K d H → K' d H) (h : aBuildSlice P t n parts H K) : aBuildSlice P t n parts H K' := by
  unfold aBuildSlice at *; (repeat' split at h) <;> grind
theorem aSrc_mono {x : D} {H : List Ob} {sz : Nat} {K K' : List (List D) → Prop} (hk : ∀ d, K d → K' d) (h : aSrc x H sz K) : aSrc x H sz K' := by
  unfold aSrc at *; grind
theorem aAppend_mono {P : Program} {t t2 : TypeId} {s x : D} {H : List Ob} {K K' : D → List Ob → Prop} (hk : ∀ d H, K d H → K' d H) (h : aAppend P t t2 s x H K) : aAppend P t t2 s x H K' := by
  unfold aAppend at *
  refine ⟨h.1, ?_⟩
  have h := h.2
  cases ht : tk P t <;> simp only [ht] at h ⊢
  case sl e esz bytes =>
    cases hz : zerosB P e with
    | none => simp only [hz] at h
    | some z =>
      simp only [hz] at h ⊢
      refine ⟨h.1, aSrc_mono (fun rows hr => ?_) h.2⟩
      cases s <;> first
        | exact hr.elim
        | exact ⟨fun e => hk _ _ (hr.1 e), fun e => ⟨(hr.2 e).1, (hr.2 e).2.1, hk _ _ (hr.2 e).2.2⟩⟩
        | (simp only [] at hr ⊢
           split at hr
           · rename_i ho
             exact ⟨hr.1, hr.2.1, hr.2.2.1, hr.2.2.2.1, hr.2.2.2.2.1, hr.2.2.2.2.2.1, hk _ _ hr.2.2.2.2.2.2⟩
           · exact hr.elim)
theorem aLen_mono {P : Program} {t : TypeId} {d : D} {H : List Ob} {K K' : D → Prop} (hk : ∀ d, K d → K' d) (h : aLen P t d H K) : aLen P t d H K' := by
  unfold aLen at *; (repeat' split at h) <;> grind
theorem aMax_mono {x y : D} {K K' : D → Prop} (hk : ∀ d, K d → K' d) (h : aMax x y K) : aMax x y K' := by unfold aMax at *; grind
theorem aMin_mono {x y : D} {K K' : D → Prop} (hk : ∀ d, K d → K' d) (h : aMin x y K) : aMin x y K' := by unfold aMin at *; grind
theorem aMakeSlice_mono {P : Program} {t : TypeId} {l c : D} {H : List Ob} {K K' : D → List Ob → Prop} (hk : ∀ d H, K d H → K' d H) (h : aMakeSlice P t l c H K) : aMakeSlice P t l c H K' := by
  unfold aMakeSlice at *; (repeat' split at h) <;> grind
theorem aMakeMap_mono {P : Program} {t : TypeId} {r : Option D} {H : List Ob} {K K' : D → List Ob → Prop} (hk : ∀ d H, K d H → K' d H) (h : aMakeMap P t r H K) : aMakeMap P t r H K' := by
  unfold aMakeMap at *; grind
theorem aCall_mono {E : Env} {c : Call} {ρ : Operand → D} {H : List Ob} {K K' : D → List Ob → Prop} (hk : ∀ d H, K d H → K' d H) (h : aCall E c ρ H K) : aCall E c ρ H K' := by
  unfold aCall at *
  split at h
  · split at h
    · exact h.mono hk
    · exact h
  · split at h
    · split at h
      · exact aAppendZ_mono hk h
      · exact aAppend_mono hk h
    · exact h
  · split at h
    · exact aLen_mono (fun d => hk d H) h
    · exact h
  · split at h
    · exact aMax_mono (fun d => hk d H) h
    · exact h
  · split at h
    · exact aMin_mono (fun d => hk d H) h
    · exact h
  · split at h
    · exact aCopy_mono hk h
    · exact h
  · split at h
    · exact aClear_mono (fun H' => hk _ H') h
    · exact h
  · split at h
    · exact aCap_mono (fun d => hk d H) h
    · exact h
  · exact h
theorem aop_mono {E : Env} {o : Oper} {ts : List D} {H : List Ob} {K K' : D → List Ob → Prop} (hk : ∀ d H, K d H → K' d H) (h : aop E o ts H K) : aop E o ts H K' := by
  unfold aop at *
  split at h
  · exact hk _ _ h
  · exact hk _ _ h
  · split at h
    · exact hk _ _ h
    · exact h
  · exact aAlloc_mono hk h
  · exact aBox_mono hk h
  · exact ⟨h.1, aBuild_mono (fun d => hk d H) h.2⟩
  · exact aBuildSlice_mono hk h
  · exact aLoad_mono (fun d => hk d H) h
  · exact aStore_mono (fun H' => hk _ H') h
  · split at h
    · exact hk _ _ h
    · exact hk _ _ h
    · exact ⟨h.1, hk _ _ h.2⟩
    · exact h
  · exact aBin_mono (fun d => hk d H) h
  · exact aUn_mono (fun d => hk d H) h
  · exact aConv_mono (fun d => hk d H) h
  · split at h
    · exact ⟨h.1, hk _ _ h.2⟩
    · exact h
  · exact aMakeMap_mono hk h
  · exact aLookup_mono (fun d => hk d H) h
  · exact aMapEntry_mono hk h
  · exact aEntryStore_mono (fun H' => hk _ H') h
  · exact aMakeSlice_mono hk h
  · exact ⟨h.1, aSlice_mono (fun d => hk d H) h.2⟩
  · exact aFieldAddr_mono (fun d => hk d H) h
  · exact aIndexAddr_mono (fun d => hk d H) h
  · exact aIndex_mono (fun d => hk d H) h
  · split at h
    · split at h
      · exact hk _ _ h
      · exact h
    · exact h
  · exact aCall_mono hk h
  · exact h

end Go.Ag
/- AGo, part 14: regions whose order is drawn (after the kit's Derived/StillTail.lean and Deep/Quiet.lean, on abstract frames). -/
namespace Go.Ag
open Go Go.RowKit

theorem ev_putD {E : Env} {ts : List D} {dst : Option Tmp} {d : D} {x : Operand} (h : ∀ s, dst = some s → x ≠ .tmp s) : ev E (putD ts dst d) x = ev E ts x := by
  cases dst with
  | none => rfl
  | some s =>
    cases x with
    | tmp t =>
      have hne : s ≠ t := fun e => h s rfl (by rw [e])
      simp only [ev, putD, List.getD_eq_getElem?_getD, List.getElem?_set_ne hne]
    | _ => rfl

theorem map_congr_ev {E : Env} {ts ts' : List D} {xs : List Operand} (h : ∀ x ∈ xs, ev E ts x = ev E ts' x) : xs.map (ev E ts) = xs.map (ev E ts') := List.map_congr_left h

theorem aCall_congr {E : Env} {c : Call} {ts ts' : List D} {H : List Ob} {K : D → List Ob → Prop} (h : ∀ x ∈ c.operands.toList, ev E ts x = ev E ts' x) : aCall E c (ev E ts) H K = aCall E c (ev E ts') H K := by
  obtain ⟨callee, args, argTypes⟩ := c
  have hargs : args.toList.map (ev E ts) = args.toList.map (ev E ts') := map_congr_ev fun x hx => h x (by simp only [Call.operands, Array.toList_append, List.mem_append]; exact .inr hx)
  have harg : ∀ x ∈ args.toList, ev E ts x = ev E ts' x := fun x hx => h x (by simp only [Call.operands, Array.toList_append, List.mem_append]; exact .inr hx)
  unfold aCall
  cases callee with
  | value f =>
    have hf : ev E ts f = ev E ts' f := h f (by simp [Call.operands])
    simp only [hf, hargs]
  | invoke r m => rfl
  | builtin b =>
    cases b <;> simp only []
    case append =>
      split
      · rename_i s x t t2 h1 h2
        rw [harg s (by rw [h1]; simp), harg x (by rw [h1]; simp)]
      · rfl
    case len =>
      split
      · rename_i x t h1 h2
        rw [harg x (by rw [h1]; simp)]
      · rfl
    case max =>
      split
      · rename_i x y h1
        rw [harg x (by rw [h1]; simp), harg y (by rw [h1]; simp)]
      · rfl
    case min =>
      split
      · rename_i x y h1
        rw [harg x (by rw [h1]; simp), harg y (by rw [h1]; simp)]
      · rfl
    case copy =>
      split
      · rename_i d x t t2 h1 h2
        rw [harg d (by rw [h1]; simp), harg x (by rw [h1]; simp)]
      · rfl
    case clear =>
      split
      · rename_i x t h1 h2
        rw [harg x (by rw [h1]; simp)]
      · rfl
    case cap =>
      split
      · rename_i x t h1 h2
        rw [harg x (by rw [h1]; simp)]
      · rfl

theorem aop_congr {E : Env} {o : Oper} {ts ts' : List D} {H : List Ob} {K : D → List Ob → Prop} (h : ∀ x ∈ o.op.operands.toList, ev E ts x = ev E ts' x) : aop E o ts H K = aop E o ts' H K := by
  unfold aop
  cases hop : o.op <;> simp only [hop, Op.operands] at h ⊢
  case move x => rw [h x (by simp)]
  case assign x => rw [h x (by simp)]
  case pick c a b => rw [h c (by simp), h a (by simp), h b (by simp)]
  case box t x => rw [h x (by simp)]
  case build t parts =>
    have : (parts.toList.map fun p => (p.1, ev E ts p.2)) = (parts.toList.map fun p => (p.1, ev E ts' p.2)) := List.map_congr_left fun p hp => by rw [h p.2 (by simp only [List.toList_toArray, List.mem_map]; exact ⟨p, hp, rfl⟩)]
    rw [this]
  case buildSlice t n parts =>
    have : (parts.toList.map fun p => (p.1, ev E ts p.2)) = (parts.toList.map fun p => (p.1, ev E ts' p.2)) := List.map_congr_left fun p hp => by rw [h p.2 (by simp only [List.toList_toArray, List.mem_map]; exact ⟨p, hp, rfl⟩)]
    rw [this]
  case load t x => rw [h x (by simp)]
  case store t x y => rw [h x (by simp), h y (by simp)]
  case nilCheck x => rw [h x (by simp)]
  case binOp op t x y ty => rw [h x (by simp), h y (by simp)]
  case unOp op t x => rw [h x (by simp)]
  case convert s t x => rw [h x (by simp)]
  case makeFunc fn first caps =>
    have : caps.toList.map (ev E ts) = caps.toList.map (ev E ts') := map_congr_ev fun x hx => h x (by simp only [Array.toList_append, List.mem_append]; exact .inr hx)
    rw [this]
  case makeMap t r =>
    cases r with
    | none => rfl
    | some x => simp only [Option.map_some]; rw [h x (by simp)]
  case makeSlice t l c => rw [h l (by simp), h c (by simp)]
  case lookup t m k ok => rw [h m (by simp), h k (by simp)]
  case mapEntry t m k => rw [h m (by simp), h k (by simp)]
  case entryStore t m s v => rw [h m (by simp), h s (by simp), h v (by simp)]
  case slice t x lo hi mx =>
    have h1 : ev E ts x = ev E ts' x := h x (by simp)
    have h2 : lo.map (ev E ts) = lo.map (ev E ts') := by cases lo with
      | none => rfl
      | some y => simp only [Option.map_some]; rw [h y (by simp)]
    have h3 : hi.map (ev E ts) = hi.map (ev E ts') := by cases hi with
      | none => rfl
      | some y => simp only [Option.map_some]; rw [h y (by simp)]
    rw [h1, h2, h3]
  case fieldAddr s x f => rw [h x (by simp)]
  case indexAddr t x i => rw [h x (by simp), h i (by simp)]
  case index t x i => rw [h x (by simp), h i (by simp)]
  case extract x i => rw [h x (by simp)]
  case call c => exact aCall_congr h

/-! ### quiet operations -/
def gval (all : Array Oper) (ts : List D) (g : Nat) : Option (Option Bool) :=
  match (all[g]?).bind (·.dst) with
  | none => some none
  | some s => match ts[s]? with
    | none => some none
    | some (.v (.bool b)) => some (some b)
    | some (.tup []) => some none
    | _ => none
theorem gval_sound {all : Array Oper} {M : Mem} {μ : Mu} {ts : List D} {a : Act} (ht : RelL M μ ts a.tmps.toList) {g : Nat} {r : Option Bool} (h : gval all ts g = some r) : yielded all a.tmps g = r := by
  unfold gval at h
  unfold yielded
  cases hs : (all[g]?).bind (·.dst) with
  | none => simp [hs] at h; subst h; simp
  | some s =>
    simp only [hs] at h
    cases hts : ts[s]? with
    | none =>
      simp only [hts] at h; cases h
      have hl := ht.length
      have : ts.length ≤ s := List.getElem?_eq_none_iff.1 hts
      have h2 : a.tmps[s]? = none := by
        rw [Array.getElem?_eq_none_iff]
        have : a.tmps.toList.length = a.tmps.size := Array.length_toList
        omega
      simp [h2]
    | some d =>
      obtain ⟨y, h1, h2⟩ := ht.get s d hts
      have h3 : a.tmps[s]? = some y := by simpa using h1
      simp only [hts] at h
      split at h
      · rename_i hh; cases hh
      · rename_i hh; cases hh; cases h
        simp only [Rel, RelV] at h2; subst h2
        simp [h3]
      · rename_i hh; cases hh; cases h
        simp only [Rel, RelL] at h2
        obtain ⟨vs, rfl, rfl⟩ := h2
        simp [h3]
      · cases h
theorem gval_putD {all : Array Oper} {ts : List D} {g : Nat} {dst : Option Tmp} {d : D} (h : ∀ s, dst = some s → (all[g]?).bind (·.dst) ≠ some s) : gval all (putD ts dst d) g = gval all ts g := by
  unfold gval
  cases hs : (all[g]?).bind (·.dst) with
  | none => rfl
  | some s =>
    cases dst with
    | none => rfl
    | some q =>
      have hne : q ≠ s := fun e => h q rfl (by rw [e]; exact hs)
      simp only [putD, List.getElem?_set_ne hne]

/-- In this frame, over this heap, the operation yields d and leaves the heap. -/
def Yd (E : Env) (all : Array Oper) (H : List Ob) (o : Oper) (d : D) (ts : List D) : Prop :=
  match o.guard with
  | none => aop E o ts H fun d' H' => d' = d ∧ H' = H
  | some (g, want) => match gval all ts g with
    | some (some b) => if b = want then aop E o ts H fun d' H' => d' = d ∧ H' = H else d = .tup []
    | some none => d = .tup []
    | none => False

def qOp (E : Env) (all : Array Oper) (H : List Ob) (i : Nat) (K : List D → Prop) (ts : List D) : Prop :=
  match all[i]? with
  | none => K ts
  | some o => ∃ d, Yd E all H o d ts ∧ K (putD ts o.dst d)

theorem qOp_mono {E : Env} {all : Array Oper} {H : List Ob} {i : Nat} {K K' : List D → Prop} {ts : List D} (h : ∀ ts, K ts → K' ts) (hh : qOp E all H i K ts) : qOp E all H i K' ts := by
  unfold qOp at *
  split
  · exact h _ (by simpa [*] using hh)
  · rename_i o ho
    simp only [ho] at hh
    obtain ⟨d, h1, h2⟩ := hh
    exact ⟨d, h1, h _ h2⟩

theorem wpOp_of_q {E : Env} {all : Array Oper} {M : Mem} {μ : Mu} {H : List Ob} {w : World} {a : Act} {ts : List D} {i : Nat} {K : List D → Prop} {next : Act → World → Prop} {Qx : Exit → Act → World → Prop}
    (h : R E M μ H w) (ht : RelL M μ ts a.tmps.toList) (hd : a.defers = []) (hq : qOp E all H i K ts)
    (hn : ∀ M' μ' ts' w' a', M.le M' → μ.le μ' → R E M' μ' H w' → RelL M' μ' ts' a'.tmps.toList → a'.defers = [] → K ts' → next a' w') : wpOp E.P all Qx i next a w := by
  unfold qOp at hq
  unfold wpOp
  split
  · rename_i ho; simp only [ho] at hq; exact hn M μ ts w a (.refl _) (.refl _) h ht hd hq
  · rename_i o ho
    simp only [ho] at hq
    obtain ⟨d, hy, hk⟩ := hq
    have run : aop E o ts H (fun d' H' => d' = d ∧ H' = H) → o.wp E.P a w next Qx := fun k =>
      aop_sound h ht k fun d' v M' μ' H' w' h1 h2 h3 h4 h5 => by
        obtain ⟨rfl, rfl⟩ := h5
        exact hn M' μ' _ w' _ h1 h2 h3 (rel_put (RelL.mono h1 h2 ht) o.dst h4) (by rw [put_defers]; exact hd) hk
    have skip : d = .tup [] → next (a.put o.dst undef) w := fun e => by
      subst e
      exact hn M μ _ w _ (.refl _) (.refl _) h (rel_put ht o.dst (by simp only [Rel, RelL]; exact ⟨[], rfl, rfl⟩)) (by rw [put_defers]; exact hd) hk
    unfold Yd at hy
    cases hg : o.guard with
    | none =>
      simp only [hg] at hy
      simp only [Region.wanted, hg, if_true]
      exact .inl (run hy)
    | some gw =>
      obtain ⟨g, want⟩ := gw
      simp only [hg] at hy
      cases hv : gval all ts g with
      | none => simp [hv] at hy
      | some r =>
        have hyl := gval_sound ht hv
        simp only [hv] at hy
        cases r with
        | none =>
          have hw : Region.wanted o (yielded all a.tmps) = false := by simp [Region.wanted, hg, hyl]
          rw [hw]; simp only [Bool.false_eq_true, if_false]
          exact skip hy
        | some b =>
          simp only at hy
          by_cases e : b = want
          · have hw : Region.wanted o (yielded all a.tmps) = true := by simp [Region.wanted, hg, hyl, e]
            rw [if_pos e] at hy
            rw [if_pos hw]
            exact .inl (run hy)
          · have hw : Region.wanted o (yielded all a.tmps) = false := by simp [Region.wanted, hg, hyl, e]
            rw [if_neg e] at hy
            rw [hw]; simp only [Bool.false_eq_true, if_false]
            exact skip hy

section
variable {E : Env} {all : Array Oper} {H : List Ob}

theorem Yd_putD {o : Oper} {d e : D} {ts : List D} {dst : Option Tmp} (h : ∀ s, dst = some s → s ∉ o.looksAt all) : Yd E all H o d (putD ts dst e) = Yd E all H o d ts := by
  have h1 : ∀ s, dst = some s → ∀ x ∈ o.op.operands.toList, x ≠ .tmp s := fun s hs x hx ex => by
    refine h s hs ?_
    subst ex
    simp only [Oper.looksAt, List.mem_append, List.mem_filterMap]
    exact .inl ⟨_, hx, rfl⟩
  have ha : ∀ K, aop E o (putD ts dst e) H K = aop E o ts H K := fun K => aop_congr fun x hx => ev_putD fun s hs => h1 s hs x hx
  unfold Yd
  cases hg : o.guard with
  | none => simp only [ha]
  | some gw =>
    obtain ⟨g, want⟩ := gw
    have h2 : gval all (putD ts dst e) g = gval all ts g := gval_putD fun s hs ex => h s hs (by simp [Oper.looksAt, hg, ex])
    simp only [ha, h2]
theorem putD_comm {ts : List D} {a b : Option Tmp} {x y : D} (h : ∀ s, a = some s → b ≠ some s) : putD (putD ts a x) b y = putD (putD ts b y) a x := by
  cases a with
  | none => rfl
  | some s =>
    cases b with
    | none => rfl
    | some q =>
      have hne : s ≠ q := fun e => h s rfl (by rw [e])
      simp only [putD]
      exact List.set_comm _ _ hne

theorem qOp_put {j : Nat} {oi oj : Oper} {v : D} (hj : all[j]? = some oj) (hap : oi.apart all oj = true) {K : List D → Prop} {ts : List D} (hy : Yd E all H oi v ts) (h : qOp E all H j K (putD ts oi.dst v)) :
    qOp E all H j (fun ts' => Yd E all H oi v ts' ∧ K (putD ts' oi.dst v)) ts := by
  obtain ⟨h1, h2, h3⟩ := Oper.apart_spec hap
  unfold qOp at *
  simp only [hj] at *
  obtain ⟨d, g1, g2⟩ := h
  rw [Yd_putD h1] at g1
  refine ⟨d, g1, by rw [Yd_putD h3]; exact hy, ?_⟩
  rw [putD_comm (fun s hs => h2 s hs)] at g2
  exact g2

def qAnyL (E : Env) (md : Region.Mode) (all : Array Oper) (H : List Ob) (n : Nat) (L : Array Bool → List D → Prop) : Nat → Array Bool → List D → Prop
  | 0, listed, ts => L listed ts
  | f + 1, listed, ts => Region.ready md all listed ≠ [] ∧ ∀ i ∈ Region.ready md all listed, i < n ∧ qOp E all H i (qAnyL E md all H n L f (listed.setIfInBounds i true)) ts

variable {md : Region.Mode}

theorem wpAny_of_q {n g : Nat} {L : Array Bool → List D → Prop} {Q' : Exit → Act → World → Prop} {M0 : Mem} {μ0 : Mu}
    (hL : ∀ listed ts M μ w a, M0.le M → μ0.le μ → R E M μ H w → RelL M μ ts a.tmps.toList → a.defers = [] → L listed ts → wpAny E.P md all Q' g listed a w) :
    ∀ (f : Nat) (listed : Array Bool) (ts : List D) (M : Mem) (μ : Mu) (w : World) (a : Act), M0.le M → μ0.le μ → R E M μ H w → RelL M μ ts a.tmps.toList → a.defers = [] → qAnyL E md all H n L f listed ts → wpAny E.P md all Q' (f + g) listed a w
  | 0, listed, ts, M, μ, w, a, h1, h2, h3, h4, h5, h => by rw [Nat.zero_add]; exact hL _ _ _ _ _ _ h1 h2 h3 h4 h5 h
  | f + 1, listed, ts, M, μ, w, a, h1, h2, h3, h4, h5, h => by
    rw [show f + 1 + g = (f + g) + 1 by omega]
    exact ⟨fun h0 => absurd h0 h.1, fun i hi => wpOp_of_q h3 h4 h5 (h.2 i hi).2 fun M' μ' ts' w' a' g1 g2 g3 g4 g5 g6 => wpAny_of_q hL f _ ts' M' μ' w' a' (h1.trans g1) (h2.trans g2) g3 g4 g5 g6⟩

theorem qAnyL_first {n i : Nat} {oi : Oper} {v : D} {L : Array Bool → List D → Prop} (hi : all[i]? = some oi)
    (hlt : ∀ listed, HeadInv md all n listed → listed.getD i true = false → ∀ j ∈ Region.ready md all listed, j < n)
    (hdone : ∀ listed ts, L listed ts → ∀ j ∈ Region.ready md all listed, n ≤ j) :
    ∀ (f : Nat) (listed : Array Bool) (ts : List D), HeadInv md all n listed →
      (∀ j oj, all[j]? = some oj → j ≠ i → listed.getD j true = false → (∀ e ∈ oj.after, Region.binds md e = true → e.on ≠ i) → oi.apart all oj = true) →
      i ∈ Region.ready md all listed → Yd E all H oi v ts →
      qAnyL E md all H n L f (listed.setIfInBounds i true) (putD ts oi.dst v) → qAnyL E md all H n L (f + 1) listed ts := by
  have self : ∀ {ts : List D} {K : List D → Prop}, Yd E all H oi v ts → K (putD ts oi.dst v) → qOp E all H i K ts := fun hy hk => by
    unfold qOp; simp only [hi]; exact ⟨v, hy, hk⟩
  intro f
  induction f with
  | zero =>
    intro listed ts inv _ hr hy Hh
    have hun := (mem_ready.1 hr).1
    refine ⟨fun h => (by rw [h] at hr; cases hr), fun j hj => ?_⟩
    have hjn : j < n := hlt listed inv hun j hj
    refine ⟨hjn, ?_⟩
    by_cases hji : j = i
    · subst hji; exact self hy Hh
    · have := hdone _ _ Hh j (ready_mono hj hji)
      omega
  | succ f ih =>
    intro listed ts inv hfree hr hy Hh
    have hun := (mem_ready.1 hr).1
    refine ⟨fun h => (by rw [h] at hr; cases hr), fun j hj => ?_⟩
    have hjn : j < n := hlt listed inv hun j hj
    refine ⟨hjn, ?_⟩
    by_cases hji : j = i
    · subst hji; exact self hy Hh
    · have h1 := (Hh.2 j (ready_mono hj hji)).2
      obtain ⟨hjun, oj, hoj, hall⟩ := mem_ready.1 hj
      have hnot : ∀ e ∈ oj.after, Region.binds md e = true → e.on ≠ i := fun e he hb heq => by
        have h1 := hall e he hb
        rw [heq, getD_both hun] at h1
        cases h1
      have h2 := qOp_put hoj (hfree j oj hoj hji hjun hnot) hy h1
      have hfree' : ∀ k ok, all[k]? = some ok → k ≠ i → (listed.setIfInBounds j true).getD k true = false →
          (∀ e ∈ ok.after, Region.binds md e = true → e.on ≠ i) → oi.apart all ok = true := fun k ok hk hki hun hno => by
        refine hfree k ok hk hki ?_ hno
        by_cases hjk : j = k
        · subst hjk; exact hjun
        · rw [getD_set_ne true hjk] at hun; exact hun
      refine qOp_mono (fun ts' h3 => ih (listed.setIfInBounds j true) ts' (inv.set hj hjn) hfree' (ready_mono hr (Ne.symm hji)) h3.1 ?_) h2
      rw [Array.setIfInBounds_comm _ _ hji]
      exact h3.2
end

/-- There is a value. -/
def Ex (A B : D → Prop) : Prop := ∃ d, A d ∧ B d
/-- The quiet operations, in the text's order. -/
def qops (E : Env) (all : Array Oper) (H : List Ob) : List Oper → List D → (List D → Prop) → Prop
  | [], ts, Q => Q ts
  | o :: os, ts, Q => match o.guard with
    | none => Ex (fun d => aop E o ts H fun d' H' => d' = d ∧ H' = H) (fun d => qops E all H os (putD ts o.dst d) Q)
    | some (g, want) => (match (all[g]?).bind (·.dst) with
      | none => False
      | some s => (match ts[s]? with
        | some (.v (.bool b)) => Gd b want
          (Ex (fun d => aop E o (ts.set s (.v (.bool want))) H fun d' H' => d' = d ∧ H' = H) (fun d => qops E all H os (putD (ts.set s (.v (.bool want))) o.dst d) Q))
          (qops E all H os (putD (ts.set s (.v (.bool !want))) o.dst (.tup [])) Q)
        | some (.tup []) => qops E all H os (putD ts o.dst (.tup [])) Q
        | _ => False))

theorem qops_step {E : Env} {all : Array Oper} {H : List Ob} {o : Oper} {os : List Oper} {ts : List D} {Q : List D → Prop} (k : qops E all H (o :: os) ts Q) : ∃ d, Yd E all H o d ts ∧ qops E all H os (putD ts o.dst d) Q := by
  simp only [qops] at k
  unfold Yd
  cases hg : o.guard with
  | none => simp only [hg] at k ⊢; exact k
  | some gw =>
    obtain ⟨g, want⟩ := gw
    simp only [hg] at k ⊢
    cases hs : (all[g]?).bind (·.dst) with
    | none => simp only [hs] at k
    | some s =>
      simp only [hs] at k
      cases hts : ts[s]? with
      | none => simp only [hts] at k
      | some d =>
        simp only [hts] at k
        have same : ∀ d', d = d' → ts.set s d' = ts := fun d' e => by
          subst e
          apply List.ext_getElem?
          intro i
          rw [List.getElem?_set]
          split
          · rename_i e; subst e
            split
            · exact hts.symm
            · rename_i hlt; rw [List.getElem?_eq_none (by omega)]
          · rfl
        split at k
        · rename_i b hb
          cases hb
          have hv : gval all ts g = some (some b) := by simp [gval, hs, hts]
          simp only [hv]
          by_cases e : b = want
          · obtain ⟨d, k1, k2⟩ := k.1 e
            rw [same _ (by rw [e])] at k1 k2
            exact ⟨d, by rw [if_pos e]; exact k1, k2⟩
          · have e2 : b = !want := by cases b <;> cases want <;> simp_all
            have k2 := k.2 e2
            rw [same _ (by rw [e2])] at k2
            exact ⟨_, by rw [if_neg e], k2⟩
        · rename_i hb
          cases hb
          have hv : gval all ts g = some none := by simp [gval, hs, hts]
          simp only [hv]
          exact ⟨_, rfl, k⟩
        · exact k.elim

theorem qops_mono {E : Env} {all : Array Oper} {H : List Ob} {Q Q' : List D → Prop} (h : ∀ ts, Q ts → Q' ts) : ∀ (os : List Oper) (ts : List D), qops E all H os ts Q → qops E all H os ts Q'
  | [], ts, k => h ts k
  | o :: os, ts, k => by
    simp only [qops] at k ⊢
    split
    · rename_i hg; simp only [hg] at k
      obtain ⟨d, k1, k2⟩ := k
      exact ⟨d, k1, qops_mono h os _ k2⟩
    · rename_i g want hg; simp only [hg] at k
      split
      · rename_i hs; simp only [hs] at k
      · rename_i s hs; simp only [hs] at k
        split
        · rename_i b hb; simp only [hb] at k
          refine ⟨fun e => ?_, fun e => qops_mono h os _ (k.2 e)⟩
          obtain ⟨d, k1, k2⟩ := k.1 e
          exact ⟨d, k1, qops_mono h os _ k2⟩
        · rename_i hb; simp only [hb] at k; exact qops_mono h os _ k
        · rename_i h1 h2
          split at k
          · rename_i b hb; exact absurd hb (h1 b)
          · rename_i hb; exact absurd hb h2
          · exact k

theorem qAnyL_lex {E : Env} {all : Array Oper} {H : List Ob} {md : Region.Mode} {n : Nat} {Lq : List D → Prop} {L : Array Bool → List D → Prop} (good : Nat → Array Bool → Bool)
    (hlt : ∀ i, i < n → ∀ listed, HeadInv md all n listed → listed.getD i true = false → ∀ j ∈ Region.ready md all listed, j < n)
    (hdone : ∀ listed ts, L listed ts → ∀ j ∈ Region.ready md all listed, n ≤ j)
    (hgood : ∀ k listed, k < n → good k listed = true → k ∈ Region.ready md all listed ∧ Region.free md all listed k = true ∧ good (k + 1) (listed.setIfInBounds k true) = true)
    (hend : ∀ listed ts, good n listed = true → Lq ts → L listed ts) :
    ∀ (l : List Oper) (k : Nat) (listed : Array Bool) (ts : List D), (∀ j, j < l.length → l[j]? = all[k + j]?) → k + l.length = n → HeadInv md all n listed →
    good k listed = true → qops E all H l ts Lq → qAnyL E md all H n L l.length listed ts
  | [], k, listed, ts, _, hk, _, hB, h => by
    have : k = n := by simpa using hk
    subst this
    exact hend listed ts hB h
  | o :: l, k, listed, ts, hl, hk, inv, hB, h => by
    have h0 : all[k]? = some o := by simpa using (hl 0 (by simp)).symm
    have hkn : k < n := by simp only [List.length_cons] at hk; omega
    obtain ⟨hr, hf, hB'⟩ := hgood k listed hkn hB
    obtain ⟨d, hy, hK⟩ := qops_step h
    exact qAnyL_first h0 (hlt k hkn) hdone l.length listed ts inv (Region.free_spec h0 hf) hr hy
      (qAnyL_lex good hlt hdone hgood hend l (k + 1) _ _ (fun j hj => by have := hl (j + 1) (by simp; omega); simpa [Nat.add_assoc, Nat.add_comm 1 j] using this) (by simp only [List.length_cons] at hk; omega) (inv.set hr hkn) hB' hK)

theorem HeadInv.start {md : Region.Mode} {all : Array Oper} (n : Nat) : HeadInv md all n (Array.replicate all.size false) :=
  ⟨by simp, fun j oj _ hl => (by rw [getD_replicate_false] at hl; cases hl), fun t _ ht => getD_in (by simpa using ht) (getD_replicate_false _ _)⟩

theorem lexFrom_good {md : Region.Mode} {all : Array Oper} {k : Nat} {listed : Array Bool} (hk : k < all.size) (h : Region.lexFrom md all (all.size - k) k listed = true) :
    k ∈ Region.ready md all listed ∧ Region.free md all listed k = true ∧ Region.lexFrom md all (all.size - (k + 1)) (k + 1) (listed.setIfInBounds k true) = true := by
  rw [show all.size - k = (all.size - (k + 1)) + 1 from by omega] at h
  simp only [Region.lexFrom, Bool.and_eq_true] at h
  exact ⟨by simpa using h.1.1, h.1.2, h.2⟩

/-- A region that draws its order, of quiet operations alone. -/
theorem sat_quiet {E : Env} {ts : List D} {H : List Ob} {Q : Exit → List D → List Ob → Prop} {id : Nat} {l : List Oper} (hm : E.P.follows .mixedOrders = true) (hB : Region.lexB .any l.toArray = true)
    (h : qops E l.toArray H l ts fun ts' => Q .normal ts' H) : Sat E (.region id l.toArray true) ts H Q := by
  intro M μ w a h1 h2 h3 h4 h5
  simp only [Region.lexB, Bool.and_eq_true] at hB
  refine wp_region_any hm ?_
  have hq := qAnyL_lex (E := E) (H := H) (md := .any) (all := l.toArray) (n := l.toArray.size) (Lq := fun ts' => Q .normal ts' H) (L := fun listed ts' => Region.ready .any l.toArray listed = [] ∧ Q .normal ts' H)
    (fun k listed => Region.lexFrom .any l.toArray (l.toArray.size - k) k listed)
    (fun i _ listed _ _ j hj => by obtain ⟨_, oj, hoj, _⟩ := mem_ready.1 hj; exact (Array.getElem?_eq_some_iff.1 hoj).1)
    (fun listed ts hL j hj => by rw [hL.1] at hj; cases hj)
    (fun k listed hk hg => lexFrom_good hk hg)
    (fun listed ts hg hL => ⟨by simpa [Region.lexFrom] using hg, hL⟩)
    l 0 (Array.replicate l.toArray.size false) ts (fun j _ => by simp) (by simp) (HeadInv.start _) (by simpa using hB.2) h
  have := wpAny_of_q (E := E) (H := H) (md := .any) (all := l.toArray) (n := l.toArray.size) (g := 0) (M0 := M) (μ0 := μ)
    (Q' := fun e a' w' => ∃ M' μ' ts' H', E.M0.le M' ∧ E.μ0.le μ' ∧ R E M' μ' H' w' ∧ RelL M' μ' ts' a'.tmps.toList ∧ a'.defers = [] ∧ Q e ts' H')
    (fun listed ts' M' μ' w' a' g1 g2 g3 g4 g5 hL => ⟨hL.1, M', μ', ts', H, h1.trans g1, h2.trans g2, g3, g4, g5, hL.2⟩)
    l.length (Array.replicate l.toArray.size false) ts M μ w.drew a (.refl _) (.refl _) h3.drew h4 h5 hq
  simpa using this

/-- A region that draws its order: quiet operations, then some in one order. -/
theorem sat_tail {E : Env} {ts : List D} {H : List Ob} {Q : Exit → List D → List Ob → Prop} {id : Nat} {l : List Oper} (n : Nat) (hm : E.P.follows .mixedOrders = true) (hB : Region.lexTailB .any l.toArray n = true)
    (h : qops E l.toArray H (l.take n) ts fun ts' => aops E l.toArray (l.drop n) ts' H fun ts2 H2 => Q .normal ts2 H2) : Sat E (.region id l.toArray true) ts H Q := by
  intro M μ w a h1 h2 h3 h4 h5
  simp only [Region.lexTailB, Bool.and_eq_true, decide_eq_true_eq] at hB
  obtain ⟨⟨⟨⟨_, hn⟩, hs⟩, hc⟩, hlex⟩ := hB
  have hn' : n < l.length := by simpa using hn
  have htl : (l.take n).length = n := by simp; omega
  have hdl : (l.drop n).length = l.toArray.size - n := by simp
  refine wp_region_any hm ?_
  have hq := qAnyL_lex (E := E) (H := H) (md := .any) (all := l.toArray) (n := n) (Lq := fun ts' => aops E l.toArray (l.drop n) ts' H fun ts2 H2 => Q .normal ts2 H2)
    (L := fun listed ts' => Region.seqB .any l.toArray (l.toArray.size - n) n listed = true ∧ aops E l.toArray (l.drop n) ts' H fun ts2 H2 => Q .normal ts2 H2)
    (fun k listed => Region.lexHead .any l.toArray (l.toArray.size - n) (n - k) k listed)
    (fun i hi listed inv hun j hj => by
      rcases Nat.lt_or_ge j n with h | h
      · exact h
      · exact absurd hj (tail_waits hs hc hn inv _ i rfl hi hun j h))
    (fun listed ts hL => seqB_ready hL.1)
    (fun k listed hk hg => by
      rw [show n - k = (n - (k + 1)) + 1 from by omega] at hg
      simp only [Region.lexHead, Bool.and_eq_true] at hg
      exact ⟨by simpa using hg.1.1, hg.1.2, hg.2⟩)
    (fun listed ts hg hL => ⟨by simpa [Region.lexHead] using hg, hL⟩)
    (l.take n) 0 (Array.replicate l.toArray.size false) ts (fun j hj => by rw [htl] at hj; simp [hj]) (by simpa using htl) (HeadInv.start _) (by simpa using hlex) h
  have := wpAny_of_q (E := E) (H := H) (md := .any) (all := l.toArray) (n := n) (g := l.toArray.size - n) (M0 := M) (μ0 := μ) (L := fun listed ts' => Region.seqB .any l.toArray (l.toArray.size - n) n listed = true ∧ aops E l.toArray (l.drop n) ts' H fun ts2 H2 => Q .normal ts2 H2)
    (Q' := fun e a' w' => ∃ M' μ' ts' H', E.M0.le M' ∧ E.μ0.le μ' ∧ R E M' μ' H' w' ∧ RelL M' μ' ts' a'.tmps.toList ∧ a'.defers = [] ∧ Q e ts' H')
    (fun listed ts' M' μ' w' a' g1 g2 g3 g4 g5 hL => by
      have := wpAny_of_seq (P := E.P) (md := .any) (ops := l.toArray) (l.drop n) n listed a' w' (Q' := fun e a' w' => ∃ M' μ' ts' H', E.M0.le M' ∧ E.μ0.le μ' ∧ R E M' μ' H' w' ∧ RelL M' μ' ts' a'.tmps.toList ∧ a'.defers = [] ∧ Q e ts' H')
        (fun j => by simp [List.getElem?_drop]) (by rw [hdl]; exact hL.1)
        (aops_sound (l.drop n) M' μ' ts' H w' a' _ g3 g4 g5 hL.2 fun M2 μ2 ts2 H2 w2 a2 k1 k2 k3 k4 k5 k6 => ⟨M2, μ2, ts2, H2, (h1.trans g1).trans k1, (h2.trans g2).trans k2, k3, k4, k5, k6⟩)
      rwa [hdl] at this)
    n (Array.replicate l.toArray.size false) ts M μ w.drew a (.refl _) (.refl _) h3.drew h4 h5 (by rw [htl] at hq; exact hq)
  rw [show n + (l.toArray.size - n) = l.toArray.size by omega] at this
  exact this

end Go.Ag
/- AGo, part 15: how a walk is reckoned. -/
namespace Go.Ag
open Go Go.RowKit

@[congr] theorem Sat_cg {E : Env} {c : Code} {ts ts' : List D} {H H' : List Ob} {Q : Exit → List D → List Ob → Prop} (h1 : ts = ts') (h2 : H = H') : Sat E c ts H Q = Sat E c ts' H' Q := by subst h1 h2; rfl
@[congr] theorem ACalls_cg {P : Program} {G : Nat → Option (List V)} {f : FuncId} {args args' : List D} {H H' : List Ob} {K : D → List Ob → Prop} (h1 : args = args') (h2 : H = H') : ACalls P G f args H K = ACalls P G f args' H' K := by subst h1 h2; rfl
@[congr] theorem aop_cg {E : Env} {o : Oper} {ts ts' : List D} {H H' : List Ob} {K : D → List Ob → Prop} (h1 : ts = ts') (h2 : H = H') : aop E o ts H K = aop E o ts' H' K := by subst h1 h2; rfl
@[congr] theorem aops_cg {E : Env} {all : Array Oper} {l : List Oper} {ts ts' : List D} {H H' : List Ob} {Q : List D → List Ob → Prop} (h1 : ts = ts') (h2 : H = H') : aops E all l ts H Q = aops E all l ts' H' Q := by subst h1 h2; rfl
@[congr] theorem qops_cg {E : Env} {all : Array Oper} {l l' : List Oper} {ts ts' : List D} {H H' : List Ob} {Q : List D → Prop} (h1 : ts = ts') (h2 : H = H') (h3 : l = l') : qops E all H l ts Q = qops E all H' l' ts' Q := by subst h1 h2 h3; rfl
@[congr] theorem Ex_cg {A A' B : D → Prop} (h : ∀ d, A d = A' d) : Ex A B = Ex A' B := by have : A = A' := funext h; subst this; rfl
@[congr] theorem aAlloc_cg {P : Program} {t : TypeId} {H H' : List Ob} {K : D → List Ob → Prop} (h2 : H = H') : aAlloc P t H K = aAlloc P t H' K := by subst h2; rfl
@[congr] theorem aBox_cg {d d' : D} {H H' : List Ob} {K : D → List Ob → Prop} (h1 : d = d') (h2 : H = H') : aBox d H K = aBox d' H' K := by subst h1 h2; rfl
@[congr] theorem aStore_cg {P : Program} {t : TypeId} {d d' x x' : D} {H H' : List Ob} {K : List Ob → Prop} (h1 : d = d') (h2 : x = x') (h3 : H = H') : aStore P t d x H K = aStore P t d' x' H' K := by subst h1 h2 h3; rfl
@[congr] theorem aLoad_cg {P : Program} {t : TypeId} {d d' : D} {H H' : List Ob} {K : D → Prop} (h1 : d = d') (h2 : H = H') : aLoad P t d H K = aLoad P t d' H' K := by subst h1 h2; rfl
@[congr] theorem aFieldAddr_cg {P : Program} {t : TypeId} {d d' : D} {f : Nat} {H H' : List Ob} {K : D → Prop} (h1 : d = d') (h2 : H = H') : aFieldAddr P t d f H K = aFieldAddr P t d' f H' K := by subst h1 h2; rfl
@[congr] theorem aIndexAddr_cg {P : Program} {t : TypeId} {d d' i i' : D} {H H' : List Ob} {K : D → Prop} (h1 : d = d') (h2 : i = i') (h3 : H = H') : aIndexAddr P t d i H K = aIndexAddr P t d' i' H' K := by subst h1 h2 h3; rfl
@[congr] theorem aIndex_cg {P : Program} {t : TypeId} {d d' i i' : D} {K : D → Prop} (h1 : d = d') (h2 : i = i') : aIndex P t d i K = aIndex P t d' i' K := by subst h1 h2; rfl
@[congr] theorem aSlice_cg {P : Program} {t : TypeId} {d d' : D} {lo lo' hi hi' : Option D} {H H' : List Ob} {K : D → Prop} (h1 : d = d') (h2 : lo = lo') (h3 : hi = hi') (h4 : H = H') : aSlice P t d lo hi H K = aSlice P t d' lo' hi' H' K := by subst h1 h2 h3 h4; rfl
@[congr] theorem aEq_cg {P : Program} {t : TypeId} {x x' y y' : D} {H H' : List Ob} {K : Bool → Prop} (h1 : x = x') (h2 : y = y') (h3 : H = H') : aEq P t x y H K = aEq P t x' y' H' K := by subst h1 h2 h3; rfl
@[congr] theorem aBin_cg {P : Program} {op : BinOp} {t : TypeId} {x x' y y' : D} {H H' : List Ob} {K : D → Prop} (h1 : x = x') (h2 : y = y') (h3 : H = H') : aBin P op t x y H K = aBin P op t x' y' H' K := by subst h1 h2 h3; rfl
@[congr] theorem aUn_cg {op : UnOp} {x x' : D} {K : D → Prop} (h1 : x = x') : aUn op x K = aUn op x' K := by subst h1; rfl
@[congr] theorem aConv_cg {P : Program} {s t : TypeId} {x x' : D} {K : D → Prop} (h1 : x = x') : aConv P s t x K = aConv P s t x' K := by subst h1; rfl
@[congr] theorem aBuild_cg {P : Program} {t : TypeId} {p p' : List (Nat × D)} {K : D → Prop} (h1 : p = p') : aBuild P t p K = aBuild P t p' K := by subst h1; rfl
@[congr] theorem aBuildSlice_cg {P : Program} {t : TypeId} {n : Nat} {p p' : List (Nat × D)} {H H' : List Ob} {K : D → List Ob → Prop} (h1 : p = p') (h2 : H = H') : aBuildSlice P t n p H K = aBuildSlice P t n p' H' K := by subst h1 h2; rfl
@[congr] theorem aSrc_cg {x x' : D} {H H' : List Ob} {sz : Nat} {K : List (List D) → Prop} (h1 : x = x') (h2 : H = H') : aSrc x H sz K = aSrc x' H' sz K := by subst h1 h2; rfl
@[congr] theorem aAppend_cg {P : Program} {t t2 : TypeId} {s s' x x' : D} {H H' : List Ob} {K : D → List Ob → Prop} (h1 : s = s') (h2 : x = x') (h3 : H = H') : aAppend P t t2 s x H K = aAppend P t t2 s' x' H' K := by subst h1 h2 h3; rfl
@[congr] theorem aLen_cg {P : Program} {t : TypeId} {d d' : D} {H H' : List Ob} {K : D → Prop} (h1 : d = d') (h2 : H = H') : aLen P t d H K = aLen P t d' H' K := by subst h1 h2; rfl
@[congr] theorem aMax_cg {x x' y y' : D} {K : D → Prop} (h1 : x = x') (h2 : y = y') : aMax x y K = aMax x' y' K := by subst h1 h2; rfl
@[congr] theorem aMin_cg {x x' y y' : D} {K : D → Prop} (h1 : x = x') (h2 : y = y') : aMin x y K = aMin x' y' K := by subst h1 h2; rfl
@[congr] theorem aMakeSlice_cg {P : Program} {t : TypeId} {l l' c c' : D} {H H' : List Ob} {K : D → List Ob → Prop} (h1 : l = l') (h2 : c = c') (h3 : H = H') : aMakeSlice P t l c H K = aMakeSlice P t l' c' H' K := by subst h1 h2 h3; rfl
@[congr] theorem aLookup_cg {P : Program} {t : TypeId} {m m' k k' : D} {ok : Bool} {H H' : List Ob} {K : D → Prop} (h1 : m = m') (h2 : k = k') (h3 : H = H') : aLookup P t m k ok H K = aLookup P t m' k' ok H' K := by subst h1 h2 h3; rfl
@[congr] theorem aMapEntry_cg {P : Program} {t : TypeId} {m m' k k' : D} {H H' : List Ob} {K : D → List Ob → Prop} (h1 : m = m') (h2 : k = k') (h3 : H = H') : aMapEntry P t m k H K = aMapEntry P t m' k' H' K := by subst h1 h2 h3; rfl
@[congr] theorem aEntryStore_cg {m m' s s' v v' : D} {H H' : List Ob} {K : List Ob → Prop} (h1 : m = m') (h2 : s = s') (h3 : v = v') (h4 : H = H') : aEntryStore m s v H K = aEntryStore m' s' v' H' K := by subst h1 h2 h3 h4; rfl
@[congr] theorem aCopy_cg {P : Program} {t : TypeId} {d d' x x' : D} {H H' : List Ob} {K : D → List Ob → Prop} (h1 : d = d') (h2 : x = x') (h3 : H = H') : aCopy P t d x H K = aCopy P t d' x' H' K := by subst h1 h2 h3; rfl
@[congr] theorem aClear_cg {P : Program} {t : TypeId} {x x' : D} {H H' : List Ob} {K : List Ob → Prop} (h2 : x = x') (h3 : H = H') : aClear P t x H K = aClear P t x' H' K := by subst h2 h3; rfl
@[congr] theorem aCap_cg {P : Program} {t : TypeId} {x x' : D} {H H' : List Ob} {K : D → Prop} (h2 : x = x') (h3 : H = H') : aCap P t x H K = aCap P t x' H' K := by subst h2 h3; rfl
@[congr] theorem aMakeMap_cg {P : Program} {t : TypeId} {r r' : Option D} {H H' : List Ob} {K : D → List Ob → Prop} (h1 : r = r') (h2 : H = H') : aMakeMap P t r H K = aMakeMap P t r' H' K := by subst h1 h2; rfl

@[congr] theorem Gd_cg {b b' w : Bool} {x y : Prop} (h : b = b') : Gd b w x y = Gd b' w x y := by subst h; rfl
theorem Gd_tt (x y : Prop) : Gd true true x y = x := by simp [Gd]
theorem Gd_ff (x y : Prop) : Gd false false x y = x := by simp [Gd]
theorem Gd_tf (x y : Prop) : Gd true false x y = y := by simp [Gd]
theorem Gd_ft (x y : Prop) : Gd false true x y = y := by simp [Gd]
theorem Gd.split {b w : Bool} {x y : Prop} (h : b = w → x) (k : b = !w → y) : Gd b w x y := ⟨h, k⟩
theorem Ex_and {p : Prop} {A B : D → Prop} : Ex (fun d => p ∧ A d) B = (p ∧ Ex A B) := by
  unfold Ex; apply propext
  constructor
  · rintro ⟨d, ⟨h1, h2⟩, h3⟩; exact ⟨h1, d, h2, h3⟩
  · rintro ⟨h1, d, h2, h3⟩; exact ⟨d, ⟨h1, h2⟩, h3⟩
theorem Ex_eq {x : D} {p : Prop} {B : D → Prop} : Ex (fun d => x = d ∧ p) B = (p ∧ B x) := by
  unfold Ex; apply propext
  constructor
  · rintro ⟨d, ⟨rfl, h2⟩, h3⟩; exact ⟨h2, h3⟩
  · rintro ⟨h1, h2⟩; exact ⟨x, ⟨rfl, h1⟩, h2⟩
theorem Ex_eq' {x : D} {B : D → Prop} : Ex (fun d => x = d) B = B x := by
  unfold Ex; apply propext
  constructor
  · rintro ⟨d, rfl, h3⟩; exact h3
  · intro h; exact ⟨x, rfl, h⟩
theorem Ex_intro {A B : D → Prop} (d : D) (h1 : A d) (h2 : B d) : Ex A B := ⟨d, h1, h2⟩

/-! ### the heap of a call: what was there, and what it made -/
theorem hp_get (H L : List Ob) (k : Nat) : (H ++ L)[H.length + k]? = L[k]? := by
  rw [List.getElem?_append_right (by omega)]; congr 1; omega
theorem hp_get0 (H L : List Ob) : (H ++ L)[H.length]? = L[0]? := by
  rw [List.getElem?_append_right (by omega)]; congr 1; omega
theorem hp_old {H L : List Ob} {b : Nat} {o : Ob} (h : H[b]? = some o) : (H ++ L)[b]? = some o := by
  rw [List.getElem?_append_left (List.getElem?_eq_some_iff.1 h).1]; exact h
theorem hp_set (H L : List Ob) (k : Nat) (o : Ob) : (H ++ L).set (H.length + k) o = H ++ L.set k o := by
  rw [List.set_append_right _ _ (by omega)]; congr 2; omega
theorem hp_set0 (H L : List Ob) (o : Ob) : (H ++ L).set H.length o = H ++ L.set 0 o := by
  rw [List.set_append_right _ _ (by omega)]; congr 2; omega
theorem hp_len (H L : List Ob) : (H ++ L).length = H.length + L.length := List.length_append
theorem hp_push (H L : List Ob) (o : Ob) : (H ++ L) ++ [o] = H ++ (L ++ [o]) := List.append_assoc _ _ _

theorem Th_normal {next : List D → List Ob → Prop} {Q : Exit → List D → List Ob → Prop} {ts : List D} {H : List Ob} : Th next Q .normal ts H = next ts H := rfl
theorem Th_exit {next : List D → List Ob → Prop} {Q : Exit → List D → List Ob → Prop} {ts : List D} {H : List Ob} {i : Nat} : Th next Q (.exit i) ts H = Q (.exit i) ts H := rfl
theorem Th_ret {next : List D → List Ob → Prop} {Q : Exit → List D → List Ob → Prop} {ts : List D} {H : List Ob} : Th next Q .ret ts H = Q .ret ts H := rfl
theorem Bl_normal {id : Nat} {Q : Exit → List D → List Ob → Prop} {ts : List D} {H : List Ob} : Bl id Q .normal ts H = Q .normal ts H := rfl
theorem Bl_ret {id : Nat} {Q : Exit → List D → List Ob → Prop} {ts : List D} {H : List Ob} : Bl id Q .ret ts H = Q .ret ts H := rfl
theorem Bl_exit {id i : Nat} {Q : Exit → List D → List Ob → Prop} {ts : List D} {H : List Ob} : Bl id Q (.exit i) ts H = if i = id then Q .normal ts H else Q (.exit i) ts H := rfl

theorem sat_seq' {E : Env} {ts : List D} {H : List Ob} {Q : Exit → List D → List Ob → Prop} {x y : Code} (h : Sat E x ts H (Th (fun ts H => Sat E y ts H Q) Q)) : Sat E (.seq x y) ts H Q :=
  sat_seq fun K hK => h.mono fun e ts H hq => by cases e <;> first | exact hK _ _ hq | exact hq
theorem sat_if {E : Env} {ts : List D} {H : List Ob} {Q : Exit → List D → List Ob → Prop} {c : Operand} {x y : Code} (b : Bool) (hc : ev E ts c = .v (.bool b)) (ht : b = true → Sat E x ts H Q) (hf : b = false → Sat E y ts H Q) : Sat E (.cond c x y) ts H Q := sat_cond hc ht hf

end Go.Ag
/- AGo, part 16: how a call ends. -/
namespace Go.Ag
open Go Go.RowKit

theorem ev_const {E : Env} {ts : List D} {v : Value} : ev E ts (.const v) = ofConst v := rfl
theorem ev_func {E : Env} {ts : List D} {f : FuncId} : ev E ts (.func f) = .fn f [] := rfl
theorem ev_glob {E : Env} {ts : List D} {g : Nat} : ev E ts (.global g) = match E.G g with | some cs => .rptr cs | none => .any := rfl

/-- What a call's end asks. -/
def Fin (E : Env) (ts : List D) (H : List Ob) (slots : List Tmp) (K : D → List Ob → Prop) : Prop := ∃ ts' H'', Ent E ts H ts' H'' ∧ K (retD slots ts') H''
@[congr] theorem Fin_cg {E : Env} {ts ts' : List D} {H H' : List Ob} {s : List Tmp} {K : D → List Ob → Prop} (h1 : ts = ts') (h2 : H = H') : Fin E ts H s K = Fin E ts' H' s K := by subst h1 h2; rfl

/-- What a body's end asks. -/
def Out (E : Env) (slots : List Tmp) (K : D → List Ob → Prop) : Exit → List D → List Ob → Prop
  | .normal, ts, H => Fin E ts H slots K
  | .ret, ts, H => Fin E ts H slots K
  | _, _, _ => False
theorem Out_normal {E : Env} {slots : List Tmp} {K : D → List Ob → Prop} {ts : List D} {H : List Ob} : Out E slots K .normal ts H = Fin E ts H slots K := rfl
theorem Out_ret {E : Env} {slots : List Tmp} {K : D → List Ob → Prop} {ts : List D} {H : List Ob} : Out E slots K .ret ts H = Fin E ts H slots K := rfl
theorem Out_exit {E : Env} {slots : List Tmp} {K : D → List Ob → Prop} {ts : List D} {H : List Ob} {i : Nat} : Out E slots K (.exit i) ts H = False := rfl

theorem ACalls.go {P : Program} {G : Nat → Option (List V)} {f : FuncId} {args : List D} {H : List Ob} {K : D → List Ob → Prop} (fn : Func) (c : Code) (n : Nat) (slots : List Tmp) (hf : P.funcs[f]? = some fn) (hb : fn.body = some c) (hn : fn.ntmps = n) (hc : callB P f = true) (hr : fn.results.toList = slots.map .tmp) (hl : args.length ≤ n)
    (h : ∀ E : Env, E.Closed → E.P = P → E.G = G → E.H0 = H → Sat E c (fr n (args0 0 args)) H (Out E slots K)) : ACalls P G f args H K := by
  refine ACalls.fn fn c n slots hf hb hn hc hr hl (fun w0 M0 μ0 hcl => (h ⟨P, G, w0, M0, μ0, H⟩ hcl rfl rfl rfl).mono ?_)
  intro e ts H' hq
  cases e with
  | normal => exact ⟨.inl rfl, hq⟩
  | ret => exact ⟨.inr rfl, hq⟩
  | exit i => exact hq.elim
  | _ => exact hq.elim

theorem Fin.here {E : Env} {ts : List D} {H : List Ob} {slots : List Tmp} {K : D → List Ob → Prop} (h : K (retD slots ts) H) : Fin E ts H slots K := ⟨ts, H, .refl _ _, h⟩
theorem Fin.ent {E : Env} {ts ts' : List D} {H H' : List Ob} {slots : List Tmp} {K : D → List Ob → Prop} (e : Ent E ts H ts' H') (h : Fin E ts' H' slots K) : Fin E ts H slots K := by
  obtain ⟨a, b, c, d⟩ := h; exact ⟨a, b, e.trans c, d⟩
theorem Fin.of {E : Env} {ts ts' : List D} {H H' : List Ob} {slots : List Tmp} {K : D → List Ob → Prop} (e : Ent E ts H ts' H') (h : K (retD slots ts') H') : Fin E ts H slots K := ⟨_, _, e, h⟩
/-- One result; all that was made here is forgotten. -/
theorem Fin.gc {E : Env} {n : Nat} {l : List (Nat × D)} {G : List Ob} {s : Tmp} {K : D → List Ob → Prop} (d : D) (hE : E.Closed) (hs : s < n) (hd : look l s = d) (hl : D.lt E.H0.length d) (h : K d E.H0) : Fin E (fr n l) (E.H0 ++ G) [s] K := by
  subst hd
  refine Fin.of ((Ent.weakFr (l' := [(s, look l s)]) ⟨D.le_refl _, trivial⟩).trans (Ent.gcFr [] G hE (by simpa [ltAll] using hl) trivial)) ?_
  simpa only [retD, getD_fr hs, look, ↓reduceIte, if_true, List.append_nil] using h
/-- Two results; all that was made here is forgotten. -/
theorem Fin.gc2 {E : Env} {n : Nat} {l : List (Nat × D)} {G : List Ob} {s t : Tmp} {K : D → List Ob → Prop} (d e : D) (hE : E.Closed) (hs : s < n) (ht : t < n) (hst : s ≠ t) (hd : look l s = d) (he : look l t = e) (hl : D.lt E.H0.length d) (hm : D.lt E.H0.length e) (h : K (.tup [d, e]) E.H0) : Fin E (fr n l) (E.H0 ++ G) [s, t] K := by
  subst hd; subst he
  refine Fin.of ((Ent.weakFr (l' := [(s, look l s), (t, look l t)]) ⟨D.le_refl _, D.le_refl _, trivial⟩).trans (Ent.gcFr [] G hE (by simpa [ltAll] using ⟨hl, hm⟩) trivial)) ?_
  simpa only [retD, List.map, getD_fr hs, getD_fr ht, look, hst.symm, ↓reduceIte, if_true, List.append_nil] using h
/-- One result, an array that was made here: told by value. -/
theorem Fin.pub {E : Env} {n : Nat} {l : List (Nat × D)} {L : List Ob} {s : Tmp} {K : D → List Ob → Prop} (k ver sz esc len : Nat) (ys : List (List V)) (hE : E.Closed) (hs : s < n) (hd : look l s = .own (E.H0.length + k) ver len)
    (hL : L[k]? = some (.arr ver sz (ys.map (·.map .v)) esc)) (he : esc ≤ ys.length) (hl : len ≤ ys.length) (h : K (.v (.list sz (ys.take len))) E.H0) : Fin E (fr n l) (E.H0 ++ L) [s] K := by
  refine Fin.of (ts' := fr n [(s, .v (.list sz (ys.take len)))]) (H' := E.H0) ((Ent.weakFr (l' := [(s, .own (E.H0.length + k) ver len)]) ⟨hd ▸ D.le_refl _, trivial⟩).trans
    ((Ent.pubFr (sz := sz) (esc := esc) (E.H0.length + k) ys (by rw [hp_get]; exact hL) (by simpa using he) rfl).trans ?_)) ?_
  · rw [hp_set]
    have e : convFr (E.H0.length + k) ver sz ys [(s, .own (E.H0.length + k) ver len)] = [(s, .v (.list sz (ys.take len)))] := by simp [convFr, D.conv, hl]
    rw [e]
    have g := Ent.gcFr (n := n) (l := [(s, .v (.list sz (ys.take len)))]) [] (L.set k (.arr ver sz (ys.map (·.map .v)) ys.length)) hE (by simp [ltAll, D.lt]) trivial
    rwa [List.append_nil] at g
  · simpa only [retD, getD_fr hs, look, ↓reduceIte, if_true, List.append_nil] using h
/-- Two results, the first an array that was made here. -/
theorem Fin.pub2 {E : Env} {n : Nat} {l : List (Nat × D)} {L : List Ob} {s t : Tmp} {K : D → List Ob → Prop} (k ver sz esc len : Nat) (ys : List (List V)) (d : V) (hE : E.Closed) (hs : s < n) (ht : t < n) (hst : s ≠ t) (hd : look l s = .own (E.H0.length + k) ver len) (hd2 : look l t = .v d)
    (hL : L[k]? = some (.arr ver sz (ys.map (·.map .v)) esc)) (he : esc ≤ ys.length) (hl : len ≤ ys.length) (h : K (.tup [.v (.list sz (ys.take len)), .v d]) E.H0) : Fin E (fr n l) (E.H0 ++ L) [s, t] K := by
  refine Fin.of (ts' := fr n [(s, .v (.list sz (ys.take len))), (t, .v d)]) (H' := E.H0) ((Ent.weakFr (l' := [(s, .own (E.H0.length + k) ver len), (t, .v d)]) ⟨hd ▸ D.le_refl _, hd2 ▸ D.le_refl _, trivial⟩).trans
    ((Ent.pubFr (sz := sz) (esc := esc) (E.H0.length + k) ys (by rw [hp_get]; exact hL) (by simpa using he) rfl).trans ?_)) ?_
  · rw [hp_set]
    have e : convFr (E.H0.length + k) ver sz ys [(s, .own (E.H0.length + k) ver len), (t, .v d)] = [(s, .v (.list sz (ys.take len))), (t, .v d)] := by simp [convFr, D.conv, hl]
    rw [e]
    have g := Ent.gcFr (n := n) (l := [(s, .v (.list sz (ys.take len))), (t, .v d)]) [] (L.set k (.arr ver sz (ys.map (·.map .v)) ys.length)) hE (by simp [ltAll, D.lt]) trivial
    rwa [List.append_nil] at g
  · simpa only [retD, List.map, getD_fr hs, getD_fr ht, look, hst.symm, ↓reduceIte, if_true, List.append_nil] using h

theorem Fin.is {E : Env} {n : Nat} {l : List (Nat × D)} {H : List Ob} {s : Tmp} {K : D → List Ob → Prop} (d : D) (hs : s < n) (hd : look l s = d) (h : K d H) : Fin E (fr n l) H [s] K := by
  refine Fin.here ?_
  subst hd
  simpa only [retD, getD_fr hs] using h
theorem Fin.is2 {E : Env} {n : Nat} {l : List (Nat × D)} {H : List Ob} {s t : Tmp} {K : D → List Ob → Prop} (d e : D) (hs : s < n) (ht : t < n) (hd : look l s = d) (he : look l t = e) (h : K (.tup [d, e]) H) : Fin E (fr n l) H [s, t] K := by
  refine Fin.here ?_
  subst hd; subst he
  simpa only [retD, List.map, getD_fr hs, getD_fr ht] using h
theorem Ent.round {E : Env} {n : Nat} {l l' : List (Nat × D)} {L L' : List Ob} (G : List Ob) (hE : E.Closed) (hL : L = L' ++ G) (h1 : leAll l l') (h2 : ltAll (E.H0.length + L'.length) l') (h3 : ltObs (E.H0.length + L'.length) L') : Ent E (fr n l) (E.H0 ++ L) (fr n l') (E.H0 ++ L') := by
  subst hL
  exact (Ent.weakFr h1).trans (Ent.gcFr L' G hE h2 h3)
theorem Ent.rnd {E : Env} {n : Nat} {l l' : List (Nat × D)} {L L' : List Ob} (hE : E.Closed) (h1 : leAll l l') (hL : L.take L'.length = L') (h2 : ltAll (E.H0.length + L'.length) l') (h3 : ltObs (E.H0.length + L'.length) L') : Ent E (fr n l) (E.H0 ++ L) (fr n l') (E.H0 ++ L') :=
  Ent.round (L.drop L'.length) hE (by rw [← hL, List.length_take, Nat.min_eq_left (by have := congrArg List.length hL; simp at this; omega)]; exact (List.take_append_drop _ _).symm) h1 h2 h3
theorem Ent.round0 {E : Env} {n : Nat} {l l' : List (Nat × D)} {L : List Ob} (hE : E.Closed) (h1 : leAll l l') (h2 : ltAll E.H0.length l') : Ent E (fr n l) (E.H0 ++ L) (fr n l') E.H0 := by
  have h := Ent.round (n := n) (l := l) (l' := l') (L := L) (L' := []) L hE rfl h1 h2 trivial
  rwa [List.append_nil] at h
theorem wrap_succ {i : Nat} (h : i < 9223372036854775807) : IntKind.i64.wrap ((i : Int) + 1) = ((i + 1 : Nat) : Int) := by
  rw [IntKind.wrap_i64]; omega
theorem wrap_nat {i : Nat} (h : i ≤ 9223372036854775807) : IntKind.i64.wrap (i : Int) = (i : Int) := by
  rw [IntKind.wrap_i64]; omega
theorem wrap_int {n : Int} (h0 : -9223372036854775808 ≤ n) (h : n ≤ 9223372036854775807) : IntKind.i64.wrap n = n := by
  rw [IntKind.wrap_i64]; omega
theorem take_len_map {α β : Type} (f : α → β) (l : List α) : (l.map f).take l.length = l.map f := List.take_of_length_le (by simp)
theorem take_len {α : Type} (l : List α) : l.take l.length = l := List.take_of_length_le (by simp)
theorem look_cons (j : Nat) (d : D) (l : List (Nat × D)) (i : Nat) : look ((j, d) :: l) i = if i = j then d else look l i := by simp only [look]
theorem look_nil (i : Nat) : look [] i = .any := by simp only [look]
theorem leAll_cons (l : List (Nat × D)) (i : Nat) (d : D) (r : List (Nat × D)) : leAll l ((i, d) :: r) = (D.le (look l i) d ∧ leAll l r) := by simp only [leAll]
theorem leAll_nil (l : List (Nat × D)) : leAll l [] = True := by simp only [leAll]
theorem D.le_eq {a b : D} (h : a = b) : D.le a b := h ▸ D.le_refl _

/-! ### objects that are told no more -/
def leObs : List Ob → List Ob → Prop
  | _, [] => True
  | o :: L, o' :: L' => (o = o' ∨ o' = .dead) ∧ leObs L L'
  | [], _ :: _ => False
theorem leObs_cons (o : Ob) (L : List Ob) (o' : Ob) (L' : List Ob) : leObs (o :: L) (o' :: L') = ((o = o' ∨ o' = .dead) ∧ leObs L L') := rfl
theorem leObs_nil (L : List Ob) : leObs L [] = True := by cases L <;> rfl
theorem leObs.get {L L' : List Ob} (h : leObs L L') : L'.length ≤ L.length ∧ ∀ (i : Nat) (o' : Ob), L'[i]? = some o' → o' = Ob.dead ∨ L[i]? = some o' := by
  induction L' generalizing L with
  | nil => exact ⟨Nat.zero_le _, fun i o' h => by simp at h⟩
  | cons a L' ih =>
    cases L with
    | nil => exact h.elim
    | cons b L =>
      obtain ⟨h1, h2⟩ := h
      obtain ⟨g1, g2⟩ := ih h2
      refine ⟨by simp; omega, fun i o' hi => ?_⟩
      cases i with
      | zero => simp at hi; subst hi; rcases h1 with rfl | rfl <;> simp
      | succ i => simpa using g2 i o' (by simpa using hi)
/-- Some objects are told no more. -/
theorem Ent.die {E : Env} {ts : List D} {H H' : List Ob} (hl : H'.length = H.length) (h : ∀ (i : Nat) (o' : Ob), H'[i]? = some o' → o' = Ob.dead ∨ H[i]? = some o') : Ent E ts H ts H' := fun M μ w vs h1 h2 hr ht => by
  refine ⟨M, μ, h1, h2, ⟨hr.below, hr.imm, hr.glob, fun i p hp => hl ▸ hr.dom i p hp, fun i o p ho hp => ?_, ?_, fun i hi => hr.tot i (hl ▸ hi)⟩, ht⟩
  · rcases h i o ho with rfl | g
    · trivial
    · exact hr.obj i o p g hp
  · intro i j oi oj pi pj hij hi hj di dj hpi hpj
    rcases h i oi hi with rfl | gi
    · exact absurd rfl di
    · rcases h j oj hj with rfl | gj
      · exact absurd rfl dj
      · exact hr.sep i j oi oj pi pj hij gi gj di dj hpi hpj
/-- A round's end: slots are forgotten, objects die, garbage goes. -/
theorem Ent.trip {E : Env} {n : Nat} {l l' : List (Nat × D)} {L L' : List Ob} (hE : E.Closed) (h1 : leAll l l') (hL : leObs L L') (h2 : ltAll (E.H0.length + L'.length) l') (h3 : ltObs (E.H0.length + L'.length) L') : Ent E (fr n l) (E.H0 ++ L) (fr n l') (E.H0 ++ L') := by
  obtain ⟨g1, g2⟩ := hL.get
  refine (Ent.weakFr h1).trans ((Ent.die (H' := E.H0 ++ (L' ++ L.drop L'.length)) ?_ ?_).trans (Ent.gcFr L' _ hE h2 h3))
  · simp; omega
  · intro i o' hi
    by_cases h0 : i < E.H0.length
    · right; rw [List.getElem?_append_left h0] at hi ⊢; exact hi
    · rw [List.getElem?_append_right (by omega)] at hi ⊢
      by_cases hk : i - E.H0.length < L'.length
      · rw [List.getElem?_append_left hk] at hi; exact g2 _ _ hi
      · right
        rw [List.getElem?_append_right (by omega), List.getElem?_drop] at hi
        rwa [show L'.length + (i - E.H0.length - L'.length) = i - E.H0.length from by omega] at hi

/-- A slice that is being gathered: nil, or an array of one's own behind m objects that are told no more. -/
def Acc (E : Env) (m sz : Nat) (ys : List (List V)) (d : D) (L : List Ob) : Prop :=
  (ys = [] ∧ d = .nils ∧ L = []) ∨ ∃ ver, 1 ≤ ver ∧ d = .own (E.H0.length + m) ver ys.length ∧ L = List.replicate m .dead ++ [.arr ver sz (ys.map (·.map .v)) 0]

theorem Acc.start {E : Env} (m sz : Nat) : Acc E m sz [] .nils [] := .inl ⟨rfl, rfl, rfl⟩
theorem Fin.acc {E : Env} {n m sz : Nat} {l : List (Nat × D)} {L : List Ob} {s : Tmp} {K : D → List Ob → Prop} {ys : List (List V)} (d : D) (hA : Acc E m sz ys d L) (hE : E.Closed) (hs : s < n) (hd : look l s = d) (h : K (.v (.list sz ys)) E.H0) : Fin E (fr n l) (E.H0 ++ L) [s] K := by
  subst hd
  rcases hA with ⟨rfl, hd, rfl⟩ | ⟨ver, _, hd, rfl⟩
  · refine Fin.of (ts' := fr n [(s, .v (.list sz []))]) (H' := E.H0) ?_ (by simpa only [retD, getD_fr hs, look, ↓reduceIte, if_true] using h)
    rw [List.append_nil]
    exact Ent.weakFr ⟨hd ▸ D.le_nils sz, trivial⟩
  · refine Fin.pub m ver sz 0 ys.length ys hE hs hd ?_ (Nat.zero_le _) (Nat.le_refl _) (by rwa [take_len])
    rw [List.getElem?_append_right (by simp)]; simp
theorem Fin.acc2 {E : Env} {n m sz : Nat} {l : List (Nat × D)} {L : List Ob} {s t : Tmp} {K : D → List Ob → Prop} {ys : List (List V)} (d : D) (e : V) (hA : Acc E m sz ys d L) (hE : E.Closed) (hs : s < n) (ht : t < n) (hst : s ≠ t) (hd : look l s = d) (he : look l t = .v e) (h : K (.tup [.v (.list sz ys), .v e]) E.H0) : Fin E (fr n l) (E.H0 ++ L) [s, t] K := by
  subst hd
  rcases hA with ⟨rfl, hd, rfl⟩ | ⟨ver, _, hd, rfl⟩
  · refine Fin.of (ts' := fr n [(s, .v (.list sz [])), (t, .v e)]) (H' := E.H0) ?_ (by simpa only [retD, List.map, getD_fr hs, getD_fr ht, look, hst.symm, ↓reduceIte, if_true] using h)
    rw [List.append_nil]
    exact Ent.weakFr ⟨hd ▸ D.le_nils sz, he ▸ D.le_refl _, trivial⟩
  · refine Fin.pub2 m ver sz 0 ys.length ys e hE hs ht hst hd he ?_ (Nat.zero_le _) (Nat.le_refl _) (by rwa [take_len])
    rw [List.getElem?_append_right (by simp)]; simp

/-! ### a state between -/
def Via (E : Env) (ts' : List D) (H' : List Ob) : Exit → List D → List Ob → Prop
  | .normal, ts, H => Ent E ts H ts' H'
  | _, _, _ => False
theorem Via_normal {E : Env} {ts' ts : List D} {H' H : List Ob} : Via E ts' H' .normal ts H = Ent E ts H ts' H' := rfl
theorem sat_via {E : Env} {x y : Code} {ts : List D} {H : List Ob} {Q : Exit → List D → List Ob → Prop} (ts' : List D) (H' : List Ob) (h1 : Sat E x ts H (Via E ts' H')) (h2 : Sat E y ts' H' Q) : Sat E (.seq x y) ts H Q :=
  sat_seq' (h1.mono fun e ts1 H1 h => by
    cases e with
    | normal => exact sat_ent h h2
    | _ => exact h.elim)
@[congr] theorem Ent_cg {E : Env} {a a' b b' : List D} {A A' B B' : List Ob} (h1 : a = a') (h2 : A = A') (h3 : b = b') (h4 : B = B') : Ent E a A b B = Ent E a' A' b' B' := by subst h1 h2 h3 h4; rfl
@[congr] theorem Via_cg {E : Env} {a b b' : List D} {A B B' : List Ob} {e : Exit} (h3 : b = b') (h4 : B = B') : Via E a A e b B = Via E a A e b' B' := by subst h3 h4; rfl

/-- Arguments may be told less of. -/
theorem ACalls.args {P : Program} {G : Nat → Option (List V)} {f : FuncId} {args args' : List D} {H : List Ob} {K : D → List Ob → Prop} (h : leL args args') (k : ACalls P G f args' H K) : ACalls P G f args H K :=
  fun E e1 e2 M μ w vs hr hv => k E e1 e2 M μ w vs hr (h.rel hv)

theorem sat_thru {E : Env} {x y : Code} {ts : List D} {H : List Ob} {Q : Exit → List D → List Ob → Prop} (ts' : List D) (H' : List Ob) (h1 : Sat E x ts H (Via E ts' H')) (h2 : Sat E y ts' H' Q) : Sat E x ts H (Th (fun ts H => Sat E y ts H Q) Q) :=
  h1.mono fun e ts1 H1 h => by
    cases e with
    | normal => exact sat_ent h h2
    | _ => exact h.elim
theorem sat_plain {E : Env} {ts : List D} {H : List Ob} {Q : Exit → List D → List Ob → Prop} {id : Nat} {l : List Oper} (hg : l.all (fun o => o.guard.isNone) = true) (h : aops E l.toArray l ts H fun ts' H' => Q .normal ts' H') : Sat E (.region id l.toArray false) ts H Q := sat_region h
theorem sat_calm {E : Env} {ts : List D} {H : List Ob} {Q : Exit → List D → List Ob → Prop} {id : Nat} {l : List Oper} (hg : l.all (fun o => o.guard.isNone) = true) (hm : E.P.follows .mixedOrders = true) (hB : Region.lexB .any l.toArray = true)
    (h : qops E l.toArray H l ts fun ts' => Q .normal ts' H) : Sat E (.region id l.toArray true) ts H Q := sat_quiet hm hB h

/-! ### numbers that are none below nothing -/
theorem lit_le (n m : Nat) : ((n : Int) ≤ @OfNat.ofNat Int m _) = (n ≤ @OfNat.ofNat Nat m _) := propext ⟨fun h => Int.ofNat_le.1 h, fun h => Int.ofNat_le.2 h⟩
theorem lit_lt (n m : Nat) : ((n : Int) < @OfNat.ofNat Int m _) = (n < @OfNat.ofNat Nat m _) := propext ⟨fun h => Int.ofNat_lt.1 h, fun h => Int.ofNat_lt.2 h⟩
theorem lit_ge (n m : Nat) : ((n : Int) ≥ @OfNat.ofNat Int m _) = (n ≥ @OfNat.ofNat Nat m _) := propext ⟨fun h => Int.ofNat_le.1 h, fun h => Int.ofNat_le.2 h⟩
theorem lit_gt (n m : Nat) : ((n : Int) > @OfNat.ofNat Int m _) = (n > @OfNat.ofNat Nat m _) := propext ⟨fun h => Int.ofNat_lt.1 h, fun h => Int.ofNat_lt.2 h⟩
theorem lit_beq (n m : Nat) : ((n : Int) == @OfNat.ofNat Int m _) = (n == @OfNat.ofNat Nat m _) := by
  rw [Bool.eq_iff_iff, beq_iff_eq, beq_iff_eq]; exact ⟨fun h => Int.ofNat.inj h, fun h => by rw [h]; rfl⟩
theorem nat_beq (n m : Nat) : ((n : Int) == (m : Int)) = (n == m) := by
  rw [Bool.eq_iff_iff, beq_iff_eq, beq_iff_eq]; exact ⟨fun h => Int.ofNat.inj h, fun h => by rw [h]⟩
theorem nat_ge (n m : Nat) : ((n : Int) ≥ (m : Int)) = (n ≥ m) := propext Int.ofNat_le
theorem nat_gt (n m : Nat) : ((n : Int) > (m : Int)) = (n > m) := propext Int.ofNat_lt

/-! ### one operation after another -/
theorem fr_same {n : Nat} {l : List (Nat × D)} {s : Nat} {d : D} (h : look l s = d) : fr n ((s, d) :: l) = fr n l := by
  unfold fr
  apply List.map_congr_left
  intro i _
  rw [look_cons]
  split
  · rename_i e; rw [e, h]
  · rfl
section
variable {E : Env} {all : Array Oper} {os : List Oper} {ts : List D} {H : List Ob} {Q : List D → List Ob → Prop} {Qq : List D → Prop}
theorem st_nil (h : Q ts H) : aops E all [] ts H Q := h
theorem sq_nil (h : Qq ts) : qops E all H [] ts Qq := h
variable {n : Nat} {l : List (Nat × D)} {o : Oper} {g : Nat} {want : Bool} {s : Tmp}
theorem st_op (hg : o.guard = none) (h : ∀ K : D → List Ob → Prop, (∀ d H', aops E all os (putD ts o.dst d) H' Q → K d H') → aop E o ts H K) : aops E all (o :: os) ts H Q := by
  simp only [aops, hg]; exact h _ fun _ _ h => h
theorem sq_op (hg : o.guard = none) (h : ∀ K : D → Prop, (∀ d, qops E all H os (putD ts o.dst d) Qq → K d) → Ex (fun d => aop E o ts H fun d' H' => d' = d ∧ H' = H) K) : qops E all H (o :: os) ts Qq := by
  simp only [qops, hg]; exact h _ fun _ h => h
theorem st_split {b : Bool} (hg : o.guard = some (g, want)) (hs : (all[g]?).bind (·.dst) = some s) (hn : s < n) (hl : look l s = .v (.bool b))
    (h1 : b = want → ∀ K : D → List Ob → Prop, (∀ d H', aops E all os (putD (fr n ((s, .v (.bool want)) :: l)) o.dst d) H' Q → K d H') → aop E o (fr n ((s, .v (.bool want)) :: l)) H K)
    (h2 : b = !want → aops E all os (putD (fr n ((s, .v (.bool !want)) :: l)) o.dst (.tup [])) H Q) : aops E all (o :: os) (fr n l) H Q := by
  simp only [aops, hg, hs, fr_get hn, hl, fr_set]
  exact ⟨fun e => h1 e _ fun _ _ h => h, h2⟩
theorem st_go (hg : o.guard = some (g, want)) (hs : (all[g]?).bind (·.dst) = some s) (hn : s < n) (hl : look l s = .v (.bool want))
    (h1 : ∀ K : D → List Ob → Prop, (∀ d H', aops E all os (putD (fr n l) o.dst d) H' Q → K d H') → aop E o (fr n l) H K) : aops E all (o :: os) (fr n l) H Q :=
  st_split hg hs hn hl (fun _ => by rw [fr_same hl]; exact h1) (fun h => by cases want <;> cases h)
theorem st_not (hg : o.guard = some (g, want)) (hs : (all[g]?).bind (·.dst) = some s) (hn : s < n) (hl : look l s = .v (.bool !want))
    (h1 : aops E all os (putD (fr n l) o.dst (.tup [])) H Q) : aops E all (o :: os) (fr n l) H Q :=
  st_split hg hs hn hl (fun h => by cases want <;> cases h) (fun _ => by rw [fr_same hl]; exact h1)
theorem st_out (hg : o.guard = some (g, want)) (hs : (all[g]?).bind (·.dst) = some s) (hn : s < n) (hl : look l s = .tup [])
    (h1 : aops E all os (putD (fr n l) o.dst (.tup [])) H Q) : aops E all (o :: os) (fr n l) H Q := by
  simp only [aops, hg, hs, fr_get hn, hl]
  exact h1
theorem sq_split {b : Bool} (hg : o.guard = some (g, want)) (hs : (all[g]?).bind (·.dst) = some s) (hn : s < n) (hl : look l s = .v (.bool b))
    (h1 : b = want → ∀ K : D → Prop, (∀ d, qops E all H os (putD (fr n ((s, .v (.bool want)) :: l)) o.dst d) Qq → K d) → Ex (fun d => aop E o (fr n ((s, .v (.bool want)) :: l)) H fun d' H' => d' = d ∧ H' = H) K)
    (h2 : b = !want → qops E all H os (putD (fr n ((s, .v (.bool !want)) :: l)) o.dst (.tup [])) Qq) : qops E all H (o :: os) (fr n l) Qq := by
  simp only [qops, hg, hs, fr_get hn, hl, fr_set]
  exact ⟨fun e => h1 e _ fun _ h => h, h2⟩
theorem sq_go (hg : o.guard = some (g, want)) (hs : (all[g]?).bind (·.dst) = some s) (hn : s < n) (hl : look l s = .v (.bool want))
    (h1 : ∀ K : D → Prop, (∀ d, qops E all H os (putD (fr n l) o.dst d) Qq → K d) → Ex (fun d => aop E o (fr n l) H fun d' H' => d' = d ∧ H' = H) K) : qops E all H (o :: os) (fr n l) Qq :=
  sq_split hg hs hn hl (fun _ => by rw [fr_same hl]; exact h1) (fun h => by cases want <;> cases h)
theorem sq_not (hg : o.guard = some (g, want)) (hs : (all[g]?).bind (·.dst) = some s) (hn : s < n) (hl : look l s = .v (.bool !want))
    (h1 : qops E all H os (putD (fr n l) o.dst (.tup [])) Qq) : qops E all H (o :: os) (fr n l) Qq :=
  sq_split hg hs hn hl (fun h => by cases want <;> cases h) (fun _ => by rw [fr_same hl]; exact h1)
theorem sq_out (hg : o.guard = some (g, want)) (hs : (all[g]?).bind (·.dst) = some s) (hn : s < n) (hl : look l s = .tup [])
    (h1 : qops E all H os (putD (fr n l) o.dst (.tup [])) Qq) : qops E all H (o :: os) (fr n l) Qq := by
  simp only [qops, hg, hs, fr_get hn, hl]
  exact h1
end
end Go.Ag
/- AGo, part 21: regions whose order is drawn, where some operations change the heap, one after another. -/
namespace Go.Ag
open Go Go.RowKit

/-- Operations that change the heap. -/
def heavyB (o : Oper) : Bool := match o.op with
  | .alloc _ => true
  | .box _ _ => true
  | .store _ _ _ => true
  | .buildSlice _ _ _ => true
  | .makeMap _ _ => true
  | .mapEntry _ _ _ => true
  | .entryStore _ _ _ _ => true
  | .makeSlice _ _ _ => true
  | .call c => match c.callee with
    | .builtin .append => true
    | .builtin .copy => true
    | .builtin .clear => true
    | _ => false
  | _ => false

section
variable {E : Env} {S : List Ob → Prop} {all : Array Oper} {md : Region.Mode}

/-- In this frame, over each heap that may be, the operation yields d and leaves the heap. -/
def Yf (E : Env) (S : List Ob → Prop) (all : Array Oper) (o : Oper) (d : D) (ts : List D) : Prop :=
  match o.guard with
  | none => ∀ H, S H → aop E o ts H fun d' H' => d' = d ∧ H' = H
  | some (g, want) => match gval all ts g with
    | some (some b) => if b = want then ∀ H, S H → aop E o ts H fun d' H' => d' = d ∧ H' = H else d = .tup []
    | some none => d = .tup []
    | none => False
theorem Yf.yd {o : Oper} {d : D} {ts : List D} {H : List Ob} (h : Yf E S all o d ts) (hs : S H) : Yd E all H o d ts := by
  unfold Yf at h
  unfold Yd
  cases hg : o.guard with
  | none => simp only [hg] at h ⊢; exact h H hs
  | some gw =>
    obtain ⟨g, want⟩ := gw
    simp only [hg] at h ⊢
    cases hv : gval all ts g with
    | none => simp [hv] at h
    | some r =>
      simp only [hv] at h ⊢
      cases r with
      | none => exact h
      | some b =>
        simp only at h ⊢
        split
        · rename_i e; rw [if_pos e] at h; exact h H hs
        · rename_i e; rw [if_neg e] at h; exact h
theorem Yf_putD {o : Oper} {d e : D} {ts : List D} {dst : Option Tmp} (h : ∀ s, dst = some s → s ∉ o.looksAt all) : Yf E S all o d (putD ts dst e) = Yf E S all o d ts := by
  have h1 : ∀ s, dst = some s → ∀ x ∈ o.op.operands.toList, x ≠ .tmp s := fun s hs x hx ex => by
    refine h s hs ?_
    subst ex
    simp only [Oper.looksAt, List.mem_append, List.mem_filterMap]
    exact .inl ⟨_, hx, rfl⟩
  have ha : ∀ H K, aop E o (putD ts dst e) H K = aop E o ts H K := fun H K => aop_congr fun x hx => ev_putD fun s hs => h1 s hs x hx
  unfold Yf
  cases hg : o.guard with
  | none => simp only [ha]
  | some gw =>
    obtain ⟨g, want⟩ := gw
    have h2 : gval all (putD ts dst e) g = gval all ts g := gval_putD fun s hs ex => h s hs (by simp [Oper.looksAt, hg, ex])
    simp only [ha, h2]

/-- Behind this operation nothing else can come. -/
def clo (md : Region.Mode) (all : Array Oper) (o : Oper) : Bool := decide (((List.range all.size).filter fun k => !(o.after.any fun e => Region.binds md e && e.on == k)).length ≤ 1)
/-- One operation, quiet or not. -/
def hOp (E : Env) (S : List Ob → Prop) (md : Region.Mode) (all : Array Oper) (i : Nat) (K : List D → List Ob → Prop) (ts : List D) (H : List Ob) : Prop :=
  match all[i]? with
  | none => K ts H
  | some o => if heavyB o then o.guard = none ∧ aop E o ts H fun d H' => (clo md all o = true ∨ S H') ∧ K (putD ts o.dst d) H' else ∃ d, Yf E S all o d ts ∧ K (putD ts o.dst d) H
theorem hOp_mono {i : Nat} {K K' : List D → List Ob → Prop} {ts : List D} {H : List Ob} (h : ∀ ts H, K ts H → K' ts H) (hh : hOp E S md all i K ts H) : hOp E S md all i K' ts H := by
  unfold hOp at *
  split
  · rename_i ho; simp only [ho] at hh; exact h _ _ hh
  · rename_i o ho
    simp only [ho] at hh
    split
    · rename_i hv
      rw [if_pos hv] at hh
      exact ⟨hh.1, aop_mono (fun d H1 k => ⟨k.1, h _ _ k.2⟩) hh.2⟩
    · rename_i hv
      rw [if_neg hv] at hh
      obtain ⟨d, h1, h2⟩ := hh
      exact ⟨d, h1, h _ _ h2⟩

theorem wpOp_of_h {M : Mem} {μ : Mu} {H : List Ob} {w : World} {a : Act} {ts : List D} {i : Nat} {K : List D → List Ob → Prop} {next : Act → World → Prop} {Qx : Exit → Act → World → Prop}
    (h : R E M μ H w) (ht : RelL M μ ts a.tmps.toList) (hd : a.defers = []) (hS : S H) (hq : hOp E S md all i K ts H)
    (hn : ∀ M' μ' ts' H' w' a', M.le M' → μ.le μ' → R E M' μ' H' w' → RelL M' μ' ts' a'.tmps.toList → a'.defers = [] → (S H' ∨ ∃ o, all[i]? = some o ∧ clo md all o = true) → K ts' H' → next a' w') : wpOp E.P all Qx i next a w := by
  unfold hOp at hq
  cases ho : all[i]? with
  | none =>
    simp only [ho] at hq
    unfold wpOp; simp only [ho]
    exact hn M μ ts H w a (.refl _) (.refl _) h ht hd (.inl hS) hq
  | some o =>
    simp only [ho] at hq
    split at hq
    · obtain ⟨hg, hq⟩ := hq
      unfold wpOp; simp only [ho]
      simp only [Region.wanted, hg, if_true]
      exact .inl (aop_sound h ht hq fun d v M' μ' H' w' h1 h2 h3 h4 h5 => hn M' μ' _ H' w' _ h1 h2 h3 (rel_put (RelL.mono h1 h2 ht) o.dst h4) (by rw [put_defers]; exact hd) (h5.1.elim (fun k => .inr ⟨o, ho, k⟩) .inl) h5.2)
    · obtain ⟨d, hy, hk⟩ := hq
      refine wpOp_of_q (K := fun ts' => K ts' H) h ht hd ?_ (fun M' μ' ts' w' a' h1 h2 h3 h4 h5 hk => hn M' μ' ts' H w' a' h1 h2 h3 h4 h5 (.inl hS) hk)
      unfold qOp
      simp only [ho]
      exact ⟨d, hy.yd hS, hk⟩

theorem hOp_put {j : Nat} {oi oj : Oper} {v : D} (hj : all[j]? = some oj) (hap : oi.apart all oj = true) {K : List D → List Ob → Prop} {ts : List D} {H : List Ob} (hy : Yf E S all oi v ts) (h : hOp E S md all j K (putD ts oi.dst v) H) :
    hOp E S md all j (fun ts' H' => Yf E S all oi v ts' ∧ K (putD ts' oi.dst v) H') ts H := by
  obtain ⟨h1, h2, h3⟩ := Oper.apart_spec hap
  unfold hOp at *
  simp only [hj] at *
  split
  · rename_i hv
    rw [if_pos hv] at h
    refine ⟨h.1, ?_⟩
    have h0 : ∀ s, oi.dst = some s → ∀ x ∈ oj.op.operands.toList, x ≠ .tmp s := fun s hs x hx ex => by
      refine h1 s hs ?_
      subst ex
      simp only [Oper.looksAt, List.mem_append, List.mem_filterMap]
      exact .inl ⟨_, hx, rfl⟩
    have h2' := h.2
    rw [aop_congr fun x hx => ev_putD fun s hs => h0 s hs x hx] at h2'
    refine aop_mono (fun d H1 k => ⟨k.1, by rw [Yf_putD h3]; exact hy, ?_⟩) h2'
    have k2 := k.2
    rw [putD_comm (fun s hs => h2 s hs)] at k2
    exact k2
  · rename_i hv
    rw [if_neg hv] at h
    obtain ⟨d, g1, g2⟩ := h
    rw [Yf_putD h1] at g1
    refine ⟨d, g1, by rw [Yf_putD h3]; exact hy, ?_⟩
    rw [putD_comm (fun s hs => h2 s hs)] at g2
    exact g2

def hAny (E : Env) (S : List Ob → Prop) (md : Region.Mode) (all : Array Oper) (L : List D → List Ob → Prop) : Nat → Array Bool → List D → List Ob → Prop
  | 0, listed, ts, H => Region.ready md all listed = [] ∧ L ts H
  | f + 1, listed, ts, H => Region.ready md all listed ≠ [] ∧ ∀ i ∈ Region.ready md all listed, hOp E S md all i (hAny E S md all L f (listed.setIfInBounds i true)) ts H

theorem clo_done {i : Nat} {o : Oper} {listed : Array Bool} (ho : all[i]? = some o) (hc : clo md all o = true) (hr : i ∈ Region.ready md all listed) : Region.ready md all (listed.setIfInBounds i true) = [] := by
  rw [List.eq_nil_iff_forall_not_mem]
  intro k hk
  obtain ⟨hi, o', ho', hall⟩ := mem_ready.1 hr
  rw [ho] at ho'; cases ho'
  obtain ⟨hk1, ok, hok, _⟩ := mem_ready.1 hk
  have hki : k ≠ i := by
    intro e; subst e
    by_cases hlt : k < listed.size
    · simp [Array.getD_eq_getD_getElem?, hlt] at hk1
    · simp [Array.getD_eq_getD_getElem?, hlt] at hk1
  have hk2 : listed.getD k true = false := by rw [getD_set_ne true (Ne.symm hki)] at hk1; exact hk1
  have unc : ∀ j, listed.getD j true = false → (o.after.any fun e => Region.binds md e && e.on == j) = false := fun j hj => by
    rw [Bool.eq_false_iff]
    intro h
    rw [Array.any_eq_true] at h
    obtain ⟨n, hn, h⟩ := h
    simp only [Bool.and_eq_true, beq_iff_eq] at h
    have h1 := hall _ (Array.getElem_mem hn) h.1
    rw [h.2, getD_both hj] at h1
    cases h1
  have lt : ∀ {j : Nat} {oj : Oper}, all[j]? = some oj → j < all.size := fun h => by
    have := (Array.getElem?_eq_some_iff.1 h).1; exact this
  simp only [clo, decide_eq_true_eq] at hc
  have mi : i ∈ (List.range all.size).filter fun k => !(o.after.any fun e => Region.binds md e && e.on == k) := by
    rw [List.mem_filter, List.mem_range]; exact ⟨lt ho, by rw [unc _ hi]; rfl⟩
  have mk : k ∈ (List.range all.size).filter fun k => !(o.after.any fun e => Region.binds md e && e.on == k) := by
    rw [List.mem_filter, List.mem_range]; exact ⟨lt hok, by rw [unc _ hk2]; rfl⟩
  generalize (List.range all.size).filter (fun k => !(o.after.any fun e => Region.binds md e && e.on == k)) = l at hc mi mk
  match l, hc, mi, mk with
  | [], _, mi, _ => cases mi
  | [a], _, mi, mk => exact hki ((List.mem_singleton.1 mk).trans (List.mem_singleton.1 mi).symm)
  | a :: b :: l, hc, _, _ => simp at hc

theorem wpAny_of_h {L : List D → List Ob → Prop} {Q' : Exit → Act → World → Prop} {M0 : Mem} {μ0 : Mu}
    (hL : ∀ ts H M μ w a, M0.le M → μ0.le μ → R E M μ H w → RelL M μ ts a.tmps.toList → a.defers = [] → L ts H → Q' .normal a w) :
    ∀ (f : Nat) (listed : Array Bool) (ts : List D) (H : List Ob) (M : Mem) (μ : Mu) (w : World) (a : Act), M0.le M → μ0.le μ → R E M μ H w → RelL M μ ts a.tmps.toList → a.defers = [] → (S H ∨ Region.ready md all listed = []) → hAny E S md all L f listed ts H → wpAny E.P md all Q' f listed a w
  | 0, listed, ts, H, M, μ, w, a, h1, h2, h3, h4, h5, _, h => ⟨h.1, hL _ _ _ _ _ _ h1 h2 h3 h4 h5 h.2⟩
  | f + 1, listed, ts, H, M, μ, w, a, h1, h2, h3, h4, h5, hS, h =>
    ⟨fun h0 => absurd h0 h.1, fun i hi => wpOp_of_h h3 h4 h5 (hS.resolve_right h.1) (h.2 i hi) fun M' μ' ts' H' w' a' g1 g2 g3 g4 g5 g6 g7 => wpAny_of_h hL f _ ts' H' M' μ' w' a' (h1.trans g1) (h2.trans g2) g3 g4 g5 (g6.elim .inl fun ⟨o, k1, k2⟩ => .inr (clo_done k1 k2 hi)) g7⟩

theorem hAny_first {i : Nat} {oi : Oper} {v : D} {L : List D → List Ob → Prop} (hi : all[i]? = some oi) (hlt : heavyB oi = false) :
    ∀ (f : Nat) (listed : Array Bool) (ts : List D) (H : List Ob),
      (∀ j oj, all[j]? = some oj → j ≠ i → listed.getD j true = false → (∀ e ∈ oj.after, Region.binds md e = true → e.on ≠ i) → oi.apart all oj = true) →
      i ∈ Region.ready md all listed → Yf E S all oi v ts →
      hAny E S md all L f (listed.setIfInBounds i true) (putD ts oi.dst v) H → hAny E S md all L (f + 1) listed ts H := by
  have self : ∀ {ts : List D} {H : List Ob} {K : List D → List Ob → Prop}, Yf E S all oi v ts → K (putD ts oi.dst v) H → hOp E S md all i K ts H := fun hy hk => by
    unfold hOp; simp only [hi, hlt, Bool.false_eq_true, if_false]; exact ⟨v, hy, hk⟩
  intro f
  induction f with
  | zero =>
    intro listed ts H _ hr hy Hh
    refine ⟨fun h => (by rw [h] at hr; cases hr), fun j hj => ?_⟩
    by_cases hji : j = i
    · subst hji; exact self hy Hh
    · have := ready_mono hj hji
      rw [Hh.1] at this; cases this
  | succ f ih =>
    intro listed ts H hfree hr hy Hh
    have hun := (mem_ready.1 hr).1
    refine ⟨fun h => (by rw [h] at hr; cases hr), fun j hj => ?_⟩
    by_cases hji : j = i
    · subst hji; exact self hy Hh
    · have h1 := Hh.2 j (ready_mono hj hji)
      obtain ⟨hjun, oj, hoj, hall⟩ := mem_ready.1 hj
      have hnot : ∀ e ∈ oj.after, Region.binds md e = true → e.on ≠ i := fun e he hb heq => by
        have h1 := hall e he hb
        rw [heq, getD_both hun] at h1
        cases h1
      have h2 := hOp_put hoj (hfree j oj hoj hji hjun hnot) hy h1
      have hfree' : ∀ k ok, all[k]? = some ok → k ≠ i → (listed.setIfInBounds j true).getD k true = false →
          (∀ e ∈ ok.after, Region.binds md e = true → e.on ≠ i) → oi.apart all ok = true := fun k ok hk hki hun hno => by
        refine hfree k ok hk hki ?_ hno
        by_cases hjk : j = k
        · subst hjk; exact hjun
        · rw [getD_set_ne true hjk] at hun; exact hun
      refine hOp_mono (fun ts' H' h3 => ih (listed.setIfInBounds j true) ts' H' hfree' (ready_mono hr (Ne.symm hji)) h3.1 ?_) h2
      rw [Array.setIfInBounds_comm _ _ hji]
      exact h3.2

/-- The operations, in the text's order. -/
def hops (E : Env) (S : List Ob → Prop) (md : Region.Mode) (all : Array Oper) : List Oper → List D → List Ob → (List D → List Ob → Prop) → Prop
  | [], ts, H, Q => Q ts H
  | o :: os, ts, H, Q => if heavyB o then o.guard = none ∧ aop E o ts H fun d H' => (clo md all o = true ∨ S H') ∧ hops E S md all os (putD ts o.dst d) H' Q else
    match o.guard with
    | none => Ex (fun d => ∀ H, S H → aop E o ts H fun d' H' => d' = d ∧ H' = H) (fun d => hops E S md all os (putD ts o.dst d) H Q)
    | some (g, want) => (match (all[g]?).bind (·.dst) with
      | none => False
      | some s => (match ts[s]? with
        | some (.v (.bool b)) => Gd b want
          (Ex (fun d => ∀ H, S H → aop E o (ts.set s (.v (.bool want))) H fun d' H' => d' = d ∧ H' = H) (fun d => hops E S md all os (putD (ts.set s (.v (.bool want))) o.dst d) H Q))
          (hops E S md all os (putD (ts.set s (.v (.bool !want))) o.dst (.tup [])) H Q)
        | some (.tup []) => hops E S md all os (putD ts o.dst (.tup [])) H Q
        | _ => False))

theorem hops_step {o : Oper} {os : List Oper} {ts : List D} {H : List Ob} {Q : List D → List Ob → Prop} (hlt : heavyB o = false) (k : hops E S md all (o :: os) ts H Q) : ∃ d, Yf E S all o d ts ∧ hops E S md all os (putD ts o.dst d) H Q := by
  simp only [hops, hlt, Bool.false_eq_true, if_false] at k
  unfold Yf
  cases hg : o.guard with
  | none => simp only [hg] at k ⊢; exact k
  | some gw =>
    obtain ⟨g, want⟩ := gw
    simp only [hg] at k ⊢
    cases hs : (all[g]?).bind (·.dst) with
    | none => simp only [hs] at k
    | some s =>
      simp only [hs] at k
      cases hts : ts[s]? with
      | none => simp only [hts] at k
      | some d =>
        simp only [hts] at k
        have same : ∀ d', d = d' → ts.set s d' = ts := fun d' e => by
          subst e
          apply List.ext_getElem?
          intro i
          rw [List.getElem?_set]
          split
          · rename_i e; subst e
            split
            · exact hts.symm
            · rename_i hlt; rw [List.getElem?_eq_none (by omega)]
          · rfl
        split at k
        · rename_i b hb
          cases hb
          have hv : gval all ts g = some (some b) := by simp [gval, hs, hts]
          simp only [hv]
          by_cases e : b = want
          · obtain ⟨d, k1, k2⟩ := k.1 e
            rw [same _ (by rw [e])] at k1 k2
            exact ⟨d, by rw [if_pos e]; exact k1, k2⟩
          · have e2 : b = !want := by cases b <;> cases want <;> simp_all
            have k2 := k.2 e2
            rw [same _ (by rw [e2])] at k2
            exact ⟨_, by rw [if_neg e], k2⟩
        · rename_i hb
          cases hb
          have hv : gval all ts g = some none := by simp [gval, hs, hts]
          simp only [hv]
          exact ⟨_, rfl, k⟩
        · exact k.elim

/-- In the text's order each quiet operation is free of what may come ahead of it, and at each other one nothing else may come. -/
def mixFrom (md : Region.Mode) (all : Array Oper) : List Oper → Nat → Array Bool → Bool
  | [], _, listed => Region.ready md all listed == []
  | o :: os, k, listed => (Region.ready md all listed).contains k && (if heavyB o then o.guard.isNone && Region.ready md all listed == [k] else Region.free md all listed k) && mixFrom md all os (k + 1) (listed.setIfInBounds k true)
def mixB (all : List Oper) : Bool := all.any heavyB && mixFrom .any all.toArray all 0 (Array.replicate all.length false)

theorem hAny_lex {L : List D → List Ob → Prop} :
    ∀ (l : List Oper) (k : Nat) (listed : Array Bool) (ts : List D) (H : List Ob), (∀ j, j < l.length → l[j]? = all[k + j]?) →
    mixFrom md all l k listed = true → hops E S md all l ts H L → hAny E S md all L l.length listed ts H
  | [], k, listed, ts, H, _, hB, h => ⟨by simpa [mixFrom] using hB, h⟩
  | o :: l, k, listed, ts, H, hl, hB, h => by
    have h0 : all[k]? = some o := by simpa using (hl 0 (by simp)).symm
    have hl' : ∀ j, j < l.length → l[j]? = all[k + 1 + j]? := fun j hj => by have := hl (j + 1) (by simp; omega); simpa [Nat.add_assoc, Nat.add_comm 1 j] using this
    simp only [mixFrom, Bool.and_eq_true] at hB
    obtain ⟨⟨hr, hf⟩, hB'⟩ := hB
    have hr : k ∈ Region.ready md all listed := by simpa using hr
    cases hv : heavyB o with
    | false =>
      rw [hv] at hf
      obtain ⟨d, hy, hK⟩ := hops_step hv h
      exact hAny_first h0 hv l.length listed ts H (Region.free_spec h0 (by simpa using hf)) hr hy (hAny_lex l (k + 1) _ _ _ hl' hB' hK)
    | true =>
      rw [hv] at hf
      simp only [if_true, Bool.and_eq_true, beq_iff_eq] at hf
      simp only [hops, hv, if_true] at h
      refine ⟨fun e => (by rw [e] at hr; cases hr), fun j hj => ?_⟩
      rw [hf.2] at hj
      have : j = k := by simpa using hj
      subst this
      unfold hOp
      simp only [h0, hv, if_true]
      exact ⟨h.1, aop_mono (fun d H1 k => ⟨k.1, hAny_lex l _ _ _ _ hl' hB' k.2⟩) h.2⟩
end

/-- A region that draws its order, where some operations change the heap. -/
theorem sat_mixS {E : Env} (S : List Ob → Prop) {ts : List D} {H : List Ob} {Q : Exit → List D → List Ob → Prop} {id : Nat} {l : List Oper} (hm : E.P.follows .mixedOrders = true) (hB : mixB l = true) (hS : S H)
    (h : hops E S .any l.toArray l ts H fun ts' H' => Q .normal ts' H') : Sat E (.region id l.toArray true) ts H Q := by
  intro M μ w a h1 h2 h3 h4 h5
  simp only [mixB, Bool.and_eq_true] at hB
  refine wp_region_any hm ?_
  have hq := hAny_lex (E := E) (S := S) (md := .any) (all := l.toArray) l 0 (Array.replicate l.length false) ts H (fun j _ => by simp) hB.2 h
  have := wpAny_of_h (E := E) (S := S) (md := .any) (all := l.toArray) (M0 := M) (μ0 := μ)
    (Q' := fun e a' w' => ∃ M' μ' ts' H', E.M0.le M' ∧ E.μ0.le μ' ∧ R E M' μ' H' w' ∧ RelL M' μ' ts' a'.tmps.toList ∧ a'.defers = [] ∧ Q e ts' H')
    (fun ts' H' M' μ' w' a' g1 g2 g3 g4 g5 hL => ⟨M', μ', ts', H', h1.trans g1, h2.trans g2, g3, g4, g5, hL⟩)
    l.length (Array.replicate l.length false) ts H M μ w.drew a (.refl _) (.refl _) h3.drew h4 h5 (.inl hS) hq
  simpa using this
def anyS (_ : List Ob) : Prop := True
theorem sat_mix {E : Env} {ts : List D} {H : List Ob} {Q : Exit → List D → List Ob → Prop} {id : Nat} {l : List Oper} (hm : E.P.follows .mixedOrders = true) (hB : mixB l = true)
    (h : hops E anyS .any l.toArray l ts H fun ts' H' => Q .normal ts' H') : Sat E (.region id l.toArray true) ts H Q := sat_mixS anyS hm hB trivial h

theorem sat_mixp2 {E : Env} {ts : List D} {H : List Ob} {Q : Exit → List D → List Ob → Prop} {id : Nat} {l : List Oper} (hv : l.any heavyB = true) (hm : E.P.follows .mixedOrders = true) (hB : mixB l = true)
    (h : hops E anyS .any l.toArray l ts H fun ts' H' => Q .normal ts' H') : Sat E (.region id l.toArray true) ts H Q := sat_mix hm hB h
theorem sat_mixp {E : Env} {ts : List D} {H : List Ob} {Q : Exit → List D → List Ob → Prop} {id : Nat} {l : List Oper} (hg : l.all (fun o => o.guard.isNone) = true) (hv : l.any heavyB = true) (hm : E.P.follows .mixedOrders = true) (hB : mixB l = true)
    (h : hops E anyS .any l.toArray l ts H fun ts' H' => Q .normal ts' H') : Sat E (.region id l.toArray true) ts H Q := sat_mix hm hB h

section
variable {E : Env} {all : Array Oper} {os : List Oper} {ts : List D} {H : List Ob} {Q : List D → List Ob → Prop}
theorem sm_nil (h : Q ts H) : hops E anyS .any all [] ts H Q := h
variable {n : Nat} {l : List (Nat × D)} {o : Oper} {g : Nat} {want : Bool} {s : Tmp}
theorem sm_op (hv : heavyB o = false) (hg : o.guard = none) (h : ∀ K : D → Prop, (∀ d, hops E anyS .any all os (putD ts o.dst d) H Q → K d) → Ex (fun d => ∀ H, aop E o ts H fun d' H' => d' = d ∧ H' = H) K) : hops E anyS .any all (o :: os) ts H Q := by
  simp only [hops, hv, hg, Bool.false_eq_true, if_false]
  obtain ⟨d, h1, h2⟩ := h _ fun _ h => h
  exact ⟨d, fun H _ => h1 H, h2⟩
theorem sm_hv (hv : heavyB o = true) (hg : o.guard = none) (h : ∀ K : D → List Ob → Prop, (∀ d H', hops E anyS .any all os (putD ts o.dst d) H' Q → K d H') → aop E o ts H K) : hops E anyS .any all (o :: os) ts H Q := by
  simp only [hops, hv, hg, if_true]
  exact ⟨trivial, h _ fun _ _ h => ⟨.inr trivial, h⟩⟩
theorem sm_split {b : Bool} (hv : heavyB o = false) (hg : o.guard = some (g, want)) (hs : (all[g]?).bind (·.dst) = some s) (hn : s < n) (hl : look l s = .v (.bool b))
    (h1 : b = want → ∀ K : D → Prop, (∀ d, hops E anyS .any all os (putD (fr n ((s, .v (.bool want)) :: l)) o.dst d) H Q → K d) → Ex (fun d => ∀ H, aop E o (fr n ((s, .v (.bool want)) :: l)) H fun d' H' => d' = d ∧ H' = H) K)
    (h2 : b = !want → hops E anyS .any all os (putD (fr n ((s, .v (.bool !want)) :: l)) o.dst (.tup [])) H Q) : hops E anyS .any all (o :: os) (fr n l) H Q := by
  simp only [hops, hv, hg, hs, fr_get hn, hl, fr_set, Bool.false_eq_true, if_false]
  refine ⟨fun e => ?_, h2⟩
  obtain ⟨d, h1, h2⟩ := h1 e _ fun _ h => h
  exact ⟨d, fun H _ => h1 H, h2⟩
theorem sm_go (hv : heavyB o = false) (hg : o.guard = some (g, want)) (hs : (all[g]?).bind (·.dst) = some s) (hn : s < n) (hl : look l s = .v (.bool want))
    (h1 : ∀ K : D → Prop, (∀ d, hops E anyS .any all os (putD (fr n l) o.dst d) H Q → K d) → Ex (fun d => ∀ H, aop E o (fr n l) H fun d' H' => d' = d ∧ H' = H) K) : hops E anyS .any all (o :: os) (fr n l) H Q :=
  sm_split hv hg hs hn hl (fun _ => by rw [fr_same hl]; exact h1) (fun h => by cases want <;> cases h)
theorem sm_not (hv : heavyB o = false) (hg : o.guard = some (g, want)) (hs : (all[g]?).bind (·.dst) = some s) (hn : s < n) (hl : look l s = .v (.bool !want))
    (h1 : hops E anyS .any all os (putD (fr n l) o.dst (.tup [])) H Q) : hops E anyS .any all (o :: os) (fr n l) H Q :=
  sm_split hv hg hs hn hl (fun h => by cases want <;> cases h) (fun _ => by rw [fr_same hl]; exact h1)
theorem sm_out (hv : heavyB o = false) (hg : o.guard = some (g, want)) (hs : (all[g]?).bind (·.dst) = some s) (hn : s < n) (hl : look l s = .tup [])
    (h1 : hops E anyS .any all os (putD (fr n l) o.dst (.tup [])) H Q) : hops E anyS .any all (o :: os) (fr n l) H Q := by
  simp only [hops, hv, hg, hs, fr_get hn, hl, Bool.false_eq_true, if_false]
  exact h1
end
end Go.Ag
/- AGo, part 17: the library's contracts, taken in. -/
namespace Go.Ag
open Go Go.RowKit

/-- What was there is as it was. -/
theorem R.more {E : Env} {M : Mem} {μ : Mu} {H : List Ob} {w w' : World} (h : R E M μ H w) (hb : Below w.heap.size w w') : R E M μ H w' := by
  refine ⟨h.below.trans (hb.mono h.below.size), fun b o y hy => ?_, h.glob, h.dom, fun i o p ho hp => ?_, h.sep, h.tot⟩
  · rw [World.cell?_of_block (w := w) (hb.block b (h.imm_lt hy))]; exact h.imm b o y hy
  · have hob := h.obj i o p ho hp
    by_cases hd : o = .dead
    · subst hd; trivial
    · exact hob.same (.refl _) (hb.block _ (hob.lt hd))

def memWith (M : Mem) (blk : Nat) (vs : List Value) : Mem := fun b o => if b = blk then vs[o]? else M b o
theorem memWith_le {M : Mem} {blk : Nat} {vs : List Value} (h : ∀ o, M blk o = none) : M.le (memWith M blk vs) := fun b o y hy => by
  by_cases e : b = blk
  · subst e; rw [h] at hy; cases hy
  · simp [memWith, e, hy]
theorem memWith_self (M : Mem) (blk : Nat) (vs : List Value) (o : Nat) : memWith M blk vs blk o = vs[o]? := by simp [memWith]

/-- .. and a new block never turns from here on. -/
theorem R.fresh {E : Env} {M : Mem} {μ : Mu} {H : List Ob} {w w' : World} (h : R E M μ H w) (hb : Below w.heap.size w w') {blk : Nat} (hk : w.heap.size ≤ blk) (vs : List Value)
    (hv : ∀ o y, vs[o]? = some y → w'.cell? ⟨blk, o, none⟩ = some y) : M.le (memWith M blk vs) ∧ R E (memWith M blk vs) μ H w' := by
  have hn : ∀ o, M blk o = none := fun o => by
    cases hy : M blk o with
    | none => rfl
    | some y => have := h.imm_lt hy; omega
  have hle := memWith_le (vs := vs) hn
  refine ⟨hle, ?_⟩
  have h' := h.more hb
  refine ⟨h'.below, fun b o y hy => ?_, fun g cs hg => (h.glob g cs hg).mono hle, h'.dom, fun i o p ho hp => ?_, h'.sep, h'.tot⟩
  · by_cases e : b = blk
    · subst e; rw [memWith_self] at hy; exact hv _ _ hy
    · simp only [memWith, e, if_false] at hy; exact h'.imm _ _ _ hy
  · have hob := h'.obj i o p ho hp
    have hlt : o ≠ .dead → p.blk < w.heap.size := fun hd => (h.obj i o p ho hp).lt hd
    cases o with
    | dead => trivial
    | box cs =>
      obtain ⟨h1, h2, h3, ws, t, h4, h5⟩ := hob
      have hne : p.blk ≠ blk := by have := hlt (by simp); omega
      exact ⟨h1, h2, fun o => by simp only [memWith, hne, if_false]; exact h3 o, ws, t, h4, h5.mono hle (.refl _)⟩
    | arr ver sz xs esc =>
      obtain ⟨h1, h2, h3, h4, h5, ws, t, h6, h7, h8⟩ := hob
      have hne : p.blk ≠ blk := by have := hlt (by simp); omega
      exact ⟨h1, h2, h3, fun o y hy => by simp only [memWith, hne, if_false] at hy; exact h4 o y hy, h5, ws, t, h6, h7, h8.mono hle (.refl _)⟩
    | mp es =>
      obtain ⟨h1, h2, h3, ents, c, h4, h5, h6, h7⟩ := hob
      have hne : p.blk ≠ blk := by have := hlt (by simp); omega
      exact ⟨h1, h2, fun o => by simp only [memWith, hne, if_false]; exact h3 o, ents, c, h4, h5.mono hle (.refl _), h6, h7⟩

theorem ACalls.of_calls {P : Program} {G : Nat → Option (List V)} {f : FuncId} {args : List D} {H : List Ob} {K : D → List Ob → Prop} (hc : callB P f = true)
    (h : ∀ E : Env, E.P = P → E.G = G → ∀ (M : Mem) (μ : Mu) (w : World) (vs : List Value), R E M μ H w → RelL M μ args vs → Calls P f vs.toArray w fun e w' => ∃ v d, e = .returned v ∧ Below w.heap.size w w' ∧ Rel M μ d v ∧ K d H) : ACalls P G f args H K := by
  refine ACalls.ofB hc fun E e1 e2 M μ w vs h1 h2 => (h E e1 e2 M μ w vs h1 h2).mono ?_
  rintro e w' ⟨v, d, he, hb, hr, hk⟩
  exact ⟨v, d, M, μ, H, he, .refl _, .refl _, h1.more hb, hr, hk⟩

theorem ACalls.of_new {P : Program} {G : Nat → Option (List V)} {f : FuncId} {args : List D} {H : List Ob} {K : D → List Ob → Prop} (hc : callB P f = true)
    (h : ∀ E : Env, E.P = P → E.G = G → ∀ (M : Mem) (μ : Mu) (w : World) (vs : List Value), R E M μ H w → RelL M μ args vs → Calls P f vs.toArray w fun e w' => ∃ v d blk cs, e = .returned v ∧ Below w.heap.size w w' ∧ w.heap.size ≤ blk ∧
      (∀ o y, cs[o]? = some y → w'.cell? ⟨blk, o, none⟩ = some y) ∧ Rel (memWith M blk cs) μ d v ∧ K d H) : ACalls P G f args H K := by
  refine ACalls.ofB hc fun E e1 e2 M μ w vs h1 h2 => (h E e1 e2 M μ w vs h1 h2).mono ?_
  rintro e w' ⟨v, d, blk, cs, he, hb, hk, hv, hr, hK⟩
  obtain ⟨g1, g2⟩ := h1.fresh hb hk cs hv
  exact ⟨v, d, _, μ, H, he, g1, .refl _, g2, hr, hK⟩

/-- Strings by value, in a row of cells. -/
theorem relRows_strs {M : Mem} {b : Nat} : ∀ (l : List (List UInt8)) (o : Nat), (∀ j s, l[j]? = some s → M b (o + j) = some (.string ⟨s.toArray⟩)) → RelRows M 1 b o (l.map fun s => [.str s])
  | [], _, _ => trivial
  | s :: l, o, h => by
    refine ⟨rfl, ⟨⟨_, h 0 s rfl, rfl⟩, trivial⟩, ?_⟩
    exact relRows_strs l (o + 1) fun j t ht => by have := h (j + 1) t ht; rwa [show o + (j + 1) = o + 1 + j from by omega] at this
theorem relRows_strs_get {M : Mem} {b : Nat} : ∀ {l : List (List UInt8)} {o : Nat}, RelRows M 1 b o (l.map fun s => [.str s]) → ∀ j s, l[j]? = some s → M b (o + j) = some (.string ⟨s.toArray⟩)
  | s :: l, o, ⟨_, ⟨⟨y, hy, he⟩, _⟩, h2⟩, 0, t, ht => by simp at ht; subst ht; rw [Nat.add_zero, hy, he]
  | s :: l, o, ⟨_, _, h2⟩, j + 1, t, ht => by
    have := relRows_strs_get h2 j t ht
    rwa [show o + (j + 1) = o + 1 + j from by omega]

/-- What a list of strings by value is in the world. -/
theorem R.strs {E : Env} {M : Mem} {μ : Mu} {H : List Ob} {w : World} (h : R E M μ H w) {l : List (List UInt8)} {y : Value} (hr : Rel M μ (.v (.list 1 (l.map fun s => [.str s]))) y) :
    ∃ A c, y = .slice A l.length c ∧ l.length ≤ c ∧ (l = [] ∨ ∃ b o, A = some ⟨b, o, none⟩ ∧ b < w.heap.size ∧ (∀ j s, l[j]? = some s → M b (o + j) = some (.string ⟨s.toArray⟩)) ∧ (∀ j s, l[j]? = some s → w.cell? ⟨b, o + j, none⟩ = some (.string ⟨s.toArray⟩))) := by
  simp only [Rel, RelV] at hr
  obtain ⟨A, c, rfl, hc, hr⟩ := hr
  simp only [List.length_map] at hc ⊢
  refine ⟨A, c, rfl, hc, ?_⟩
  rcases hr with h0 | ⟨b, o, rfl, hrow⟩
  · left; simpa using h0
  · cases l with
    | nil => exact .inl rfl
    | cons s l =>
      right
      have hg := relRows_strs_get hrow
      refine ⟨b, o, rfl, h.imm_lt (hg 0 s rfl), hg, fun j t ht => h.imm _ _ _ (hg j t ht)⟩
end Go.Ag
/- AGo, part 19: slices that are gathered. -/
namespace Go.Ag
open Go Go.RowKit

theorem ltL_v (n : Nat) : ∀ l : List V, D.ltL n (l.map D.v)
  | [] => by simp only [List.map_nil, D.ltL]
  | x :: l => by simp only [List.map_cons, D.ltL, D.lt]; exact ⟨trivial, ltL_v n l⟩
theorem ltRows (n : Nat) (ys : List (List V)) : ∀ x ∈ ys.map (·.map D.v), D.ltL n x := by
  intro x hx
  obtain ⟨y, _, rfl⟩ := List.mem_map.1 hx
  exact ltL_v n y

/-- A slice that is gathered: nil, or the first rows of an array of one's own, behind m objects that are told no more. -/
def Acs (E : Env) (m sz : Nat) (ys : List (List V)) (d : D) (L : List Ob) : Prop :=
  (ys = [] ∧ d = .nils ∧ L = []) ∨ ∃ (ver : Nat) (zs : List (List V)), 1 ≤ ver ∧ ys.length ≤ zs.length ∧ zs.take ys.length = ys ∧ d = .own (E.H0.length + m) ver ys.length ∧ L = List.replicate m .dead ++ [.arr ver sz (zs.map (·.map .v)) 0]
theorem Acs.start {E : Env} (m sz : Nat) : Acs E m sz [] .nils [] := .inl ⟨rfl, rfl, rfl⟩
theorem Acs.own {E : Env} {m sz : Nat} {ys : List (List V)} (ver : Nat) (h : 1 ≤ ver) : Acs E m sz ys (.own (E.H0.length + m) ver ys.length) (List.replicate m .dead ++ [.arr ver sz (ys.map (·.map .v)) 0]) :=
  .inr ⟨ver, ys, h, Nat.le_refl _, take_len ys, rfl, rfl⟩
theorem ltObs_dead (n m : Nat) (o : Ob) (h : o.lt n) : ltObs n (List.replicate m .dead ++ [o]) := by
  induction m with
  | zero => exact ⟨h, trivial⟩
  | succ m ih => exact ⟨trivial, ih⟩
theorem Acs.lt {E : Env} {m sz : Nat} {ys : List (List V)} {d : D} {L : List Ob} (h : Acs E m sz ys d L) : D.lt (E.H0.length + L.length) d ∧ ltObs (E.H0.length + L.length) L := by
  rcases h with ⟨_, rfl, rfl⟩ | ⟨ver, zs, _, _, _, rfl, rfl⟩
  · exact ⟨by simp only [D.lt], trivial⟩
  · refine ⟨by simp only [D.lt]; simp, ltObs_dead _ _ _ ?_⟩
    simp only [Ob.lt]
    exact ltRows _ _

mutual
theorem conv_old {b ver sz n : Nat} {ys : List (List V)} (hb : n ≤ b) : ∀ {d : D}, D.lt n d → D.conv b ver sz ys d = d
  | .own b' v' l', h => by
    simp only [D.lt] at h
    simp only [D.conv]
    rw [if_neg (by omega)]
  | .agg cs, h => by simp only [D.lt] at h; simp only [D.conv, convL_old hb h]
  | .tup cs, h => by simp only [D.lt] at h; simp only [D.conv, convL_old hb h]
  | .fn f cs, h => by simp only [D.lt] at h; simp only [D.conv, convL_old hb h]
  | .v x, _ => by simp only [D.conv]
  | .nils, _ => by simp only [D.conv]
  | .ptr _ _, _ => by simp only [D.conv]
  | .eptr _ _ _ _ _, _ => by simp only [D.conv]
  | .rptr _, _ => by simp only [D.conv]
  | .nilp, _ => by simp only [D.conv]
  | .map _, _ => by simp only [D.conv]
  | .nilm, _ => by simp only [D.conv]
  | .nilf, _ => by simp only [D.conv]
  | .sub _ _ _ _ _ _, _ => by simp only [D.conv]
  | .any, _ => by simp only [D.conv]
theorem convL_old {b ver sz n : Nat} {ys : List (List V)} (hb : n ≤ b) : ∀ {ds : List D}, D.ltL n ds → D.convL b ver sz ys ds = ds
  | [], _ => by simp only [D.convL]
  | d :: ds, h => by simp only [D.ltL] at h; simp only [D.convL, conv_old hb h.1, convL_old hb h.2]
end
/-- It is told by value from here on, and all that was made is forgotten. -/
theorem Ent.acs {E : Env} {n m sz : Nat} {l : List (Nat × D)} {L : List Ob} {ys : List (List V)} (s : Nat) {d : D} (l' : List (Nat × D)) (hE : E.Closed) (hA : Acs E m sz ys d L) (hd : look l s = d) (h1 : leAll l l') (h2 : ltAll E.H0.length l') :
    Ent E (fr n l) (E.H0 ++ L) (fr n ((s, .v (.list sz ys)) :: l')) E.H0 := by
  rcases hA with ⟨rfl, rfl, rfl⟩ | ⟨ver, zs, _, hle, hz, rfl, rfl⟩
  · rw [List.append_nil]
    exact Ent.weakFr ⟨hd ▸ D.le_nils sz, h1⟩
  · have g : (E.H0 ++ (List.replicate m Ob.dead ++ [Ob.arr ver sz (zs.map (·.map D.v)) 0]))[E.H0.length + m]? = some (.arr ver sz (zs.map (·.map .v)) 0) := by
      rw [hp_get, List.getElem?_append_right (by simp)]; simp
    refine (Ent.weakFr (l' := (s, .own (E.H0.length + m) ver ys.length) :: l') ⟨hd ▸ D.le_refl _, h1⟩).trans ((Ent.pubFr (E.H0.length + m) zs g (Nat.zero_le _) rfl).trans ?_)
    rw [hp_set]
    have e : Ent E (fr n (convFr (E.H0.length + m) ver sz zs ((s, .own (E.H0.length + m) ver ys.length) :: l'))) (E.H0 ++ ((List.replicate m Ob.dead ++ [Ob.arr ver sz (zs.map (·.map D.v)) 0]).set m (Ob.arr ver sz (zs.map (·.map D.v)) zs.length))) (fr n ((s, .v (.list sz ys)) :: l')) (E.H0 ++ ((List.replicate m Ob.dead ++ [Ob.arr ver sz (zs.map (·.map D.v)) 0]).set m (Ob.arr ver sz (zs.map (·.map D.v)) zs.length))) := by
      refine Ent.weak (leL_map _ _ _ fun i => ?_)
      rw [look_conv]
      simp only [look_cons]
      split
      · simp only [D.conv, true_and, hle, if_true, hz]; exact D.le_refl _
      · rw [conv_old (Nat.le_add_right _ m) (ltAll_look h2 i)]; exact D.le_refl _
    refine e.trans ?_
    have g2 := Ent.gcFr (n := n) (l := (s, .v (.list sz ys)) :: l') [] ((List.replicate m Ob.dead ++ [Ob.arr ver sz (zs.map (·.map D.v)) 0]).set m (Ob.arr ver sz (zs.map (·.map D.v)) zs.length)) hE ⟨by simp only [D.lt], h2⟩ trivial
    rwa [List.append_nil] at g2
end Go.Ag
