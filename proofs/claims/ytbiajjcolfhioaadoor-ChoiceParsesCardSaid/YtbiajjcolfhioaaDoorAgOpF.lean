/- AGo, part 8: append, and small builtins. -/
import Derived.Test.YtbiajjcolfhioaaDoorAgOpE
set_option linter.all false
namespace Go.Ag
open Go Go.RowKit

/-- One array is written, in its block, and counts as another one. -/
theorem R.setBump {E : Env} {M : Mem} {μ : Mu} {H : List Ob} {w w' : World} (h : R E M μ H w) {i : Nat} {o o' : Ob} {p p' : Pt} (hi : H[i]? = some o) (hd : o ≠ .dead) (hp : μ i = some p)
    (hb' : p'.blk = p.blk) (hv : p.ver < p'.ver) (h1 : 1 ≤ p.ver)
    (hos : w'.os = w.os) (htape : w'.tape = w.tape) (hout : w'.output = w.output) (hsz : w'.heap.size = w.heap.size)
    (hother : ∀ k, k ≠ p.blk → w'.heap[k]? = w.heap[k]?) (himm : ∀ o y, M p.blk o = some y → w'.cell? ⟨p.blk, o, none⟩ = some y)
    (ho' : ObRel E.w0.heap.size M (upd μ i p') w' o' p') : R E M (upd μ i p') (H.set i o') w' := by
  have hle : μ.le (upd μ i p') := Mu.le_upd_ver hp hv h1
  have hob := h.obj i o p hi hp
  have hb := hob.base_le hd
  have hlt : i < H.length := h.dom i p hp
  refine ⟨h.below.trans ⟨hos, htape, hout, by omega, fun k hk => hother k (by omega)⟩, fun b o y hy => ?_, h.glob, fun j q hq => ?_, fun j oj q hj hq => ?_, ?_, fun j hj => (by
    by_cases e : j = i
    · subst e; exact ⟨p', upd_self _ _ _⟩
    · rw [upd_ne _ _ e]; exact h.tot j (by simpa using hj))⟩
  · by_cases e : b = p.blk
    · subst e; exact himm o y hy
    · rw [World.cell?_of_block (w := w) (hother b e)]; exact h.imm b o y hy
  · by_cases e : j = i
    · subst e; simpa using hlt
    · rw [upd_ne _ _ e] at hq; simpa using h.dom j q hq
  · by_cases e : j = i
    · subst e
      rw [upd_self] at hq; cases hq
      rw [List.getElem?_set_self hlt] at hj; cases hj
      exact ho'
    · rw [upd_ne _ _ e] at hq
      rw [List.getElem?_set_ne (fun x => e x.symm)] at hj
      have hoj := h.obj j oj q hj hq
      by_cases hdj : oj = .dead
      · subst hdj; trivial
      · exact hoj.same hle (hother _ (h.sep j i oj o q p e hj hi hdj hd hq hp))
  · intro j k oj ok pj pk hjk hj hk dj dk hpj hpk
    have back : ∀ (j : Nat) (oj : Ob) (pj : Pt), (H.set i o')[j]? = some oj → oj ≠ .dead → upd μ i p' j = some pj → ∃ oj' pj', H[j]? = some oj' ∧ oj' ≠ .dead ∧ μ j = some pj' ∧ pj'.blk = pj.blk := fun j oj pj hj dj hpj => by
      by_cases e : j = i
      · subst e
        rw [upd_self] at hpj; cases hpj
        exact ⟨o, p, hi, hd, hp, hb'.symm⟩
      · rw [upd_ne _ _ e] at hpj
        rw [List.getElem?_set_ne (fun x => e x.symm)] at hj; exact ⟨oj, pj, hj, dj, hpj, rfl⟩
    obtain ⟨oj', qj, hj', dj', hqj, ej⟩ := back j oj pj hj dj hpj
    obtain ⟨ok', qk, hk', dk', hqk, ek⟩ := back k ok pk hk dk hpk
    rw [← ej, ← ek]
    exact h.sep j k oj' ok' qj qk hjk hj' hk' dj' dk' hqj hqk

/-! ### what is appended -/
def aSrc (x : D) (H : List Ob) (sz : Nat) (K : List (List D) → Prop) : Prop :=
  match x with
  | .nils => K []
  | .v (.list sz' ys) => sz' = sz ∧ K (ys.map (·.map .v))
  | .own b ver len => (match H[b]? with
    | some (.arr ver' sz' xs _) => ver' = ver ∧ sz' = sz ∧ len ≤ xs.length ∧ ((xs.take len).all (·.all D.cell)) = true ∧ K (xs.take len)
    | _ => False)
  | _ => False

theorem flatten_len {sz : Nat} {α : Type} : ∀ {xs : List (List α)}, (∀ x ∈ xs, x.length = sz) → xs.flatten.length = xs.length * sz
  | [], _ => by simp
  | x :: xs, h => by
    rw [List.flatten_cons, List.length_append, h x (by simp), flatten_len (fun y hy => h y (by simp [hy])), List.length_cons, Nat.add_mul, Nat.one_mul, Nat.add_comm]

theorem Rows.flat {M : Mem} {μ : Mu} {sz : Nat} {xs : List (List D)} {vs : List Value} (h : Rows M μ sz xs vs) (hl : xs.length * sz ≤ vs.length) : RelL M μ xs.flatten (vs.take (xs.length * sz)) := by
  induction xs generalizing vs with
  | nil => simp [RelL]
  | cons x xs ih =>
    have h0 := h 0 x (by simp)
    simp only [Nat.zero_mul, List.drop_zero] at h0
    have e : (xs.length + 1) * sz = sz + xs.length * sz := by rw [Nat.add_mul, Nat.one_mul, Nat.add_comm]
    rw [List.length_cons, e] at hl
    rw [List.flatten_cons, List.length_cons, e, List.take_add]
    refine h0.2.append (ih (fun i y hy => ?_) (by simp; omega))
    have := h (i + 1) y (by simpa using hy)
    rw [List.drop_drop]
    rwa [show sz + i * sz = (i + 1) * sz from by rw [Nat.add_mul, Nat.one_mul, Nat.add_comm]]
theorem Rows.take {M : Mem} {μ : Mu} {sz : Nat} {xs : List (List D)} {vs : List Value} (h : Rows M μ sz xs vs) (n : Nat) : Rows M μ sz (xs.take n) vs := fun i x hx => by
  rw [List.getElem?_take] at hx
  split at hx
  · exact h i x hx
  · simp at hx
theorem Rows.len {M : Mem} {μ : Mu} {sz : Nat} {xs : List (List D)} {vs : List Value} (h : Rows M μ sz xs vs) : ∀ x ∈ xs, x.length = sz := fun x hx => by
  obtain ⟨i, hi⟩ := List.mem_iff_getElem?.1 hx
  exact (h i x hi).1

theorem RelRow.append {M : Mem} {b : Nat} : ∀ {o : Nat} {xs ys : List V}, RelRow M b o xs → RelRow M b (o + xs.length) ys → RelRow M b o (xs ++ ys)
  | o, [], ys, _, k => by simpa using k
  | o, x :: xs, ys, h, k => by
    simp only [RelRow, List.cons_append] at h ⊢
    exact ⟨h.1, RelRow.append h.2 (by rw [List.length_cons] at k; rwa [show o + 1 + xs.length = o + (xs.length + 1) from by omega])⟩
theorem RelRows.flat {M : Mem} {sz b : Nat} : ∀ {o : Nat} {xs : List (List V)}, RelRows M sz b o xs → RelRow M b o xs.flatten
  | _, [], _ => by simp [RelRow]
  | o, x :: xs, h => by
    simp only [RelRows] at h
    rw [List.flatten_cons]
    exact RelRow.append h.2.1 (by rw [h.1]; exact RelRows.flat h.2.2)
/-- The cells that a source has in the world. -/
theorem aSrc_sound {E : Env} {M : Mem} {μ : Mu} {H : List Ob} {w : World} (h : R E M μ H w) {x : D} {y : Value} (hy : Rel M μ x y) {sz : Nat} {K : List (List D) → Prop} (k : aSrc x H sz K) :
    ∃ rows A c, K rows ∧ y = .slice A rows.length c ∧ (∀ r ∈ rows, r.length = sz) ∧ (rows = [] ∨ ∃ a news, A = some a ∧ RelL M μ rows.flatten news ∧ (∀ v ∈ news, v.oneCell' = true) ∧ ∀ j u, news[j]? = some u → w.cell? (a.add j) = some u) := by
  unfold aSrc at k
  split at k
  · simp only [Rel] at hy; subst hy
    exact ⟨[], none, 0, k, rfl, by simp, .inl rfl⟩
  · rename_i sz' ys
    obtain ⟨rfl, k⟩ := k
    simp only [Rel, RelV] at hy
    obtain ⟨A, c, rfl, hc, hr⟩ := hy
    rcases hr with rfl | ⟨b, o, rfl, hr⟩
    · exact ⟨[], A, c, k, rfl, by simp, .inl rfl⟩
    · refine ⟨_, _, c, k, by rw [List.length_map], fun r hr' => ?_, .inr ⟨⟨b, o, none⟩, (List.range (ys.length * sz')).map (fun j => (M b (o + j)).getD undef), rfl, ?_, ?_, ?_⟩⟩
      · obtain ⟨q, hq, rfl⟩ := List.mem_map.1 hr'
        obtain ⟨i, hi⟩ := List.mem_iff_getElem?.1 hq
        simp [(hr.get i q hi).1]
      all_goals
        have hfl : ys.flatten.length = ys.length * sz' := flatten_len (sz := sz') (xs := ys) (fun q hq => by obtain ⟨i, hi⟩ := List.mem_iff_getElem?.1 hq; exact (hr.get i q hi).1)
        have hcell : ∀ j, j < ys.length * sz' → ∃ x y, ys.flatten[j]? = some x ∧ M b (o + j) = some y ∧ RelV M x y := by
          intro j hj
          have hj' : j < ys.flatten.length := by omega
          obtain ⟨y, h1, h2⟩ := hr.flat.get j _ (List.getElem?_eq_getElem hj')
          exact ⟨_, y, List.getElem?_eq_getElem hj', h1, h2⟩
      · rw [show (ys.map fun x => x.map D.v).flatten = ys.flatten.map .v from by rw [List.map_flatten]]
        refine RelL.of_get ?_ fun j d y hj1 hj2 => ?_
        · simp only [List.length_map, List.length_range, hfl]
        · have hjl : j < ys.length * sz' := by have := (List.getElem?_eq_some_iff.1 hj2).1; simpa using this
          obtain ⟨x', y', g1, g2, g3⟩ := hcell j hjl
          rw [List.getElem?_map, g1] at hj1
          rw [List.getElem?_map, List.getElem?_range hjl] at hj2
          simp only [Option.map_some, Option.some.injEq] at hj1 hj2
          subst hj1; subst hj2
          simp only [g2, Option.getD_some, Rel]; exact g3
      · intro v hv
        obtain ⟨j, hj, rfl⟩ := List.mem_map.1 hv
        obtain ⟨x', y', g1, g2, g3⟩ := hcell j (by simpa using hj)
        simp only [g2, Option.getD_some]; exact g3.one
      · intro j u hj
        have hjl : j < ys.length * sz' := by have := (List.getElem?_eq_some_iff.1 hj).1; simpa using this
        obtain ⟨x', y', g1, g2, g3⟩ := hcell j hjl
        rw [List.getElem?_map, List.getElem?_range hjl] at hj
        simp only [Option.map_some, Option.some.injEq] at hj
        subst hj
        simp only [g2, Option.getD_some, Addr.add_mid]
        exact h.imm _ _ _ g2
  · rename_i b ver len
    cases ho : H[b]? with
    | none => simp [ho] at k
    | some ob =>
      cases ob <;> simp only [ho] at k
      case arr ver' sz' xs esc =>
        obtain ⟨rfl, rfl, hlen, hcells, k⟩ := k
        simp only [Rel] at hy
        obtain ⟨_, p, hp, _, _, hy⟩ := hy
        obtain ⟨_, hver, _, _, hcap, vs, tt, hb, hvl, hv⟩ := h.obj b _ p ho hp
        obtain ⟨_, rfl⟩ := hy hver
        have hl2 : (xs.take len).length = len := by simp; omega
        have hfl := (hv.take len).flat (by rw [hl2, hvl]; exact Nat.mul_le_mul_right _ (by omega))
        refine ⟨_, _, _, k, by rw [hl2], (hv.take len).len, .inr ⟨⟨p.blk, 0, none⟩, vs.take ((xs.take len).length * sz'), rfl, hfl, ?_, ?_⟩⟩
        · intro v hv'
          obtain ⟨i, hi⟩ := List.mem_iff_getElem?.1 hv'
          have hil : i < (xs.take len).flatten.length := by rw [← hfl.length]; exact (List.getElem?_eq_some_iff.1 hi).1
          obtain ⟨y', g1, g2⟩ := hfl.get i _ (List.getElem?_eq_getElem hil)
          rw [hi] at g1; cases g1
          refine g2.one ?_
          obtain ⟨q, hq1, hq2⟩ := List.mem_flatten.1 (List.getElem_mem hil)
          exact List.all_eq_true.1 (List.all_eq_true.1 hcells q hq1) _ hq2
        · intro j u hj
          rw [List.getElem?_take] at hj
          split at hj
          · rw [Addr.add_mid, Nat.zero_add, cell?_block hb]; exact hj
          · simp at hj
      all_goals exact k.elim
  · exact k.elim

def aAppend (P : Program) (t t2 : TypeId) (s x : D) (H : List Ob) (K : D → List Ob → Prop) : Prop :=
  t = t2 ∧ (match tk P t with
  | .sl e esz bytes => (match zerosB P e with
    | none => False
    | some z => z.length = esz ∧ aSrc x H esz fun rows =>
      match s with
      | .nils => (rows = [] → K .nils H) ∧ (rows ≠ [] → rows.length * bytes ≤ 140737488355328 ∧ rows.length ≤ 9223372036854775807 ∧ K (.own H.length 1 rows.length) (H ++ [.arr 1 esz rows 0]))
      | .own b ver len => (match H[b]? with
        | some (.arr ver' sz xs esc) => ver' = ver ∧ sz = esz ∧ len ≤ xs.length ∧ esc ≤ len ∧ (len + rows.length) * bytes ≤ 140737488355328 ∧ len + rows.length ≤ 9223372036854775807 ∧
            K (.own b (ver + 1) (len + rows.length)) (H.set b (.arr (ver + 1) esz (xs.take len ++ rows) esc))
        | _ => False)
      | _ => False)
  | _ => False)

theorem size_zeros (z : Array Value) (n : Nat) : (Builtin.zeroCells z n).size = n * z.size := by simp [Builtin.zeroCells]

theorem aAppend_sound {E : Env} {M : Mem} {μ : Mu} {H : List Ob} {w : World} (h : R E M μ H w) {t t2 ty : TypeId} {s x : D} {sv xv : Value} (hs : Rel M μ s sv) (hx : Rel M μ x xv) {K : D → List Ob → Prop} (k : aAppend E.P t t2 s x H K) :
    Ok E M μ (Builtin.append_ #[t, t2] ty #[sv, xv]) w K := by
  unfold aAppend at k
  obtain ⟨rfl, k⟩ := k
  cases ht : tk E.P t <;> simp only [ht] at k
  case sl e esz bytes =>
    obtain ⟨i, hu, hi, hsz, hby⟩ := tk_sl ht
    cases hz : zerosB E.P e with
    | none => simp [hz] at k
    | some z =>
      simp only [hz] at k
      obtain ⟨hzl, k⟩ := k
      obtain ⟨zv, _, rfl, i', hi', hiz⟩ := zerosB_spec hz
      rw [hi] at hi'; cases hi'
      have hzs : zv.cells.size = esz := by simpa using hzl
      obtain ⟨rows, A, c, k, rfl, hrows, hsrc⟩ := aSrc_sound h hx k
      cases s with
      | nils =>
        dsimp only at k
        simp only [Rel] at hs
        subst hs
        by_cases he : rows = []
        · subst he
          refine ⟨.slice none 0 0, w, .nils, M, μ, H, ?_, .refl _, .refl _, h, by simp only [Rel], k.1 rfl⟩
          cases A with
          | none => simp [Builtin.append_, run_underlying hu, sizeOf, typeInfo, hi, Builtin.lenOf, Builtin.firstCells]
          | some a => simp [Builtin.append_, run_underlying hu, sizeOf, typeInfo, hi, Builtin.lenOf, Builtin.firstCells, loadCells, loadCellsFrom]
        · obtain ⟨hb1, hb2, k⟩ := k.2 he
          rcases hsrc with hsrc | ⟨a, news, rfl, hrel, hone, hcell⟩
          · exact absurd hsrc he
          have hn0 : 0 < rows.length := List.length_pos_iff.2 he
          have hnl : news.length = rows.length * esz := by rw [hrel.length, flatten_len hrows]
          have hrun := run_append_nil (P := E.P) w t ty e i zv hu hi hiz a rows.length c news (by rw [hsz]; exact hnl) hcell hn0 (by omega) (by rw [hby]; omega)
          have hge := grownCap_ge w rows.length 0 e
          generalize grownCap w rows.length 0 e = cap at hrun hge
          have harr : (news.toArray ++ Builtin.zeroCells zv.cells (cap - rows.length)) = (news ++ (Builtin.zeroCells zv.cells (cap - rows.length)).toList).toArray := by
            apply Array.toList_inj.1; simp
          rw [harr] at hrun
          have hvl : (news ++ (Builtin.zeroCells zv.cells (cap - rows.length)).toList).length = cap * esz := by
            rw [List.length_append, show (Builtin.zeroCells zv.cells (cap - rows.length)).toList.length = _ from Array.length_toList, size_zeros, hnl, hzs, ← Nat.add_mul]
            congr 1; omega
          obtain ⟨μ', g1, g2, g3⟩ := h.drew.newArr (xs := rows) (cap := cap) hrows hvl hge (by rw [← hnl, List.take_left]; exact hrel) e
          exact ⟨_, _, _, M, μ', _, hrun, .refl _, g1, g2, g3 _ hge, k⟩
      | own b ver len =>
        dsimp only at k
        cases ho : H[b]? with
        | none => simp [ho] at k
        | some ob =>
          cases ob <;> simp only [ho] at k
          case arr ver' sz2 xs esc =>
            obtain ⟨rfl, rfl, hlen, hesc, hb1, hb2, k⟩ := k
            simp only [Rel] at hs
            obtain ⟨_, p, hp, _, hv1, hs⟩ := hs
            obtain ⟨hbase, hver, hv1', himm, hcap, vs, tt, hb, hvl, hv⟩ := h.obj b _ p ho hp
            obtain ⟨hlc, rfl⟩ := hs hver
            have hlen2 : (xs.take len).length = len := by simp; omega
            have hlenv : len * sz2 ≤ vs.length := by rw [hvl]; exact Nat.mul_le_mul_right _ hlc
            have hold : RelL M μ (xs.take len).flatten (vs.take (len * sz2)) := by
              have := (hv.take len).flat (by rw [hlen2]; exact hlenv)
              rwa [hlen2] at this
            obtain ⟨news, hnl, hrel, hone, hcell⟩ : ∃ news : List Value, news.length = rows.length * sz2 ∧ RelL M μ rows.flatten news ∧ (∀ v ∈ news, v.oneCell' = true) ∧ (rows ≠ [] → ∃ a, A = some a ∧ ∀ j u, news[j]? = some u → w.cell? (a.add j) = some u) := by
              rcases hsrc with rfl | ⟨a, news, rfl, hrel, hone, hcell⟩
              · exact ⟨[], by simp, by simp [RelL], by simp, fun h => absurd rfl h⟩
              · exact ⟨news, by rw [hrel.length, flatten_len hrows], hrel, hone, fun _ => ⟨a, rfl, hcell⟩⟩
            have hrows2 : ∀ r ∈ xs.take len ++ rows, r.length = sz2 := fun r hr => by
              rcases List.mem_append.1 hr with hr | hr
              · exact hv.len r (List.mem_of_mem_take hr)
              · exact hrows r hr
            by_cases hroom : len + rows.length ≤ p.cap
            · -- there is room
              have hfit : len * sz2 + news.length ≤ vs.length := by rw [hnl, hvl, ← Nat.add_mul]; exact Nat.mul_le_mul_right _ hroom
              have hst := run_storeCells_at E.P p.blk (len * sz2) tt news 0 vs.toArray w hb (by simpa using hfit) hone
              simp only [Nat.add_zero, List.toList_toArray] at hst
              have hrun : (Builtin.append_ #[t, t] ty #[.slice (some ⟨p.blk, 0, none⟩) len p.cap, .slice A rows.length c]).run E.P w =
                  .ok (.slice (some ⟨p.blk, 0, none⟩) (len + rows.length) p.cap) (w.setRow p.blk (vs.take (len * sz2) ++ news ++ vs.drop (len * sz2 + news.length)).toArray) := by
                have hfc : (Builtin.firstCells i.size rows.length (.slice A rows.length c)).run E.P w = .ok news.toArray w := by
                  by_cases he : rows = []
                  · subst he
                    have : news = [] := List.eq_nil_of_length_eq_zero (by simpa using hnl)
                    subst this
                    cases A with
                    | none => simp [Builtin.firstCells]
                    | some a => simp [Builtin.firstCells, loadCells, loadCellsFrom]
                  · obtain ⟨a, rfl, hc⟩ := hcell he
                    exact run_firstCells_some (P := E.P) w i.size rows.length a rows.length c news (by rw [hsz]; exact hnl) hc
                rw [hsz] at hfc
                simp [Builtin.append_, run_underlying hu, sizeOf, typeInfo, hi, Builtin.lenOf, hroom, hsz, hfc, Addr.add_mid, hst]
              have hspl := splice_length vs news (len * sz2) hfit
              have hspg := splice_get vs news (len * sz2) hfit
              refine ⟨_, _, _, M, upd μ b ⟨p.blk, p.cap, ver' + 1⟩, _, hrun, .refl _, Mu.le_upd_ver hp (by rw [hver]; exact Nat.lt_succ_self _) (by omega), ?_, ?_, k⟩
              · refine h.setBump ho (by simp) hp rfl (by rw [hver]; exact Nat.lt_succ_self _) (by omega) rfl rfl rfl (by simp) (fun k hk => setRow_other w _ k _ hk) (fun o y hM => ?_) ?_
                · rw [cell?_block (setRow_heap w _ _ _ tt _ hb), hspg]
                  have h1 := himm o y hM
                  have h2 : esc * sz2 ≤ len * sz2 := Nat.mul_le_mul_right _ hesc
                  rw [if_pos (by omega)]
                  have := h.imm _ _ _ hM
                  rwa [cell?_block hb] at this
                · refine ⟨hbase, rfl, by omega, himm, by simp; omega, _, tt, setRow_heap w _ _ _ tt _ hb, by rw [hspl]; exact hvl, Rows.of_flat hrows2 ⟨_, rfl, ?_⟩⟩
                  rw [List.flatten_append]
                  have e1 : (xs.take len ++ rows).length * sz2 = (vs.take (len * sz2) ++ news).length := by
                    simp only [List.length_append, List.length_take, hnl, Nat.add_mul]
                    rw [Nat.min_eq_left hlen, Nat.min_eq_left hlenv]
                  rw [e1, List.take_left]
                  exact RelL.mono (.refl _) (Mu.le_upd_ver hp (by rw [hver]; exact Nat.lt_succ_self _) (by omega)) (hold.append hrel)
              · simp only [Rel]
                exact ⟨⟨_, _, _, rfl⟩, _, upd_self _ _ _, Nat.le_refl _, by omega, fun _ => ⟨hroom, rfl⟩⟩
            · -- it is laid anew
              have hne : rows ≠ [] := fun e => by subst e; simp at hroom; omega
              obtain ⟨a, rfl, hcell2⟩ := hcell hne
              have hol : (vs.take (len * sz2)).length = len * i.size := by rw [hsz]; simp; omega
              have holds : ∀ j v, (vs.take (len * sz2))[j]? = some v → w.cell? ((⟨p.blk, 0, none⟩ : Addr).add j) = some v := fun j v hj => by
                rw [List.getElem?_take] at hj
                split at hj
                · rw [Addr.add_mid, Nat.zero_add, cell?_block hb]; exact hj
                · simp at hj
              have hrun := run_append_grow (P := E.P) w t ty e i zv hu hi hiz ⟨p.blk, 0, none⟩ len p.cap _ hol holds a rows.length c news (by rw [hsz]; exact hnl) hcell2 (by omega) (by omega) (growslice_fits (by omega) (by rw [hby]; exact hb1))
              have hge := grownCap_ge w (len + rows.length) p.cap e
              generalize grownCap w (len + rows.length) p.cap e = cap at hrun hge
              have harr : ((vs.take (len * sz2)).toArray ++ news.toArray ++ Builtin.zeroCells zv.cells (cap - (len + rows.length))) = ((vs.take (len * sz2) ++ news) ++ (Builtin.zeroCells zv.cells (cap - (len + rows.length))).toList).toArray := by
                apply Array.toList_inj.1; simp
              rw [harr] at hrun
              have e0 : (vs.take (len * sz2) ++ news).length = (len + rows.length) * sz2 := by
                rw [List.length_append, hol, hsz, hnl, Nat.add_mul]
              have hvl' : ((vs.take (len * sz2) ++ news) ++ (Builtin.zeroCells zv.cells (cap - (len + rows.length))).toList).length = cap * sz2 := by
                rw [List.length_append, show (Builtin.zeroCells zv.cells (cap - (len + rows.length))).toList.length = _ from Array.length_toList, size_zeros, e0, hzs, ← Nat.add_mul]
                congr 1; omega
              have hle : μ.le (upd μ b ⟨w.heap.size, cap, ver' + 1⟩) := Mu.le_upd_ver hp (by rw [hver]; exact Nat.lt_succ_self _) (by omega)
              refine ⟨_, _, _, M, upd μ b ⟨w.heap.size, cap, ver' + 1⟩, _, hrun, .refl _, hle, ?_, ?_, k⟩
              · refine h.drew.relay ho (by simp) hp rfl (by rw [hver]; exact Nat.lt_succ_self _) (by omega) ?_
                refine ⟨h.below.size, rfl, by omega, fun o y hM => (by have := h.imm_new o; rw [this] at hM; cases hM), by simp; omega, _, e, heap_alloc_new w.drew _, hvl', Rows.of_flat hrows2 ⟨_, rfl, ?_⟩⟩
                rw [List.flatten_append]
                have e1 : (xs.take len ++ rows).length * sz2 = (vs.take (len * sz2) ++ news).length := by
                  rw [e0, List.length_append, hlen2]
                rw [e1, List.take_left]
                exact RelL.mono (.refl _) hle (hold.append hrel)
              · simp only [Rel]
                exact ⟨⟨_, _, _, rfl⟩, _, upd_self _ _ _, Nat.le_refl _, by omega, fun _ => ⟨hge, rfl⟩⟩
          all_goals exact k.elim
      | _ => exact k.elim
  all_goals exact k.elim

end Go.Ag
