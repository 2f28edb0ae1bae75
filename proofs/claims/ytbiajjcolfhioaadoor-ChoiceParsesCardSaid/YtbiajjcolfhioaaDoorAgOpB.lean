/- AgO, part 4: addresses, variables, aggregates. -/
import Derived.Test.YtbiajjcolfhioaaDoorAgOpA
set_option linter.all false
namespace Go.Ag
open Go Go.RowKit

/-! ### constants -/
def ofC : Value → D
  | .bool b => .v (.bool b)
  | .int k n => .v (.int k n)
  | .string s => .v (.str s.data.toList)
  | .pointer none => .nilp
  | .slice none 0 0 => .nils
  | .map none => .nilm
  | .nilFunc => .nilf
  | .nilIface => .v .nili
  | _ => .any
def ofConst : Value → D
  | .agg cs => .agg (cs.toList.map ofC)
  | .tuple cs => .tup (cs.toList.map ofC)
  | v => ofC v

theorem rel_ofC (M : Mem) (μ : Mu) (v : Value) : Rel M μ (ofC v) v := by
  unfold ofC
  split <;> simp only [Rel, RelV]
  all_goals rfl
theorem relL_ofC (M : Mem) (μ : Mu) : ∀ vs : List Value, RelL M μ (vs.map ofC) vs
  | [] => by simp only [List.map_nil, RelL]
  | v :: vs => by rw [List.map_cons, RelL.cons_iff]; exact ⟨rel_ofC M μ v, relL_ofC M μ vs⟩
theorem rel_ofConst (M : Mem) (μ : Mu) (v : Value) : Rel M μ (ofConst v) v := by
  unfold ofConst
  split
  · rename_i cs; simp only [Rel]; exact ⟨cs.toList, rfl, relL_ofC M μ _⟩
  · rename_i cs; simp only [Rel]; exact ⟨cs.toList, rfl, relL_ofC M μ _⟩
  · exact rel_ofC M μ _

/-- The cells of a type's zero. -/
def zerosB (P : Program) (t : TypeId) : Option (List D) := ((P.info? t).bind (·.zero)).bind fun v => some (v.cells.toList.map ofC)

theorem zerosB_spec {P : Program} {t : TypeId} {ds : List D} (h : zerosB P t = some ds) : ∃ z, (∀ w, (zeroValue t).run P w = .ok z w) ∧ ds = z.cells.toList.map ofC ∧ ∃ i, P.info? t = some i ∧ i.zero = some z := by
  unfold zerosB at h
  cases hi : P.info? t with
  | none => simp [hi] at h
  | some i =>
    cases hz : i.zero with
    | none => simp [hi, hz] at h
    | some z =>
      simp [hi, hz] at h
      exact ⟨z, fun w => by simp [zeroValue, typeInfo, hi, hz], h.symm, i, rfl, hz⟩

/-! ### a new variable -/
theorem R.newBox {E : Env} {M : Mem} {μ : Mu} {H : List Ob} {w : World} (h : R E M μ H w) {ds : List D} {vs : List Value} (hr : RelL M μ ds vs) (t : TypeId) :
    ∃ μ', μ.le μ' ∧ R E M μ' (H ++ [.box ds]) (w.alloc (.cells vs.toArray t)) ∧ Rel M μ' (.ptr H.length 0) (.pointer (some ⟨w.heap.size, 0, none⟩)) := by
  refine ⟨upd μ H.length ⟨w.heap.size, 0, 0⟩, Mu.le_upd_new h.mu_new, ?_, ?_⟩
  · refine h.push rfl ⟨h.below.size, rfl, fun o => h.imm_new o, vs, t, heap_alloc_new w _, RelL.mono (.refl _) (Mu.le_upd_new h.mu_new) hr⟩
  · simp only [Rel]; exact ⟨_, upd_self _ _ _, rfl, rfl⟩

def aAlloc (P : Program) (t : TypeId) (H : List Ob) (K : D → List Ob → Prop) : Prop :=
  match zerosB P t with
  | some ds => K (.ptr H.length 0) (H ++ [.box ds])
  | none => False
theorem aAlloc_sound {E : Env} {M : Mem} {μ : Mu} {H : List Ob} {w : World} (h : R E M μ H w) {t : TypeId} {K : D → List Ob → Prop} (k : aAlloc E.P t H K) :
    Ok E M μ (Instr.alloc t true (.tuple #[])) w K := by
  unfold aAlloc at k
  cases hz : zerosB E.P t with
  | none => simp [hz] at k
  | some ds =>
    simp only [hz] at k
    obtain ⟨z, hz1, rfl, _⟩ := zerosB_spec hz
    obtain ⟨μ', h1, h2, h3⟩ := h.newBox (relL_ofC M μ z.cells.toList) t
    refine ⟨_, _, _, M, μ', _, ?_, .refl _, h1, h2, h3, k⟩
    simp [Instr.alloc, hz1, newVar, newRow]

def aBox (d : D) (H : List Ob) (K : D → List Ob → Prop) : Prop :=
  match d.cs with
  | some ds => K (.ptr H.length 0) (H ++ [.box ds])
  | none => False
theorem aBox_sound {E : Env} {M : Mem} {μ : Mu} {H : List Ob} {w : World} (h : R E M μ H w) {t : TypeId} {d : D} {y : Value} (hy : Rel M μ d y) {K : D → List Ob → Prop} (k : aBox d H K) :
    Ok E M μ (Instr.box t y) w K := by
  unfold aBox at k
  cases hc : d.cs with
  | none => simp [hc] at k
  | some ds =>
    simp only [hc] at k
    obtain ⟨μ', h1, h2, h3⟩ := h.newBox (hy.cells hc).1 t
    refine ⟨_, _, _, M, μ', _, ?_, .refl _, h1, h2, h3, k⟩
    simp [Instr.box, newVar, newRow]

/-! ### store -/
def aStore (P : Program) (t : TypeId) (d x : D) (H : List Ob) (K : List Ob → Prop) : Prop :=
  match x.cs with
  | none => False
  | some ds => tk P t ≠ .no ∧ ds.length = szB P t ∧ (match d with
    | .ptr b off => (match H[b]? with
      | some (.box cs) => off + ds.length ≤ cs.length ∧ K (H.set b (.box (cs.take off ++ ds ++ cs.drop (off + ds.length))))
      | _ => False)
    | .eptr b ver sz i off => (match H[b]? with
      | some (.arr ver' sz2 xs esc) => ver' = ver ∧ sz2 = sz ∧ esc ≤ i ∧ (match xs[i]? with
        | some x => off + ds.length ≤ x.length ∧ K (H.set b (.arr ver' sz2 (xs.set i (x.take off ++ ds ++ x.drop (off + ds.length))) esc))
        | none => False)
      | _ => False)
    | _ => False)

theorem run_storeAt_block {P : Program} {t tt : TypeId} {w : World} {b off : Nat} {vs : List Value} {y : Value} (h0 : tk P t ≠ .no) (hb : w.heap[b]? = some (.cells vs.toArray tt (0, 0)))
    (hl : y.cells.size = szB P t) (h1 : ∀ x ∈ y.cells.toList, x.oneCell' = true) (hfit : off + y.cells.size ≤ vs.length) :
    (Instr.storeAt t (.pointer (some ⟨b, off, none⟩)) y).run P w = .ok () (w.setRow b (vs.take off ++ y.cells.toList ++ vs.drop (off + y.cells.size)).toArray) := by
  have hi : ∃ i, P.info? t = some i := by
    unfold tk at h0
    cases hi : P.info? t with
    | some i => exact ⟨i, rfl⟩
    | none => simp only [hi] at h0; cases hu : P.underlying t with
      | none => simp [hu] at h0
      | some d => simp only [hu] at h0; cases d <;> simp at h0
  obtain ⟨i, hi⟩ := hi
  have hs : szB P t = i.size := by simp [szB, hi]
  have hst := run_storeCells_at P b off tt y.cells.toList 0 vs.toArray w hb (by simpa using hfit) h1
  simp only [Nat.add_zero, List.toList_toArray, Array.length_toList] at hst
  simp [Instr.storeAt, Instr.sureAddr, storeVar, sizeOf, typeInfo, hi, hl, hs, hst]

theorem splice_get {α : Type} (l m : List α) (off : Nat) (h : off + m.length ≤ l.length) (j : Nat) : (l.take off ++ m ++ l.drop (off + m.length))[j]? = if j < off then l[j]? else if j < off + m.length then m[j - off]? else l[j]? := by
  have h1 : (l.take off).length = off := by simp; omega
  by_cases hj : j < off
  · rw [if_pos hj, List.append_assoc, List.getElem?_append_left (by omega), List.getElem?_take, if_pos hj]
  · rw [if_neg hj]
    by_cases hk : j < off + m.length
    · rw [if_pos hk, List.append_assoc, List.getElem?_append_right (by omega), h1, List.getElem?_append_left (by omega)]
    · rw [if_neg hk, List.append_assoc, List.getElem?_append_right (by omega), h1, List.getElem?_append_right (by omega), List.getElem?_drop]
      congr 1; omega
theorem splice_length {α : Type} (l m : List α) (off : Nat) (h : off + m.length ≤ l.length) : (l.take off ++ m ++ l.drop (off + m.length)).length = l.length := by
  simp; omega
theorem RelL.splice {M : Mem} {μ : Mu} {ds es : List D} {ys zs : List Value} (h : RelL M μ ds ys) (k : RelL M μ es zs) (off : Nat) : RelL M μ (ds.take off ++ es ++ ds.drop (off + es.length)) (ys.take off ++ zs ++ ys.drop (off + zs.length)) := by
  rw [k.length]
  exact ((h.take off).append k).append (h.drop _)

theorem aStore_sound {E : Env} {M : Mem} {μ : Mu} {H : List Ob} {w : World} (h : R E M μ H w) {t : TypeId} {d x : D} {y z : Value} (hy : Rel M μ d y) (hz : Rel M μ x z) {K : List Ob → Prop} (k : aStore E.P t d x H K) :
    ∃ w' H', (Instr.storeAt t y z).run E.P w = .ok () w' ∧ R E M μ H' w' ∧ K H' := by
  unfold aStore at k
  cases hc : x.cs with
  | none => simp [hc] at k
  | some ds =>
    simp only [hc] at k
    obtain ⟨h0, hsz, k⟩ := k
    obtain ⟨hrz, hone⟩ := hz.cells hc
    have hzl : z.cells.size = ds.length := by simpa using hrz.length
    cases d <;> simp only [] at k
    case ptr b off =>
      simp only [Rel] at hy
      obtain ⟨p, hp, hver, rfl⟩ := hy
      cases ho : H[b]? with
      | none => simp [ho] at k
      | some ob =>
        cases ob <;> simp only [ho] at k
        case box cs =>
          obtain ⟨hfit, k⟩ := k
          obtain ⟨h1, h2, h3, vs, tt, hb, hv⟩ := h.obj b _ p ho hp
          have hvl := hv.length
          have hrun := run_storeAt_block h0 hb (by rw [hzl, hsz]) hone (by rw [hzl, hvl]; exact hfit)
          refine ⟨_, _, hrun, h.setOb ho (by simp) hp rfl rfl rfl (by simp) (fun k hk => setRow_other w _ k _ hk) (fun o y hM => by rw [h3] at hM; cases hM) ?_, k⟩
          refine ⟨h1, h2, h3, _, tt, setRow_heap w _ _ _ tt _ hb, ?_⟩
          have := hv.splice hrz off
          rw [show z.cells.size = z.cells.toList.length from by simp]
          exact this
        all_goals exact k.elim
    case eptr b ver sz i off =>
      simp only [Rel] at hy
      obtain ⟨_, p, hp, _, _, hy⟩ := hy
      cases ho : H[b]? with
      | none => simp [ho] at k
      | some ob =>
        cases ob <;> simp only [ho] at k
        case arr ver' sz2 xs esc =>
          obtain ⟨rfl, rfl, hesc, k⟩ := k
          obtain ⟨h1, hver, hv1, himm, hcap, vs, tt, hb, hvl, hv⟩ := h.obj b _ p ho hp
          have hy := hy hver
          subst hy
          cases hx : xs[i]? with
          | none => simp [hx] at k
          | some x0 =>
            simp only [hx] at k
            obtain ⟨hfit, k⟩ := k
            obtain ⟨hxl, hr⟩ := hv i x0 hx
            have hil : i < xs.length := (List.getElem?_eq_some_iff.1 hx).1
            have hmul : (i + 1) * sz2 ≤ p.cap * sz2 := Nat.mul_le_mul_right _ (by omega)
            rw [Nat.add_mul, Nat.one_mul] at hmul
            have hfit2 : i * sz2 + off + z.cells.size ≤ vs.length := by rw [hzl, hvl]; omega
            have hrun := run_storeAt_block h0 hb (by rw [hzl, hsz]) hone hfit2
            have hsplen := splice_length vs z.cells.toList (i * sz2 + off) (by simpa using hfit2)
            have hspget := splice_get vs z.cells.toList (i * sz2 + off) (by simpa using hfit2)
            rw [show z.cells.toList.length = z.cells.size from by simp] at hsplen hspget
            refine ⟨_, _, hrun, h.setOb ho (by simp) hp rfl rfl rfl (by simp) (fun k hk => setRow_other w _ k _ hk) (fun o y hM => ?_) ?_, k⟩
            · rw [cell?_block (setRow_heap w _ _ _ tt _ hb), hspget]
              have ho1 := himm o y hM
              have hle : esc * sz2 ≤ i * sz2 := Nat.mul_le_mul_right _ hesc
              rw [if_pos (by omega)]
              have := h.imm _ _ _ hM
              rwa [cell?_block hb] at this
            · refine ⟨h1, hver, hv1, himm, by simpa using hcap, _, tt, setRow_heap w _ _ _ tt _ hb, by rw [hsplen]; exact hvl, fun j x hj => ?_⟩
              have hjl : j < xs.length := by have := (List.getElem?_eq_some_iff.1 hj).1; simpa using this
              by_cases e : j = i
              · subst e
                rw [List.getElem?_set_self hjl] at hj; cases hj
                refine ⟨by simp; omega, ?_⟩
                have hsp := hr.splice hrz off
                refine RelL.of_get ?_ fun q d' y' hq1 hq2 => ?_
                · simp; omega
                obtain ⟨y2, g1, g2⟩ := hsp.get q d' hq1
                have hrl : ((vs.drop (j * sz2)).take sz2).length = sz2 := by simp; omega
                have hq3 := splice_get ((vs.drop (j * sz2)).take sz2) z.cells.toList off (by simp; omega) q
                rw [g1] at hq3
                rw [List.getElem?_take] at hq2
                split at hq2
                · rename_i hqs
                  rw [List.getElem?_drop, hspget] at hq2
                  rw [show z.cells.toList.length = z.cells.size from by simp] at hq3
                  have : some y2 = some y' := by
                    rw [hq3, ← hq2]
                    by_cases c1 : q < off
                    · rw [if_pos c1, if_pos (by omega), List.getElem?_take, if_pos hqs, List.getElem?_drop]
                    · rw [if_neg c1, if_neg (show ¬ (j * sz2 + q < j * sz2 + off) from by omega)]
                      by_cases c2 : q < off + z.cells.size
                      · rw [if_pos c2, if_pos (by omega)]; congr 1; omega
                      · rw [if_neg c2, if_neg (by omega), List.getElem?_take, if_pos hqs, List.getElem?_drop]
                  cases this; exact g2
                · simp at hq2
              · rw [List.getElem?_set_ne (fun x => e x.symm)] at hj
                obtain ⟨g1, g2⟩ := hv j x hj
                refine ⟨g1, RelL.of_get ?_ fun q d' y' hq1 hq2 => ?_⟩
                · have := g2.length; simp at this ⊢; omega
                obtain ⟨y2, k1, k2⟩ := g2.get q d' hq1
                rw [List.getElem?_take] at hq2 k1
                split at hq2
                · rename_i hqs
                  rw [if_pos hqs] at k1
                  rw [List.getElem?_drop, hspget] at hq2
                  rw [List.getElem?_drop] at k1
                  have hne : j < i ∨ i < j := by omega
                  have : some y2 = some y' := by
                    rw [← k1, ← hq2]
                    rcases hne with hne | hne
                    · have : (j + 1) * sz2 ≤ i * sz2 := Nat.mul_le_mul_right _ hne
                      rw [Nat.add_mul, Nat.one_mul] at this
                      rw [if_pos (by omega)]
                    · have : (i + 1) * sz2 ≤ j * sz2 := Nat.mul_le_mul_right _ hne
                      rw [Nat.add_mul, Nat.one_mul] at this
                      rw [if_neg (by omega), if_neg (by omega)]
                  cases this; exact k2
                · simp at hq2
        all_goals exact k.elim
    all_goals exact k.elim

/-! ### addresses -/
def aFieldAddr (P : Program) (s : TypeId) (d : D) (f : Nat) (H : List Ob) (K : D → Prop) : Prop :=
  match tk P s with
  | .st _ fs => (match fs[f]? with
    | some (off, fsz) => fsz ≠ 0 ∧ (match d with
      | .ptr b o => K (.ptr b (o + off))
      | .rptr cs => K (.rptr (cs.drop off))
      | .eptr b v sz i o => (match H[b]? with
        | some (.arr ver' _ _ _) => ver' = v ∧ K (.eptr b v sz i (o + off))
        | _ => False)
      | _ => False)
    | none => False)
  | _ => False

theorem tk_st {P : Program} {t : TypeId} {sz : Nat} {fs : List (Nat × Nat)} (h : tk P t = .st sz fs) : ∃ fields i, P.underlying t = some (.struct fields) ∧ P.info? t = some i ∧ i.size = sz ∧ fs = fields.toList.map fun f => (f.offset, szB P f.type) := by
  unfold tk at h
  cases hu : P.underlying t with
  | none => simp [hu] at h
  | some d =>
    cases hi : P.info? t with
    | none => simp only [hu, hi] at h; cases d <;> simp at h
    | some i =>
      simp only [hu, hi] at h
      cases d <;> simp only [TK.st.injEq, reduceCtorEq] at h
      case slice e => split at h <;> simp at h
      case struct fields => exact ⟨fields, i, rfl, rfl, h.1, h.2.symm⟩
theorem tk_ar {P : Program} {t : TypeId} {n esz sz : Nat} (h : tk P t = .ar n esz sz) : ∃ e i, P.underlying t = some (.array n e) ∧ P.info? t = some i ∧ i.size = sz ∧ esz = szB P e := by
  unfold tk at h
  cases hu : P.underlying t with
  | none => simp [hu] at h
  | some d =>
    cases hi : P.info? t with
    | none => simp only [hu, hi] at h; cases d <;> simp at h
    | some i =>
      simp only [hu, hi] at h
      cases d <;> simp only [TK.ar.injEq, reduceCtorEq] at h
      case slice e => split at h <;> simp at h
      case array k e => obtain ⟨rfl, h2, h3⟩ := h; exact ⟨e, i, rfl, rfl, h3, h2.symm⟩
theorem tk_sl {P : Program} {t : TypeId} {e esz bytes : Nat} (h : tk P t = .sl e esz bytes) : ∃ j, P.underlying t = some (.slice e) ∧ P.info? e = some j ∧ j.size = esz ∧ j.bytes = bytes := by
  unfold tk at h
  cases hu : P.underlying t with
  | none => simp [hu] at h
  | some d =>
    cases hi : P.info? t with
    | none => simp only [hu, hi] at h; cases d <;> simp at h
    | some i =>
      simp only [hu, hi] at h
      cases d <;> simp only [TK.sl.injEq, reduceCtorEq] at h
      case slice e' =>
        cases hj : P.info? e' with
        | none => simp [hj] at h
        | some j => simp only [hj, TK.sl.injEq] at h; obtain ⟨rfl, h2, h3⟩ := h; exact ⟨j, rfl, hj, h2, h3⟩
theorem run_sizeOf' {P : Program} {t : TypeId} {n : Nat} (h : szB P t = n) (hn : n ≠ 0) (w : World) : (sizeOf t).run P w = .ok n w := by
  unfold szB at h
  cases hi : P.info? t with
  | none => simp [hi] at h; omega
  | some i => simp [hi] at h; subst h; simp [sizeOf, typeInfo, hi]

theorem aFieldAddr_sound {E : Env} {M : Mem} {μ : Mu} {H : List Ob} {w : World} (h : R E M μ H w) {s : TypeId} {d : D} {f : Nat} {y : Value} (hy : Rel M μ d y) {K : D → Prop} (k : aFieldAddr E.P s d f H K) :
    ∃ v d', (Instr.fieldAt s y f).run E.P w = .ok v w ∧ Rel M μ d' v ∧ K d' := by
  unfold aFieldAddr at k
  cases ht : tk E.P s <;> simp only [ht] at k
  case st sz fs =>
    obtain ⟨fields, i, hu, hi, _, rfl⟩ := tk_st ht
    cases hf : fields[f]? with
    | none => simp [hf] at k
    | some fd =>
      simp [hf] at k
      obtain ⟨hnz, k⟩ := k
      have hrun : ∀ b o, (Instr.fieldAt s (.pointer (some ⟨b, o, none⟩)) f).run E.P w = .ok (.pointer (some ⟨b, o + fd.offset, none⟩)) w := fun b o => by
        simp [Instr.fieldAt, run_underlying hu, hf, Instr.sureAddr, fieldPlace, run_sizeOf' rfl hnz, hnz, Addr.add_mid]
      cases d <;> simp only [] at k
      case ptr b o =>
        simp only [Rel] at hy
        obtain ⟨p, hp, hv, rfl⟩ := hy
        exact ⟨_, _, hrun _ _, by simp only [Rel]; exact ⟨p, hp, hv, rfl⟩, k⟩
      case rptr cs =>
        simp only [Rel] at hy
        obtain ⟨b, o, rfl, hr⟩ := hy
        exact ⟨_, _, hrun _ _, by simp only [Rel]; exact ⟨b, _, rfl, hr.drop _⟩, k⟩
      case eptr b v sz' i' o =>
        simp only [Rel] at hy
        obtain ⟨⟨A, hA⟩, p, hp, hv, hv1, hy⟩ := hy
        cases ho : H[b]? with
        | none => simp [ho] at k
        | some ob =>
          cases ob <;> simp only [ho] at k
          case arr ver' sz2 xs esc =>
            obtain ⟨rfl, k⟩ := k
            have hy := hy (h.obj b _ p ho hp).2.1
            subst hy
            exact ⟨_, _, hrun _ _, by simp only [Rel]; exact ⟨⟨_, rfl⟩, p, hp, hv, hv1, fun _ => by rw [Nat.add_assoc]⟩, k⟩
          all_goals exact k.elim
      all_goals exact k.elim
  all_goals exact k.elim

end Go.Ag
