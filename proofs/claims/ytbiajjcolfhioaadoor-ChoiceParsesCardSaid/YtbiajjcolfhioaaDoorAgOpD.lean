/- AGo, part 6: arithmetic and comparisons. -/
import Derived.Test.YtbiajjcolfhioaaDoorAgOpC
import Derived.Laws.StructEq
import Derived.Laws.Concat
set_option linter.all false
namespace Go.Ag
open Go Go.RowKit

/-! ### cells that can be compared -/
inductive CK where
  | s | i (k : IntKind) | b
  deriving DecidableEq

def ckFields (P : Program) (g : TypeId → Option (List CK)) : List Field → Nat → Option (List CK)
  | [], _ => some []
  | f :: fs, off =>
    if f.name = "_" ∨ f.offset ≠ off then none
    else match g f.type with
      | none => none
      | some ks => if szB P f.type = ks.length then (ckFields P g fs (off + ks.length)).map (ks ++ ·) else none
def ckOf (P : Program) : Nat → TypeId → Option (List CK)
  | 0, _ => none
  | n + 1, t => match P.underlying t with
    | some .string => some [.s]
    | some (.int k) => some [.i k]
    | some .bool => some [.b]
    | some (.struct fs) => if P.stoodInHeld t then none else ckFields P (ckOf P n) fs.toList 0
    | _ => none

def fits : List CK → List V → Bool
  | [], [] => true
  | .s :: ks, .str _ :: xs => fits ks xs
  | .i k :: ks, .int k' _ :: xs => k == k' && fits ks xs
  | .b :: ks, .bool _ :: xs => fits ks xs
  | _, _ => false
def eqV : V → V → Bool
  | .str a, .str b => a == b
  | .int _ a, .int _ b => a == b
  | .bool a, .bool b => a == b
  | _, _ => false
def eqVs : List V → List V → Bool
  | [], [] => true
  | x :: xs, y :: ys => eqV x y && eqVs xs ys
  | _, _ => false
def valOf : V → Value
  | .str s => .string ⟨s.toArray⟩
  | .int k n => .int k n
  | .bool b => .bool b
  | _ => undef

theorem fits_length : ∀ {ks : List CK} {xs : List V}, fits ks xs = true → xs.length = ks.length
  | [], [], _ => rfl
  | [], _ :: _, h => by simp [fits] at h
  | k :: ks, [], h => by cases k <;> simp [fits] at h
  | k :: ks, x :: xs, h => by
    cases k <;> cases x <;> simp [fits] at h
    all_goals simp [fits_length (ks := ks) (xs := xs) (by simp_all)]
theorem fits_append : ∀ {ks ls : List CK} {xs : List V}, fits (ks ++ ls) xs = true → fits ks (xs.take ks.length) = true ∧ fits ls (xs.drop ks.length) = true
  | [], _, _, h => by simpa [fits] using h
  | k :: ks, ls, [], h => by cases k <;> simp [fits] at h
  | k :: ks, ls, x :: xs, h => by
    cases k <;> cases x <;> simp [fits] at h ⊢
    · exact fits_append h
    · exact ⟨⟨h.1, (fits_append h.2).1⟩, (fits_append h.2).2⟩
    · exact fits_append h
theorem eqVs_append : ∀ {a b c d : List V}, a.length = c.length → eqVs (a ++ b) (c ++ d) = (eqVs a c && eqVs b d)
  | [], b, [], d, _ => by simp [eqVs]
  | x :: a, b, y :: c, d, h => by simp only [List.cons_append, eqVs]; rw [eqVs_append (by simpa using h), Bool.and_assoc]
theorem beq_list (a b : List UInt8) : ((⟨a.toArray⟩ : ByteArray) == ⟨b.toArray⟩) = (a == b) := by
  show ((a.toArray : Array UInt8) == b.toArray) = (a == b)
  simp

theorem isAgg_run {P : Program} {t : TypeId} {d : TypeDesc} (hu : P.underlying t = some d) (w : World) : (isAgg t).run P w = .ok d.isRow w := by
  unfold isAgg
  rw [Sem.run_bind, run_underlying hu w]
  cases d <;> simp

/-- A value of a type, from its cells. -/
def mkV (P : Program) (t : TypeId) (vs : List Value) : Value :=
  match P.underlying t with
  | some (.struct _) => .agg vs.toArray
  | _ => vs.headD undef

theorem eqFields_ck {P : Program} {w : World} {n d : Nat} (ih : ∀ (t : TypeId) (ks : List CK) (xs ys : List V), ckOf P n t = some ks → fits ks xs = true → fits ks ys = true →
      (Op.equalIn d t (mkV P t (xs.map valOf)) (mkV P t (ys.map valOf))).run P w = .ok (eqVs xs ys) w)
    (hsz : ∀ (t : TypeId) (ks : List CK), ckOf P n t = some ks → ∃ dd, P.underlying t = some dd ∧ (dd.isRow = false → ks.length = 1 ∧ ∀ l, mkV P t l = l.headD undef) ∧ (dd.isRow = true → ∀ l, mkV P t l = .agg l.toArray)) :
    ∀ (fs : List Field) (off : Nat) (ks : List CK) (px py xs ys : List V), ckFields P (ckOf P n) fs off = some ks → px.length = off → py.length = off → fits ks xs = true → fits ks ys = true →
      (Op.eqFields d ((px ++ xs).map valOf).toArray ((py ++ ys).map valOf).toArray fs).run P w = .ok (eqVs xs ys) w
  | [], off, ks, px, py, xs, ys, h, hx, hy, fx, fy => by
    simp [ckFields] at h; subst h
    cases xs <;> cases ys <;> simp [fits] at fx fy
    simp [Op.eqFields, eqVs]
  | f :: fs, off, ks, px, py, xs, ys, h, hx, hy, fx, fy => by
    simp only [ckFields] at h
    split at h
    · cases h
    · rename_i hn
      simp only [not_or, ne_eq, Decidable.not_not] at hn
      obtain ⟨hn1, hoff⟩ := hn
      cases hg : ckOf P n f.type with
      | none => simp [hg] at h
      | some k1 =>
        simp only [hg] at h
        split at h
        · rename_i hs
          cases hr : ckFields P (ckOf P n) fs (off + k1.length) with
          | none => simp [hr] at h
          | some k2 =>
            simp [hr] at h
            subst h
            obtain ⟨fx1, fx2⟩ := fits_append fx
            obtain ⟨fy1, fy2⟩ := fits_append fy
            have lx := fits_length fx1
            have ly := fits_length fy1
            obtain ⟨dd, hu, hone, hrow⟩ := hsz f.type k1 hg
            have hpart : ∀ (p x : List V), p.length = off → (x.take k1.length).length = k1.length → (part f.type ((p ++ x).map valOf).toArray f.offset).run P w = .ok (mkV P f.type ((x.take k1.length).map valOf)) w := by
              intro p x hp hx'
              have hk : k1.length ≠ 0 ∨ k1.length = 0 := by omega
              cases hrw : dd.isRow with
              | true =>
                rw [hrow hrw]
                have hszr : (sizeOf f.type).run P w = .ok k1.length w := by
                  unfold szB at hs
                  cases hi : P.info? f.type with
                  | none => unfold Program.underlying at hu; simp [hi] at hu
                  | some i => simp [hi] at hs; simp [sizeOf, typeInfo, hi, hs]
                simp only [part, Sem.run_bind, isAgg_run hu, hrw, Result.andThen_ok, if_true, hszr, Sem.run_pure, hoff]
                congr 2
                apply Array.toList_inj.1
                simp only [Array.toList_extract, List.extract_eq_take_drop]
                rw [← hp, ← List.map_drop, ← List.map_take]
                simp
              | false =>
                obtain ⟨h1, h2⟩ := hone hrw
                rw [h2]
                simp only [part, Sem.run_bind, isAgg_run hu, hrw, Result.andThen_ok, Bool.false_eq_true, if_false, hoff]
                cases x with
                | nil => simp at hx'; omega
                | cons x0 x =>
                  have : (((p ++ x0 :: x).map valOf).toArray)[off]? = some (valOf x0) := by simp [← hp]
                  rw [this, h1]
                  simp
            simp only [Op.eqFields, ne_eq, hn1, not_false_eq_true, if_true, Sem.run_bind, hpart px xs hx lx, hpart py ys hy ly, Result.andThen_ok, ih _ _ _ _ hg fx1 fy1]
            have hsplit : eqVs xs ys = (eqVs (xs.take k1.length) (ys.take k1.length) && eqVs (xs.drop k1.length) (ys.drop k1.length)) := by
              rw [← eqVs_append (by rw [lx, ly]), List.take_append_drop, List.take_append_drop]
            cases hb : eqVs (xs.take k1.length) (ys.take k1.length) with
            | false => simp [hsplit, hb]
            | true =>
              have hrec := eqFields_ck ih hsz fs (off + k1.length) k2 (px ++ xs.take k1.length) (py ++ ys.take k1.length) (xs.drop k1.length) (ys.drop k1.length) hr (by simp [hx]; simpa using lx) (by simp [hy]; simpa using ly) fx2 fy2
              rw [List.append_assoc, List.take_append_drop, List.append_assoc, List.take_append_drop] at hrec
              simp only [Bool.not_true, Bool.false_eq_true, if_false]
              rw [hrec, hsplit, hb]; rfl
        · cases h

theorem ck_kind {P : Program} : ∀ {n : Nat} {t : TypeId} {ks : List CK}, ckOf P n t = some ks → ∃ dd, P.underlying t = some dd ∧ (dd.isRow = false → ks.length = 1 ∧ ∀ l, mkV P t l = l.headD undef) ∧ (dd.isRow = true → ∀ l, mkV P t l = .agg l.toArray)
  | 0, _, _, h => by simp [ckOf] at h
  | n + 1, t, ks, h => by
    simp only [ckOf] at h
    cases hu : P.underlying t with
    | none => simp [hu] at h
    | some d =>
      simp only [hu] at h
      refine ⟨d, rfl, ?_⟩
      cases d <;> simp at h
      case struct fs => exact ⟨(fun h => by cases h), fun _ l => by simp [mkV, hu]⟩
      all_goals exact ⟨fun _ => ⟨by simp [← h], fun l => by simp [mkV, hu]⟩, (fun h => by cases h)⟩

theorem equalIn_ck {P : Program} {w : World} : ∀ (n d : Nat) (t : TypeId) (ks : List CK) (xs ys : List V), n ≤ d → ckOf P n t = some ks → fits ks xs = true → fits ks ys = true →
    (Op.equalIn d t (mkV P t (xs.map valOf)) (mkV P t (ys.map valOf))).run P w = .ok (eqVs xs ys) w
  | 0, _, _, _, _, _, _, h, _, _ => by simp [ckOf] at h
  | n + 1, 0, _, _, _, _, hd, _, _, _ => by omega
  | n + 1, d + 1, t, ks, xs, ys, hd, h, fx, fy => by
    simp only [ckOf] at h
    cases hu : P.underlying t with
    | none => simp [hu] at h
    | some dd =>
      simp only [hu] at h
      cases dd <;> simp at h
      case struct fs =>
        obtain ⟨h1, h⟩ := h
        have hf : P.fieldsOf t = fs := by simp [Program.fieldsOf, hu]
        have e1 : mkV P t (xs.map valOf) = .agg (xs.map valOf).toArray := by simp [mkV, hu]
        have e2 : mkV P t (ys.map valOf) = .agg (ys.map valOf).toArray := by simp [mkV, hu]
        rw [e1, e2, run_equalIn_struct w d t _ _ (by rw [hf]; exact hu) h1, hf]
        exact eqFields_ck (n := n) (fun t ks xs ys h fx fy => equalIn_ck n d t ks xs ys (by omega) h fx fy) (fun t ks h => ck_kind h) fs.toList 0 ks [] [] xs ys h rfl rfl fx fy
      all_goals
        subst h
        match xs, ys, fx, fy with
        | [x], [y], fx, fy =>
          cases x <;> simp [fits] at fx
          all_goals cases y <;> simp [fits] at fy
          all_goals try subst fx
          all_goals try subst fy
          all_goals simp [mkV, hu, valOf, Op.equalIn, run_underlying hu, eqVs, eqV, beq_list]
        | [], _, fx, _ => simp [fits] at fx
        | x :: _ :: _, _, fx, _ => cases x <;> simp [fits] at fx
        | [_], [], _, fy => simp [fits] at fy
        | [_], y :: _ :: _, _, fy => cases y <;> simp [fits] at fy

theorem RelV.scalar {M : Mem} {x : V} {y : Value} (h : RelV M x y) {k : CK} (f : fits [k] [x] = true) : y = valOf x := by
  cases k <;> cases x <;> simp [fits] at f
  all_goals simp only [RelV] at h; exact h
theorem RelL.scalars {M : Mem} {μ : Mu} : ∀ {ks : List CK} {xs : List V} {ys : List Value}, RelL M μ (xs.map .v) ys → fits ks xs = true → ys = xs.map valOf
  | [], [], ys, h, _ => by simpa [RelL] using h
  | [], _ :: _, _, _, f => by simp [fits] at f
  | k :: ks, [], _, _, f => by cases k <;> simp [fits] at f
  | k :: ks, x :: xs, ys, h, f => by
    cases ys with
    | nil => have := h.length; simp at this
    | cons y ys =>
      rw [List.map_cons, RelL.cons_iff] at h
      simp only [Rel] at h
      have f1 : fits [k] [x] = true ∧ fits ks xs = true := by cases k <;> cases x <;> simp_all [fits]
      rw [List.map_cons, h.1.scalar f1.1, RelL.scalars h.2 f1.2]

/-! ### operators of two operands -/
/-- The plain cells of a value. -/
def D.plain : List D → Option (List V)
  | [] => some []
  | .v x :: ds => (D.plain ds).map (x :: ·)
  | _ => none
theorem D.plain_spec : ∀ {ds : List D} {xs : List V}, D.plain ds = some xs → ds = xs.map .v
  | [], xs, h => by simp [D.plain] at h; subst h; rfl
  | d :: ds, xs, h => by
    cases d <;> simp [D.plain] at h
    obtain ⟨ys, h1, rfl⟩ := h
    simp [D.plain_spec h1]
theorem D.plain_map (xs : List V) : D.plain (xs.map .v) = some xs := by
  induction xs with
  | nil => rfl
  | cons x xs ih => simp [D.plain, ih]

def aEq (P : Program) (t : TypeId) (x y : D) (H : List Ob) (K : Bool → Prop) : Prop :=
  match x, y with
  | .v (.int k a), .v (.int k' b) => k = k' ∧ K (a == b)
  | .v (.str a), .v (.str b) => K (a == b)
  | .v (.bool a), .v (.bool b) => tk P t = .bl ∧ K (a == b)
  | .agg xs, .agg ys => (match D.plain xs, D.plain ys with
    | some xs, some ys => (match ckOf P 20 t with
      | some ks => P.eqGuardType P.depth t = false ∧ fits ks xs = true ∧ fits ks ys = true ∧ (tk P t).row.isSome ∧ K (eqVs xs ys)
      | none => False)
    | _, _ => False)
  | .nilp, .nilp => tk P t = .pt ∧ K true
  | .nilp, .ptr _ _ => tk P t = .pt ∧ K false
  | .ptr _ _, .nilp => tk P t = .pt ∧ K false
  | .map _, .nilm => (match tk P t with | .mp _ _ => K false | _ => False)
  | .nilm, .nilm => (match tk P t with | .mp _ _ => K true | _ => False)
  | .own b ver _, .nils => (match tk P t with | .sl _ _ _ => vOk H b ver ∧ K false | _ => False)
  | .nils, .nils => (match tk P t with | .sl _ _ _ => K true | _ => False)
  | .v (.list _ xs), .nils => (match tk P t with | .sl _ _ _ => (xs ≠ [] → K false) ∧ (xs = [] → K true ∧ K false) | _ => False)
  | _, _ => False

theorem strEq (a b : List UInt8) : ((⟨a.toArray⟩ : ByteArray).toList == (⟨b.toArray⟩ : ByteArray).toList) = (a == b) := by
  rw [ByteArray.toList_eq, ByteArray.toList_eq]

theorem eqBoth {P : Program} {w : World} {t : TypeId} {a b : Value} {r : Bool} (e1 : binOp .eql t a b = (do pure (.bool (← Op.equal t a b)))) (e2 : binOp .neq t a b = (do pure (.bool (!(← Op.equal t a b)))))
    (h : ∀ d, (Op.equalIn (d + 1) t a b).run P w = .ok r w) : (binOp .eql t a b).run P w = .ok (.bool r) w ∧ (binOp .neq t a b).run P w = .ok (.bool !r) w := by
  have h' : (Op.equal t a b).run P w = .ok r w := h 9999
  rw [e1, e2]
  simp only [Sem.run_bind, h', Result.andThen_ok]
  exact ⟨rfl, rfl⟩

set_option maxHeartbeats 2000000 in
theorem aEq_sound {E : Env} {M : Mem} {μ : Mu} {H : List Ob} {w : World} (h : R E M μ H w) {t : TypeId} {x y : D} {a b : Value} (hx : Rel M μ x a) (hy : Rel M μ y b) {K : Bool → Prop} (k : aEq E.P t x y H K) :
    ∃ r, K r ∧ (binOp .eql t a b).run E.P w = .ok (.bool r) w ∧ (binOp .neq t a b).run E.P w = .ok (.bool !r) w ∧
      (∀ op o1 o2, (eqGuard op t o1 o2 a b).run E.P w = .ok () w) := by
  unfold aEq at k
  split at k
  · rename_i kk n kk' n'
    obtain ⟨rfl, k⟩ := k
    simp only [Rel, RelV] at hx hy; subst hx; subst hy
    exact ⟨_, k, by simp [binOp, Op.intCmp], by simp [binOp, Op.intCmp, bne], fun op o1 o2 => by unfold eqGuard; split <;> rfl⟩
  · rename_i s s'
    simp only [Rel, RelV] at hx hy; subst hx; subst hy
    exact ⟨_, k, by simp [binOp, Op.stringOp, strEq], by simp [binOp, Op.stringOp, strEq], fun op o1 o2 => by unfold eqGuard; split <;> rfl⟩
  · rename_i s s'
    obtain ⟨ht, k⟩ := k
    simp only [Rel, RelV] at hx hy; subst hx; subst hy
    refine ⟨_, k, ?_, ?_, fun op o1 o2 => by unfold eqGuard; split <;> rfl⟩
    · exact (eqBoth rfl rfl (fun d => by simp [Op.equalIn, run_underlying (tk_bl ht)])).1
    · exact (eqBoth rfl rfl (fun d => by simp [Op.equalIn, run_underlying (tk_bl ht)])).2
  · rename_i xs ys
    split at k
    · rename_i xs' ys' hxs hys
      cases hck : ckOf E.P 20 t with
      | none => simp [hck] at k
      | some ks =>
        simp only [hck] at k
        obtain ⟨hg, fx, fy, hrow, k⟩ := k
        have := D.plain_spec hxs; subst this
        have := D.plain_spec hys; subst this
        simp only [Rel] at hx hy
        obtain ⟨vs, rfl, hvs⟩ := hx
        obtain ⟨ws, rfl, hws⟩ := hy
        have e1 := hvs.scalars fx
        have e2 := hws.scalars fy
        subst e1; subst e2
        have he := equalIn_ck (P := E.P) (w := w) 20 10000 t ks xs' ys' (by omega) hck fx fy
        obtain ⟨dd, hu, _, hr2⟩ := ck_kind hck
        obtain ⟨n, hn⟩ := Option.isSome_iff_exists.1 hrow
        obtain ⟨d2, hu2, hd2, _⟩ := tk_row hn
        rw [hu] at hu2; cases hu2
        rw [hr2 hd2, hr2 hd2] at he
        refine ⟨_, k, ?_, ?_, fun op o1 o2 => run_eqGuard_agg w op t o1 o2 _ _ hg⟩
        · rw [run_eql_struct, he]; rfl
        · rw [run_neq_struct, he]; rfl
    · exact k.elim
  · obtain ⟨ht, k⟩ := k
    obtain ⟨e, hu⟩ := tk_pt ht
    simp only [Rel] at hx hy; subst hx; subst hy
    refine ⟨_, k, ?_, ?_, fun op o1 o2 => by unfold eqGuard; split <;> rfl⟩
    · exact (eqBoth rfl rfl (fun d => by simp [Op.equalIn, run_underlying hu])).1
    · exact (eqBoth rfl rfl (fun d => by simp [Op.equalIn, run_underlying hu])).2
  · obtain ⟨ht, k⟩ := k
    obtain ⟨e, hu⟩ := tk_pt ht
    simp only [Rel] at hx hy; subst hx
    obtain ⟨p, _, _, rfl⟩ := hy
    refine ⟨_, k, ?_, ?_, fun op o1 o2 => by unfold eqGuard; split <;> rfl⟩
    · exact (eqBoth rfl rfl (fun d => by simp [Op.equalIn, run_underlying hu])).1
    · exact (eqBoth rfl rfl (fun d => by simp [Op.equalIn, run_underlying hu])).2
  · obtain ⟨ht, k⟩ := k
    obtain ⟨e, hu⟩ := tk_pt ht
    simp only [Rel] at hx hy; subst hy
    obtain ⟨p, _, _, rfl⟩ := hx
    refine ⟨_, k, ?_, ?_, fun op o1 o2 => by unfold eqGuard; split <;> rfl⟩
    · exact (eqBoth rfl rfl (fun d => by simp [Op.equalIn, run_underlying hu])).1
    · exact (eqBoth rfl rfl (fun d => by simp [Op.equalIn, run_underlying hu])).2
  · cases ht : tk E.P t <;> simp only [ht] at k
    case mp kt et =>
      simp only [Rel] at hx hy; subst hy
      obtain ⟨p, _, _, rfl⟩ := hx
      refine ⟨_, k, ?_, ?_, fun op o1 o2 => by unfold eqGuard; split <;> rfl⟩
      · exact (eqBoth rfl rfl (fun d => by simp [Op.equalIn, run_underlying (tk_mp ht)])).1
      · exact (eqBoth rfl rfl (fun d => by simp [Op.equalIn, run_underlying (tk_mp ht)])).2
    all_goals exact k.elim
  · cases ht : tk E.P t <;> simp only [ht] at k
    case mp kt et =>
      simp only [Rel] at hx hy; subst hy; subst hx
      refine ⟨_, k, ?_, ?_, fun op o1 o2 => by unfold eqGuard; split <;> rfl⟩
      · exact (eqBoth rfl rfl (fun d => by simp [Op.equalIn, run_underlying (tk_mp ht)])).1
      · exact (eqBoth rfl rfl (fun d => by simp [Op.equalIn, run_underlying (tk_mp ht)])).2
    all_goals exact k.elim
  · cases ht : tk E.P t <;> simp only [ht] at k
    case sl e esz bytes =>
      obtain ⟨j, hu, hj, hsz, hby⟩ := tk_sl ht
      obtain ⟨hv, k⟩ := k
      simp only [Rel] at hx hy; subst hy
      obtain ⟨_, p, hp, hle, hv1, hx⟩ := hx
      obtain ⟨hlen, rfl⟩ := hx (vOk_ver h hv hp)
      refine ⟨_, k, ?_, ?_, fun op o1 o2 => by unfold eqGuard; split <;> rfl⟩
      · exact (eqBoth rfl rfl (fun d => by simp [Op.equalIn, run_underlying hu])).1
      · exact (eqBoth rfl rfl (fun d => by simp [Op.equalIn, run_underlying hu])).2
    all_goals exact k.elim
  · cases ht : tk E.P t <;> simp only [ht] at k
    case sl e esz bytes =>
      obtain ⟨j, hu, hj, hsz, hby⟩ := tk_sl ht
      simp only [Rel] at hx hy; subst hy; subst hx
      refine ⟨_, k, ?_, ?_, fun op o1 o2 => by unfold eqGuard; split <;> rfl⟩
      · exact (eqBoth rfl rfl (fun d => by simp [Op.equalIn, run_underlying hu])).1
      · exact (eqBoth rfl rfl (fun d => by simp [Op.equalIn, run_underlying hu])).2
    all_goals exact k.elim
  · rename_i sz xs
    cases ht : tk E.P t <;> simp only [ht] at k
    case sl e esz bytes =>
      obtain ⟨j, hu, hj, hsz, hby⟩ := tk_sl ht
      simp only [Rel, RelV] at hx hy; subst hy
      obtain ⟨A, c, rfl, hc, hr⟩ := hx
      cases A with
      | none =>
        have he : xs = [] := by
          rcases hr with hr | ⟨b, o, e, _⟩
          · exact hr
          · cases e
        refine ⟨true, (k.2 he).1, ?_, ?_, fun op o1 o2 => by unfold eqGuard; split <;> rfl⟩
        · exact (eqBoth rfl rfl (fun d => by simp [Op.equalIn, run_underlying hu])).1
        · exact (eqBoth rfl rfl (fun d => by simp [Op.equalIn, run_underlying hu])).2
      | some A =>
        have kf : K false := by
          by_cases he : xs = []
          · exact (k.2 he).2
          · exact k.1 he
        refine ⟨false, kf, ?_, ?_, fun op o1 o2 => by unfold eqGuard; split <;> rfl⟩
        · exact (eqBoth rfl rfl (fun d => by simp [Op.equalIn, run_underlying hu])).1
        · exact (eqBoth rfl rfl (fun d => by simp [Op.equalIn, run_underlying hu])).2
    all_goals exact k.elim
  · exact k.elim

def aBin (P : Program) (op : BinOp) (t : TypeId) (x y : D) (H : List Ob) (K : D → Prop) : Prop :=
  match op with
  | .eql => aEq P t x y H fun b => K (.v (.bool b))
  | .neq => aEq P t x y H fun b => K (.v (.bool !b))
  | .shl => (match x, y with | .v (.int k a), .v (.int _ b) => 0 ≤ b ∧ K (.v (.int k (k.wrap (a * 2 ^ min b.toNat k.bits)))) | _, _ => False)
  | .shr => (match x, y with | .v (.int k a), .v (.int _ b) => 0 ≤ b ∧ K (.v (.int k (a.fdiv (2 ^ min b.toNat k.bits)))) | _, _ => False)
  | .add => (match x, y with
    | .v (.int k a), .v (.int k' b) => k = k' ∧ K (.v (.int k (k.wrap (a + b))))
    | .v (.str a), .v (.str b) => a.length + b.length ≤ 9223372036854775807 ∧ K (.v (.str (a ++ b)))
    | _, _ => False)
  | .sub => (match x, y with | .v (.int k a), .v (.int k' b) => k = k' ∧ K (.v (.int k (k.wrap (a - b)))) | _, _ => False)
  | .mul => (match x, y with | .v (.int k a), .v (.int k' b) => k = k' ∧ K (.v (.int k (k.wrap (a * b)))) | _, _ => False)
  | .quo => (match x, y with | .v (.int k a), .v (.int k' b) => k = k' ∧ b ≠ 0 ∧ K (.v (.int k (k.wrap (a.tdiv b)))) | _, _ => False)
  | .rem => (match x, y with | .v (.int k a), .v (.int k' b) => k = k' ∧ b ≠ 0 ∧ K (.v (.int k (a.tmod b))) | _, _ => False)
  | .and => (match x, y with | .v (.int k a), .v (.int k' b) => k = k' ∧ K (.v (.int k (k.wrap (BitVec.ofInt k.bits a &&& BitVec.ofInt k.bits b).toNat))) | _, _ => False)
  | .or => (match x, y with | .v (.int k a), .v (.int k' b) => k = k' ∧ K (.v (.int k (k.wrap (BitVec.ofInt k.bits a ||| BitVec.ofInt k.bits b).toNat))) | _, _ => False)
  | .xor => (match x, y with | .v (.int k a), .v (.int k' b) => k = k' ∧ K (.v (.int k (k.wrap (BitVec.ofInt k.bits a ^^^ BitVec.ofInt k.bits b).toNat))) | _, _ => False)
  | .andNot => (match x, y with | .v (.int k a), .v (.int k' b) => k = k' ∧ K (.v (.int k (k.wrap (BitVec.ofInt k.bits a &&& ~~~ BitVec.ofInt k.bits b).toNat))) | _, _ => False)
  | .lss => (match x, y with
    | .v (.int k a), .v (.int k' b) => k = k' ∧ K (.v (.bool (decide (a < b))))
    | .v (.str a), .v (.str b) => K (.v (.bool (Op.bytesLess a b)))
    | _, _ => False)
  | .leq => (match x, y with
    | .v (.int k a), .v (.int k' b) => k = k' ∧ K (.v (.bool (decide (a ≤ b))))
    | .v (.str a), .v (.str b) => K (.v (.bool (Op.bytesLess a b || a == b)))
    | _, _ => False)
  | .gtr => (match x, y with
    | .v (.int k a), .v (.int k' b) => k = k' ∧ K (.v (.bool (decide (a > b))))
    | .v (.str a), .v (.str b) => K (.v (.bool (!(Op.bytesLess a b || a == b))))
    | _, _ => False)
  | .geq => (match x, y with
    | .v (.int k a), .v (.int k' b) => k = k' ∧ K (.v (.bool (decide (a ≥ b))))
    | .v (.str a), .v (.str b) => K (.v (.bool (!Op.bytesLess a b)))
    | _, _ => False)

theorem toList_mk (a : List UInt8) : (⟨a.toArray⟩ : ByteArray).toList = a := by rw [ByteArray.toList_eq]
theorem eqGuard_other {P : Program} {w : World} {op : BinOp} (h1 : op ≠ .eql) (h2 : op ≠ .neq) (t : TypeId) (x y : Operand) (a b : Value) : (eqGuard op t x y a b).run P w = .ok () w := by
  unfold eqGuard
  cases op <;> first | exact absurd rfl h1 | exact absurd rfl h2 | rfl

set_option maxHeartbeats 2000000 in
theorem aBin_sound {E : Env} {M : Mem} {μ : Mu} {H : List Ob} {w : World} (h : R E M μ H w) {op : BinOp} {t : TypeId} {x y : D} {a b : Value} (hx : Rel M μ x a) (hy : Rel M μ y b) {K : D → Prop} (k : aBin E.P op t x y H K) (o1 o2 : Operand) :
    ∃ v d', (do eqGuard op t o1 o2 a b; binOp op t a b : Sem Value).run E.P w = .ok v w ∧ Rel M μ d' v ∧ K d' := by
  by_cases c1 : op = .eql
  · subst c1
    unfold aBin at k
    obtain ⟨r, kr, h1, _, h3⟩ := aEq_sound h hx hy k
    exact ⟨.bool r, .v (.bool r), by simp only [Sem.run_bind, h1, h3, Result.andThen_ok], by simp only [Rel, RelV], kr⟩
  by_cases c2 : op = .neq
  · subst c2
    unfold aBin at k
    obtain ⟨r, kr, _, h2, h3⟩ := aEq_sound h hx hy k
    exact ⟨.bool !r, .v (.bool !r), by simp only [Sem.run_bind, h2, h3, Result.andThen_ok], by simp only [Rel, RelV], kr⟩
  have hg := eqGuard_other (P := E.P) (w := w) c1 c2 t o1 o2 a b
  simp only [Sem.run_bind, hg, Result.andThen_ok]
  unfold aBin at k
  cases op <;> simp only [] at k
  case eql => exact absurd rfl c1
  case neq => exact absurd rfl c2
  all_goals
    split at k <;> first
      | exact k.elim
      | (obtain ⟨rfl, k⟩ := k
         simp only [Rel, RelV] at hx hy; subst hx; subst hy
         first
           | exact ⟨_, _, by simp [binOp, Op.intArith]; rfl, by simp only [Rel, RelV], k⟩
           | exact ⟨_, _, by simp [binOp, Op.intCmp]; rfl, by simp only [Rel, RelV], k⟩
           | exact ⟨_, _, by simp [binOp, Op.intBits]; rfl, by simp only [Rel, RelV], k⟩
           | exact ⟨_, _, by simp [binOp, Op.intDiv, k.1]; rfl, by simp only [Rel, RelV], k.2⟩)
      | (obtain ⟨h0, k⟩ := k
         simp only [Rel, RelV] at hx hy; subst hx; subst hy
         first
           | exact ⟨_, _, by simp [binOp, Op.shift, Int.not_lt.2 h0]; rfl, by simp only [Rel, RelV], k⟩
           | exact ⟨_, _, run_string_add_sum w _ _ (by simp [ByteArray.size]; omega), by simp only [Rel, RelV]; rw [ByteArray.mk_append_mk], k⟩)
      | (simp only [Rel, RelV] at hx hy; subst hx; subst hy
         exact ⟨_, _, by simp only [binOp, Op.stringOp, toList_mk, Sem.run_pure]; rfl, by simp only [Rel, RelV], k⟩)

def aUn (op : UnOp) (x : D) (K : D → Prop) : Prop :=
  match op, x with
  | .not, .v (.bool b) => K (.v (.bool !b))
  | .neg, .v (.int k n) => K (.v (.int k (k.wrap (0 - n))))
  | .xor, .v (.int k n) => K (.v (.int k (k.wrap (BitVec.ofInt k.bits (if k.signed then -1 else k.max) ^^^ BitVec.ofInt k.bits n).toNat)))
  | _, _ => False
theorem aUn_sound {P : Program} {M : Mem} {μ : Mu} {w : World} {op : UnOp} {x : D} {a : Value} (hx : Rel M μ x a) {K : D → Prop} (k : aUn op x K) :
    ∃ v d', (Op.unary op a).run P w = .ok v w ∧ Rel M μ d' v ∧ K d' := by
  unfold aUn at k
  split at k
  · simp only [Rel, RelV] at hx; subst hx
    exact ⟨_, _, by simp only [Op.unary, Sem.run_pure]; rfl, by simp only [Rel, RelV], k⟩
  · simp only [Rel, RelV] at hx; subst hx
    exact ⟨_, _, by simp only [Op.unary, Op.intArith, Sem.run_pure]; rfl, by simp only [Rel, RelV], k⟩
  · simp only [Rel, RelV] at hx; subst hx
    exact ⟨_, _, by simp only [Op.unary, Op.intBits, Sem.run_pure]; rfl, by simp only [Rel, RelV], k⟩
  · exact k.elim

end Go.Ag
