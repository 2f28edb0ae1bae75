/- AGo, part 3: operations that read, and that make or write single variables. -/
import Derived.Test.YtbiajjcolfhioaaDoorAgR
import Derived.Deep.MidRow
import Derived.Laws.Tables
set_option linter.all false
namespace Go.Ag
open Go Go.RowKit

/-- What is asked of a type. -/
inductive TK where
  | st (sz : Nat) (fs : List (Nat × Nat))
  | ar (n esz sz : Nat)
  | sl (e esz bytes : Nat)
  | mp (k e : TypeId)
  | str
  | it (k : IntKind)
  | bl
  | pt
  | sc
  | no

def szB (P : Program) (t : TypeId) : Nat := match P.info? t with | some i => i.size | none => 0

def tk (P : Program) (t : TypeId) : TK :=
  match P.underlying t, P.info? t with
  | some (.struct fs), some i => .st i.size (fs.toList.map fun f => (f.offset, szB P f.type))
  | some (.array n e), some i => .ar n (szB P e) i.size
  | some (.slice e), some _ => match P.info? e with | some j => .sl e j.size j.bytes | none => .no
  | some (.map k e), some _ => .mp k e
  | some .string, some _ => .str
  | some (.int k), some _ => .it k
  | some .bool, some _ => .bl
  | some (.pointer _), some _ => .pt
  | some _, some _ => .sc
  | _, _ => .no

def TK.row : TK → Option Nat
  | .st sz _ => some sz
  | .ar _ _ sz => some sz
  | _ => none

theorem tk_row {P : Program} {t : TypeId} {n : Nat} (h : (tk P t).row = some n) : ∃ d, P.underlying t = some d ∧ d.isRow = true ∧ (P.info? t).map (·.size) = some n := by
  unfold tk at h
  cases hu : P.underlying t with
  | none => simp [hu, TK.row] at h
  | some d =>
    cases hi : P.info? t with
    | none => simp [hu, hi] at h; cases d <;> simp [TK.row] at h
    | some i =>
      simp only [hu, hi] at h
      cases d <;> simp only [TK.row] at h
      case slice e => cases hj : P.info? e <;> simp [hj] at h
      case struct fs => exact ⟨_, rfl, rfl, by simpa using h⟩
      case array k e => exact ⟨_, rfl, rfl, by simpa using h⟩
      all_goals cases h
theorem tk_one {P : Program} {t : TypeId} (h : (tk P t).row = none) (h0 : tk P t ≠ .no) : ∃ d, P.underlying t = some d ∧ d.isRow = false := by
  unfold tk at h h0
  cases hu : P.underlying t with
  | none => simp [hu] at h0
  | some d =>
    cases hi : P.info? t with
    | none => simp only [hu, hi] at h0; cases d <;> simp at h0
    | some i =>
      simp only [hu, hi] at h
      cases d <;> simp only [TK.row] at h <;> first | exact ⟨_, rfl, rfl⟩ | cases h
theorem tk_ne {T : TK} (h : T.row = none → T ≠ .no) : T ≠ .no := by
  cases T <;> simp_all [TK.row]

/-- What an operation that makes a value comes to. -/
def Ok (E : Env) (M : Mem) (μ : Mu) (s : Sem Value) (w : World) (K : D → List Ob → Prop) : Prop :=
  ∃ v w' d M' μ' H', s.run E.P w = .ok v w' ∧ M.le M' ∧ μ.le μ' ∧ R E M' μ' H' w' ∧ Rel M' μ' d v ∧ K d H'

theorem Ok.same {E : Env} {M : Mem} {μ : Mu} {H : List Ob} {w : World} {s : Sem Value} {K : D → List Ob → Prop} (h : R E M μ H w) {v : Value} {d : D} (hr : s.run E.P w = .ok v w) (hd : Rel M μ d v) (k : K d H) : Ok E M μ s w K :=
  ⟨v, w, d, M, μ, H, hr, .refl _, .refl _, h, hd, k⟩

/-! ### load -/
def aLoad (P : Program) (t : TypeId) (d : D) (H : List Ob) (K : D → Prop) : Prop :=
  match (tk P t).row with
  | some sz => (match d with
    | .rptr cs => sz ≤ cs.length ∧ K (.agg ((cs.take sz).map .v))
    | .ptr b off => (match H[b]? with
      | some (.box cs) => off + sz ≤ cs.length ∧ K (.agg ((cs.drop off).take sz))
      | _ => False)
    | .eptr b ver sz' i off => (match H[b]? with
      | some (.arr ver' sz2 xs _) => ver' = ver ∧ sz2 = sz' ∧ (match xs[i]? with
        | some x => off + sz ≤ x.length ∧ K (.agg ((x.drop off).take sz))
        | none => False)
      | _ => False)
    | _ => False)
  | none => tk P t ≠ .no ∧ (match d with
    | .rptr cs => (match cs with | c :: _ => K (.v c) | [] => False)
    | .ptr b off => (match H[b]? with
      | some (.box cs) => (match cs[off]? with | some d => K d | none => False)
      | _ => False)
    | .eptr b ver sz' i off => (match H[b]? with
      | some (.arr ver' sz2 xs _) => ver' = ver ∧ sz2 = sz' ∧ (match xs[i]? with
        | some x => (match x[off]? with | some d => K d | none => False)
        | none => False)
      | _ => False)
    | _ => False)

theorem run_loadAt_one {P : Program} {t : TypeId} {d : TypeDesc} (hu : P.underlying t = some d) (hd : d.isRow = false) {w : World} {a : Addr} {v : Value} (h : w.cell? a = some v) :
    (Instr.loadAt t (.pointer (some a))).run P w = .ok v w := by
  have hagg : (isAgg t).run P w = .ok false w := by
    unfold isAgg
    rw [Sem.run_bind, run_underlying hu w]
    cases d <;> simp_all
  simp [Instr.loadAt, Instr.sureAddr, loadVar, hagg, h]

/-- A stretch of an object's block, as a list. -/
theorem rangeAt_block {w : World} {b : Nat} {vs : List Value} {t : TypeId} (h : w.heap[b]? = some (.cells vs.toArray t (0, 0))) (o : Nat) (cs : List Value) (hc : ∀ j v, cs[j]? = some v → vs[o + j]? = some v) : w.rangeAt b o cs :=
  fun j v hv => by rw [cell?_block h]; exact hc j v hv

theorem aLoad_sound {E : Env} {M : Mem} {μ : Mu} {H : List Ob} {w : World} (h : R E M μ H w) {t : TypeId} {d : D} {y : Value} (hy : Rel M μ d y) {K : D → Prop} (k : aLoad E.P t d H K) :
    ∃ v d', (Instr.loadAt t y).run E.P w = .ok v w ∧ Rel M μ d' v ∧ K d' := by
  unfold aLoad at k
  cases hrow : (tk E.P t).row with
  | some sz =>
    obtain ⟨td, hu, hd, hi⟩ := tk_row hrow
    simp only [hrow] at k
    cases d <;> simp only [] at k
    case rptr cs =>
      simp only [Rel] at hy
      obtain ⟨b, o, rfl, hr⟩ := hy
      obtain ⟨hlen, k⟩ := k
      have hr' := hr.take sz
      obtain ⟨ys, hys, hl⟩ : ∃ ys : List Value, (∀ j x, (cs.take sz)[j]? = some x → ∃ y, ys[j]? = some y ∧ M b (o + j) = some y) ∧ ys.length = (cs.take sz).length := by
        refine ⟨(List.range (cs.take sz).length).map fun j => (M b (o + j)).getD undef, fun j x hx => ?_, by simp⟩
        obtain ⟨y, h1, _⟩ := hr'.get j x hx
        have hj : j < (cs.take sz).length := (List.getElem?_eq_some_iff.1 hx).1
        exact ⟨y, by simp only [List.getElem?_map, List.getElem?_range hj, Option.map_some, h1, Option.getD_some], h1⟩
      have hl2 : ys.length = sz := by simp [hl]; omega
      have hM : ∀ j y, ys[j]? = some y → M b (o + j) = some y := fun j y hj => by
        have hlt : j < (cs.take sz).length := by rw [← hl]; exact (List.getElem?_eq_some_iff.1 hj).1
        obtain ⟨y', h1, h2⟩ := hys j _ (List.getElem?_eq_getElem hlt)
        rw [hj] at h1; cases h1; exact h2
      refine ⟨_, _, run_loadAt_mid w b o t ys td (fun j v hv => h.imm _ _ _ (hM j v hv)) hu hd (by rw [hl2]; exact hi), ?_, k⟩
      simp only [Rel]
      exact ⟨ys, rfl, RelL.v_of_row hr' hl hM⟩
    case ptr b off =>
      simp only [Rel] at hy
      obtain ⟨p, hp, _, rfl⟩ := hy
      cases ho : H[b]? with
      | none => simp [ho] at k
      | some ob =>
        cases ob <;> simp only [ho] at k
        case box cs =>
          obtain ⟨hlen, k⟩ := k
          obtain ⟨_, _, _, vs, tt, hb, hv⟩ := h.obj b _ p ho hp
          have hvl := hv.length
          refine ⟨_, _, run_loadAt_mid w p.blk off t ((vs.drop off).take sz) td (rangeAt_block hb _ _ fun j v hj => ?_) hu hd (by rw [hi]; congr 1; simp; omega), ?_, k⟩
          · rw [List.getElem?_take] at hj
            split at hj
            · rwa [List.getElem?_drop] at hj
            · simp at hj
          · simp only [Rel]
            exact ⟨_, rfl, (hv.drop off).take sz⟩
        all_goals exact k.elim
    case eptr b ver sz' i off =>
      simp only [Rel] at hy
      obtain ⟨_, p, hp, _, _, hy⟩ := hy
      cases ho : H[b]? with
      | none => simp [ho] at k
      | some ob =>
        cases ob <;> simp only [ho] at k
        case arr ver' sz2 xs esc =>
          obtain ⟨rfl, rfl, k⟩ := k
          obtain ⟨_, hver, _, _, hcap, vs, tt, hb, hvl, hv⟩ := h.obj b _ p ho hp
          have hy := hy hver
          subst hy
          cases hx : xs[i]? with
          | none => simp [hx] at k
          | some x =>
            simp only [hx] at k
            obtain ⟨hlen, k⟩ := k
            obtain ⟨hxl, hr⟩ := hv i x hx
            have hrl := hr.length
            refine ⟨_, _, run_loadAt_mid w p.blk (i * sz2 + off) t ((((vs.drop (i * sz2)).take sz2).drop off).take sz) td (rangeAt_block hb _ _ fun j v hj => ?_) hu hd (by rw [hi]; congr 1; simp at hrl ⊢; omega), ?_, k⟩
            · rw [List.getElem?_take] at hj
              split at hj
              · rw [List.getElem?_drop, List.getElem?_take] at hj
                split at hj
                · rw [List.getElem?_drop] at hj
                  rw [← hj]; congr 1; omega
                · simp at hj
              · simp at hj
            · simp only [Rel]
              exact ⟨_, rfl, (hr.drop off).take sz⟩
        all_goals exact k.elim
    all_goals exact k.elim
  | none =>
    simp only [hrow] at k
    obtain ⟨h0, k⟩ := k
    obtain ⟨td, hu, hd⟩ := tk_one hrow h0
    cases d <;> simp only [] at k
    case rptr cs =>
      simp only [Rel] at hy
      obtain ⟨b, o, rfl, hr⟩ := hy
      cases cs with
      | nil => exact k.elim
      | cons c cs =>
        simp only [] at k
        simp only [RelRow] at hr
        obtain ⟨⟨y, h1, h2⟩, _⟩ := hr
        exact ⟨y, _, run_loadAt_one hu hd (h.imm _ _ _ h1), by simp only [Rel]; exact h2, k⟩
    case ptr b off =>
      simp only [Rel] at hy
      obtain ⟨p, hp, _, rfl⟩ := hy
      cases ho : H[b]? with
      | none => simp [ho] at k
      | some ob =>
        cases ob <;> simp only [ho] at k
        case box cs =>
          obtain ⟨_, _, _, vs, tt, hb, hv⟩ := h.obj b _ p ho hp
          cases hc : cs[off]? with
          | none => simp [hc] at k
          | some d =>
            simp only [hc] at k
            obtain ⟨y, h1, h2⟩ := hv.get off d hc
            exact ⟨y, _, run_loadAt_one hu hd (by rw [cell?_block hb]; exact h1), h2, k⟩
        all_goals exact k.elim
    case eptr b ver sz' i off =>
      simp only [Rel] at hy
      obtain ⟨_, p, hp, _, _, hy⟩ := hy
      cases ho : H[b]? with
      | none => simp [ho] at k
      | some ob =>
        cases ob <;> simp only [ho] at k
        case arr ver' sz2 xs esc =>
          obtain ⟨rfl, rfl, k⟩ := k
          obtain ⟨_, hver, _, _, hcap, vs, tt, hb, hvl, hv⟩ := h.obj b _ p ho hp
          have hy := hy hver
          subst hy
          cases hx : xs[i]? with
          | none => simp [hx] at k
          | some x =>
            simp only [hx] at k
            obtain ⟨hxl, hr⟩ := hv i x hx
            cases hc : x[off]? with
            | none => simp [hc] at k
            | some d =>
              simp only [hc] at k
              obtain ⟨y, h1, h2⟩ := hr.get off d hc
              rw [List.getElem?_take] at h1
              split at h1
              · rw [List.getElem?_drop] at h1
                exact ⟨y, _, run_loadAt_one hu hd (by rw [cell?_block hb]; exact h1), h2, k⟩
              · simp at h1
        all_goals exact k.elim
    all_goals exact k.elim

/-! ### the cells of a value -/
def D.cs : D → Option (List D)
  | .agg cs => if cs.all D.cell then some cs else none
  | .tup _ => none
  | .any => none
  | d => some [d]

theorem Rel.cells {M : Mem} {μ : Mu} {d : D} {v : Value} {ds : List D} (h : Rel M μ d v) (hc : d.cs = some ds) : RelL M μ ds v.cells.toList ∧ (∀ y ∈ v.cells.toList, y.oneCell' = true) := by
  have one : ∀ d : D, d.cell = true → Rel M μ d v → d.cs = some [d] → RelL M μ [d] v.cells.toList ∧ (∀ y ∈ v.cells.toList, y.oneCell' = true) := fun d hd hr _ => by
    have h1 := hr.one hd
    have : v.cells = #[v] := by cases v <;> first | rfl | (simp [Value.oneCell'] at h1)
    rw [this]
    exact ⟨by rw [List.toList_toArray]; rw [RelL.cons_iff]; exact ⟨hr, by simp only [RelL]⟩, fun y hy => by simp at hy; subst hy; exact h1⟩
  cases d
  case agg cs =>
    simp only [D.cs] at hc
    split at hc
    · rename_i hall
      cases hc
      simp only [Rel] at h
      obtain ⟨vs, rfl, hr⟩ := h
      refine ⟨by simpa [Value.cells] using hr, fun y hy => ?_⟩
      have hy : y ∈ vs := by simpa [Value.cells] using hy
      obtain ⟨i, hi⟩ := List.mem_iff_getElem?.1 hy
      have hlt : i < ds.length := by rw [← hr.length]; exact (List.getElem?_eq_some_iff.1 hi).1
      obtain ⟨y', h1, h2⟩ := hr.get i _ (List.getElem?_eq_getElem hlt)
      rw [hi] at h1; cases h1
      exact h2.one (List.all_eq_true.1 hall _ (List.getElem_mem hlt))
    · cases hc
  case tup => simp [D.cs] at hc
  case any => simp [D.cs] at hc
  all_goals simp only [D.cs, Option.some.injEq] at hc; subst hc; exact one _ rfl h rfl

end Go.Ag
