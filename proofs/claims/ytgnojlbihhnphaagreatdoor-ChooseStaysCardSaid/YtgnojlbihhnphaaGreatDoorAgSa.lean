import Derived.Below
import Derived.Laws.CopyRow
import Derived.Laws.Rows
import Derived.Laws.Cells
import Derived.Deep.MidRow
import Derived.Laws.Tables
import Derived.Laws.StructEq
import Derived.Laws.Concat
import Derived.Laws.AppendOwn
import Derived.Laws.MakeOwn
import Derived.Laws.BytesString
import Derived.WideShapes
import Derived.Maps.Keyed
import Derived.DeepKeys5
set_option linter.all false
/- AGo, part 1: data by value, abstract objects, and how they stand to the world. -/
namespace Go.Ag
open Go Go.RowKit

/-- Memory that never turns: which cell holds what. -/
abbrev Mem := Nat → Nat → Option Value

/-- Where an object lies: its block, how many rows fit, and how often it has been laid anew. -/
structure Pt where
  blk : Nat
  cap : Nat
  ver : Nat

abbrev Mu := Nat → Option Pt

/-- Plain data. -/
inductive V where
  | bool (b : Bool)
  | int (k : IntKind) (n : Int)
  | str (s : List UInt8)
  | list (sz : Nat) (xs : List (List V))
  | nili

/-- What a slot may hold. -/
inductive D where
  | v (x : V)
  | agg (cs : List D)
  | tup (cs : List D)
  | own (b ver len : Nat)
  | nils
  | ptr (b off : Nat)
  | eptr (b ver sz i off : Nat)
  | rptr (cs : List V)
  | nilp
  | map (m : Nat)
  | nilm
  | fn (f : FuncId) (caps : List D)
  | nilf
  | sub (b ver sz off len : Nat) (cap : Option Nat)
  | any

mutual
def RelV (M : Mem) : V → Value → Prop
  | .bool b, y => y = .bool b
  | .int k n, y => y = .int k n
  | .str s, y => y = .string ⟨s.toArray⟩
  | .nili, y => y = .nilIface
  | .list sz xs, y => ∃ A c, y = .slice A xs.length c ∧ xs.length ≤ c ∧ (xs = [] ∨ ∃ b o, A = some ⟨b, o, none⟩ ∧ RelRows M sz b o xs)
def RelRows (M : Mem) (sz b : Nat) : Nat → List (List V) → Prop
  | _, [] => True
  | o, x :: xs => x.length = sz ∧ RelRow M b o x ∧ RelRows M sz b (o + sz) xs
def RelRow (M : Mem) (b : Nat) : Nat → List V → Prop
  | _, [] => True
  | o, d :: ds => (∃ y, M b o = some y ∧ RelV M d y) ∧ RelRow M b (o + 1) ds
end

mutual
def Rel (M : Mem) (μ : Mu) : D → Value → Prop
  | .v x, y => RelV M x y
  | .agg cs, y => ∃ vs : List Value, y = .agg vs.toArray ∧ RelL M μ cs vs
  | .tup cs, y => ∃ vs : List Value, y = .tuple vs.toArray ∧ RelL M μ cs vs
  | .own b ver len, y => (∃ A n c, y = .slice A n c) ∧ ∃ p, μ b = some p ∧ ver ≤ p.ver ∧ 1 ≤ ver ∧ (p.ver = ver → len ≤ p.cap ∧ y = .slice (some ⟨p.blk, 0, none⟩) len p.cap)
  | .nils, y => y = .slice none 0 0
  | .ptr b off, y => ∃ p, μ b = some p ∧ p.ver = 0 ∧ y = .pointer (some ⟨p.blk, off, none⟩)
  | .eptr b ver sz i off, y => (∃ A, y = .pointer A) ∧ ∃ p, μ b = some p ∧ ver ≤ p.ver ∧ 1 ≤ ver ∧ (p.ver = ver → y = .pointer (some ⟨p.blk, i * sz + off, none⟩))
  | .rptr cs, y => ∃ b o, y = .pointer (some ⟨b, o, none⟩) ∧ RelRow M b o cs
  | .nilp, y => y = .pointer none
  | .map m, y => ∃ p, μ m = some p ∧ p.ver = 0 ∧ y = .map (some p.blk)
  | .nilm, y => y = .map none
  | .fn f caps, y => ∃ vs : List Value, y = .func (.func f) #[] vs.toArray ∧ RelL M μ caps vs
  | .nilf, y => y = .nilFunc
  | .sub b ver sz off len cap, y => (∃ A n c, y = .slice A n c) ∧ ∃ p, μ b = some p ∧ ver ≤ p.ver ∧ 1 ≤ ver ∧ (p.ver = ver → (∀ c, cap = some c → p.cap = c) ∧ off + len ≤ p.cap ∧ ∃ A, y = .slice A len (p.cap - off) ∧ (off < p.cap → A = some ⟨p.blk, off * sz, none⟩))
  | .any, _ => True
def RelL (M : Mem) (μ : Mu) : List D → List Value → Prop
  | [], vs => vs = []
  | d :: ds, vs => ∃ v vs', vs = v :: vs' ∧ Rel M μ d v ∧ RelL M μ ds vs'
end

def Mem.le (M M' : Mem) : Prop := ∀ b o y, M b o = some y → M' b o = some y
def Mu.le (μ μ' : Mu) : Prop := ∀ i p, μ i = some p → ∃ p', μ' i = some p' ∧ p.ver ≤ p'.ver ∧ (p'.ver = p.ver → p' = p) ∧ (p.ver = 0 → p'.ver = 0)

theorem Mem.le.refl (M : Mem) : M.le M := fun _ _ _ h => h
theorem Mem.le.trans {a b c : Mem} (h : a.le b) (k : b.le c) : a.le c := fun _ _ _ x => k _ _ _ (h _ _ _ x)
theorem Mu.le.refl (μ : Mu) : μ.le μ := fun _ p h => ⟨p, h, Nat.le_refl _, fun _ => rfl, fun h => h⟩
theorem Mu.le.trans {a b c : Mu} (h : a.le b) (k : b.le c) : a.le c := fun i p hp => by
  obtain ⟨p1, h1, h2, h3, h4⟩ := h i p hp
  obtain ⟨p2, k1, k2, k3, k4⟩ := k i p1 h1
  refine ⟨p2, k1, Nat.le_trans h2 k2, fun e => ?_, fun e => k4 (h4 e)⟩
  have e1 : p1.ver = p.ver := by omega
  have e2 : p2.ver = p1.ver := by omega
  rw [k3 e2, h3 e1]

mutual
theorem RelV.mono {M M' : Mem} (h : M.le M') : ∀ {x : V} {y : Value}, RelV M x y → RelV M' x y
  | .bool _, _, r => r
  | .int _ _, _, r => r
  | .str _, _, r => r
  | .nili, _, r => r
  | .list sz xs, y, r => by
    simp only [RelV] at r ⊢
    obtain ⟨A, c, e, hc, r⟩ := r
    refine ⟨A, c, e, hc, ?_⟩
    rcases r with r | ⟨b, o, e, r⟩
    · exact .inl r
    · exact .inr ⟨b, o, e, RelRows.mono h r⟩
theorem RelRows.mono {M M' : Mem} (h : M.le M') : ∀ {sz b o : Nat} {xs : List (List V)}, RelRows M sz b o xs → RelRows M' sz b o xs
  | _, _, _, [], _ => by simp only [RelRows]
  | _, _, _, x :: xs, r => by
    simp only [RelRows] at r ⊢
    exact ⟨r.1, RelRow.mono h r.2.1, RelRows.mono h r.2.2⟩
theorem RelRow.mono {M M' : Mem} (h : M.le M') : ∀ {b o : Nat} {xs : List V}, RelRow M b o xs → RelRow M' b o xs
  | _, _, [], _ => by simp only [RelRow]
  | _, _, d :: ds, r => by
    simp only [RelRow] at r ⊢
    obtain ⟨⟨y, h1, h2⟩, h3⟩ := r
    exact ⟨⟨y, h _ _ _ h1, RelV.mono h h2⟩, RelRow.mono h h3⟩
end

mutual
theorem Rel.mono {M M' : Mem} {μ μ' : Mu} (h : M.le M') (k : μ.le μ') : ∀ {d : D} {y : Value}, Rel M μ d y → Rel M' μ' d y
  | .v x, _, r => by simp only [Rel] at r ⊢; exact RelV.mono h r
  | .agg cs, _, r => by simp only [Rel] at r ⊢; obtain ⟨vs, e, r⟩ := r; exact ⟨vs, e, RelL.mono h k r⟩
  | .tup cs, _, r => by simp only [Rel] at r ⊢; obtain ⟨vs, e, r⟩ := r; exact ⟨vs, e, RelL.mono h k r⟩
  | .own b ver len, _, r => by
    simp only [Rel] at r ⊢
    obtain ⟨r0, p, hp, h1, h2, h3⟩ := r
    obtain ⟨p', k1, k2, k3, _⟩ := k b p hp
    refine ⟨r0, p', k1, by omega, h2, fun e => ?_⟩
    have : p' = p := k3 (by omega)
    rw [this]; exact h3 (by rw [← this]; exact e)
  | .nils, _, r => by simp only [Rel] at r ⊢; exact r
  | .ptr b off, _, r => by
    simp only [Rel] at r ⊢
    obtain ⟨p, hp, h1, h2⟩ := r
    obtain ⟨p', k1, k2, k3, k4⟩ := k b p hp
    have : p' = p := k3 (by rw [k4 h1, h1])
    exact ⟨p', k1, k4 h1, by rw [this]; exact h2⟩
  | .eptr b ver sz i off, _, r => by
    simp only [Rel] at r ⊢
    obtain ⟨r0, p, hp, h1, h2, h3⟩ := r
    obtain ⟨p', k1, k2, k3, _⟩ := k b p hp
    refine ⟨r0, p', k1, by omega, h2, fun e => ?_⟩
    have : p' = p := k3 (by omega)
    rw [this]; exact h3 (by rw [← this]; exact e)
  | .rptr cs, _, r => by simp only [Rel] at r ⊢; obtain ⟨b, o, e, r⟩ := r; exact ⟨b, o, e, RelRow.mono h r⟩
  | .nilp, _, r => by simp only [Rel] at r ⊢; exact r
  | .map m, _, r => by
    simp only [Rel] at r ⊢
    obtain ⟨p, hp, h1, h2⟩ := r
    obtain ⟨p', k1, k2, k3, k4⟩ := k m p hp
    have : p' = p := k3 (by rw [k4 h1, h1])
    exact ⟨p', k1, k4 h1, by rw [this]; exact h2⟩
  | .nilm, _, r => by simp only [Rel] at r ⊢; exact r
  | .fn f caps, _, r => by simp only [Rel] at r ⊢; obtain ⟨vs, e, r⟩ := r; exact ⟨vs, e, RelL.mono h k r⟩
  | .nilf, _, r => by simp only [Rel] at r ⊢; exact r
  | .sub b ver sz off len cap, _, r => by
    simp only [Rel] at r ⊢
    obtain ⟨r0, p, hp, h1, h2, h3⟩ := r
    obtain ⟨p', k1, k2, k3, _⟩ := k b p hp
    refine ⟨r0, p', k1, by omega, h2, fun e => ?_⟩
    have : p' = p := k3 (by omega)
    rw [this]; exact h3 (by rw [← this]; exact e)
  | .any, _, _ => by simp only [Rel]
theorem RelL.mono {M M' : Mem} {μ μ' : Mu} (h : M.le M') (k : μ.le μ') : ∀ {ds : List D} {ys : List Value}, RelL M μ ds ys → RelL M' μ' ds ys
  | [], _, r => by simp only [RelL] at r ⊢; exact r
  | d :: ds, _, r => by
    simp only [RelL] at r ⊢
    obtain ⟨v, vs, e, r1, r2⟩ := r
    exact ⟨v, vs, e, Rel.mono h k r1, RelL.mono h k r2⟩
end

/-! ### Lists -/
theorem RelL.nil_iff {M : Mem} {μ : Mu} {ys : List Value} : RelL M μ [] ys ↔ ys = [] := by simp only [RelL]
theorem RelL.cons_iff {M : Mem} {μ : Mu} {d : D} {ds : List D} {y : Value} {ys : List Value} : RelL M μ (d :: ds) (y :: ys) ↔ Rel M μ d y ∧ RelL M μ ds ys := by
  simp only [RelL]
  constructor
  · rintro ⟨v, vs, e, h1, h2⟩; cases e; exact ⟨h1, h2⟩
  · rintro ⟨h1, h2⟩; exact ⟨y, ys, rfl, h1, h2⟩
theorem RelL.length {M : Mem} {μ : Mu} : ∀ {ds : List D} {ys : List Value}, RelL M μ ds ys → ys.length = ds.length
  | [], _, r => by simp only [RelL] at r; simp [r]
  | d :: ds, _, r => by
    simp only [RelL] at r
    obtain ⟨v, vs, e, _, r2⟩ := r
    simp [e, RelL.length r2]
theorem RelL.get {M : Mem} {μ : Mu} : ∀ {ds : List D} {ys : List Value}, RelL M μ ds ys → ∀ (i : Nat) (d : D), ds[i]? = some d → ∃ y, ys[i]? = some y ∧ Rel M μ d y
  | [], _, _, _, _, h => by simp at h
  | d :: ds, _, r, i, d', h => by
    simp only [RelL] at r
    obtain ⟨v, vs, e, r1, r2⟩ := r
    subst e
    cases i with
    | zero => simp at h; subst h; exact ⟨v, by simp, r1⟩
    | succ i => simp at h; obtain ⟨y, h1, h2⟩ := RelL.get r2 i d' h; exact ⟨y, by simpa using h1, h2⟩
theorem RelL.of_get {M : Mem} {μ : Mu} : ∀ {ds : List D} {ys : List Value}, ys.length = ds.length → (∀ (i : Nat) (d : D) (y : Value), ds[i]? = some d → ys[i]? = some y → Rel M μ d y) → RelL M μ ds ys
  | [], ys, h, _ => by simp only [RelL]; simpa using h
  | d :: ds, [], h, _ => by simp at h
  | d :: ds, y :: ys, h, k => by
    rw [RelL.cons_iff]
    exact ⟨k 0 d y (by simp) (by simp), RelL.of_get (by simpa using h) fun i d' y' h1 h2 => k (i + 1) d' y' (by simpa using h1) (by simpa using h2)⟩
theorem RelL.set {M : Mem} {μ : Mu} {ds : List D} {ys : List Value} (h : RelL M μ ds ys) {d : D} {y : Value} (hd : Rel M μ d y) (i : Nat) : RelL M μ (ds.set i d) (ys.set i y) := by
  have hl := h.length
  refine RelL.of_get (by simp [hl]) fun j d' y' h1 h2 => ?_
  rw [List.getElem?_set] at h1 h2
  split at h1
  · rename_i e; subst e
    rw [if_pos rfl] at h2
    split at h1
    · split at h2
      · cases h1; cases h2; exact hd
      · simp at h2
    · simp at h1
  · rename_i e
    rw [if_neg e] at h2
    obtain ⟨y2, k1, k2⟩ := h.get j d' h1
    rw [k1] at h2; cases h2; exact k2
theorem RelL.append {M : Mem} {μ : Mu} : ∀ {ds es : List D} {ys zs : List Value}, RelL M μ ds ys → RelL M μ es zs → RelL M μ (ds ++ es) (ys ++ zs)
  | [], es, ys, zs, h, k => by simp only [RelL] at h; subst h; simpa using k
  | d :: ds, es, ys, zs, h, k => by
    simp only [RelL] at h
    obtain ⟨v, vs, e, r1, r2⟩ := h
    subst e
    simp only [List.cons_append, RelL.cons_iff]
    exact ⟨r1, RelL.append r2 k⟩
theorem RelL.take {M : Mem} {μ : Mu} {ds : List D} {ys : List Value} (h : RelL M μ ds ys) (n : Nat) : RelL M μ (ds.take n) (ys.take n) := by
  refine RelL.of_get (by simp [h.length]) fun i d y h1 h2 => ?_
  rw [List.getElem?_take] at h1 h2
  split at h1
  · rename_i e; rw [if_pos e] at h2
    obtain ⟨y2, k1, k2⟩ := h.get i d h1
    rw [k1] at h2; cases h2; exact k2
  · simp at h1
theorem RelL.drop {M : Mem} {μ : Mu} {ds : List D} {ys : List Value} (h : RelL M μ ds ys) (n : Nat) : RelL M μ (ds.drop n) (ys.drop n) := by
  refine RelL.of_get (by simp [h.length]) fun i d y h1 h2 => ?_
  rw [List.getElem?_drop] at h1 h2
  obtain ⟨y2, k1, k2⟩ := h.get (n + i) d h1
  rw [k1] at h2; cases h2; exact k2

theorem RelRow.get {M : Mem} : ∀ {b o : Nat} {cs : List V}, RelRow M b o cs → ∀ (j : Nat) (x : V), cs[j]? = some x → ∃ y, M b (o + j) = some y ∧ RelV M x y
  | _, _, [], _, _, _, h => by simp at h
  | b, o, c :: cs, r, j, x, h => by
    simp only [RelRow] at r
    cases j with
    | zero => simp at h; subst h; simpa using r.1
    | succ j =>
      obtain ⟨y, h1, h2⟩ := RelRow.get r.2 j x (by simpa using h)
      exact ⟨y, by rw [show o + (j + 1) = o + 1 + j from by omega]; exact h1, h2⟩
theorem RelRow.of_get {M : Mem} : ∀ {b o : Nat} {cs : List V}, (∀ (j : Nat) (x : V), cs[j]? = some x → ∃ y, M b (o + j) = some y ∧ RelV M x y) → RelRow M b o cs
  | _, _, [], _ => by simp only [RelRow]
  | b, o, c :: cs, h => by
    simp only [RelRow]
    refine ⟨by simpa using h 0 c (by simp), RelRow.of_get fun j x hx => ?_⟩
    have := h (j + 1) x (by simpa using hx)
    rwa [show o + (j + 1) = o + 1 + j from by omega] at this
theorem RelRow.drop {M : Mem} {b o : Nat} {cs : List V} (h : RelRow M b o cs) (n : Nat) : RelRow M b (o + n) (cs.drop n) :=
  RelRow.of_get fun j x hx => by
    rw [List.getElem?_drop] at hx
    have := h.get (n + j) x hx
    rwa [← Nat.add_assoc] at this
theorem RelRow.take {M : Mem} {b o : Nat} {cs : List V} (h : RelRow M b o cs) (n : Nat) : RelRow M b o (cs.take n) :=
  RelRow.of_get fun j x hx => by
    rw [List.getElem?_take] at hx
    split at hx
    · exact h.get j x hx
    · simp at hx
theorem RelRows.get {M : Mem} : ∀ {sz b o : Nat} {xs : List (List V)}, RelRows M sz b o xs → ∀ (i : Nat) (x : List V), xs[i]? = some x → x.length = sz ∧ RelRow M b (o + i * sz) x
  | _, _, _, [], _, _, _, h => by simp at h
  | sz, b, o, x :: xs, r, i, x', h => by
    simp only [RelRows] at r
    cases i with
    | zero => simp at h; subst h; simpa using ⟨r.1, r.2.1⟩
    | succ i =>
      have := RelRows.get r.2.2 i x' (by simpa using h)
      rw [show o + (i + 1) * sz = o + sz + i * sz from by rw [Nat.add_mul, Nat.one_mul]; omega]
      exact this
theorem RelRows.of_get {M : Mem} : ∀ {sz b o : Nat} {xs : List (List V)}, (∀ (i : Nat) (x : List V), xs[i]? = some x → x.length = sz ∧ RelRow M b (o + i * sz) x) → RelRows M sz b o xs
  | _, _, _, [], _ => by simp only [RelRows]
  | sz, b, o, x :: xs, h => by
    simp only [RelRows]
    have h0 := h 0 x (by simp)
    refine ⟨h0.1, by simpa using h0.2, RelRows.of_get fun i x' hx => ?_⟩
    have := h (i + 1) x' (by simpa using hx)
    rwa [show o + (i + 1) * sz = o + sz + i * sz from by rw [Nat.add_mul, Nat.one_mul]; omega] at this
theorem RelRows.drop {M : Mem} {sz b o : Nat} {xs : List (List V)} (h : RelRows M sz b o xs) (n : Nat) : RelRows M sz b (o + n * sz) (xs.drop n) :=
  RelRows.of_get fun i x hx => by
    rw [List.getElem?_drop] at hx
    have := h.get (n + i) x hx
    rwa [Nat.add_mul, ← Nat.add_assoc] at this
theorem RelRows.take {M : Mem} {sz b o : Nat} {xs : List (List V)} (h : RelRows M sz b o xs) (n : Nat) : RelRows M sz b o (xs.take n) :=
  RelRows.of_get fun i x hx => by
    rw [List.getElem?_take] at hx
    split at hx
    · exact h.get i x hx
    · simp at hx

/-- A slot's content that fills one cell. -/
def D.cell : D → Bool
  | .agg _ | .tup _ | .any => false
  | _ => true
theorem RelV.one {M : Mem} {x : V} {y : Value} (h : RelV M x y) : y.oneCell' = true := by
  cases x <;> simp only [RelV] at h
  case list sz xs => obtain ⟨A, c, e, _⟩ := h; subst e; rfl
  all_goals subst h; rfl
theorem Rel.one {M : Mem} {μ : Mu} {d : D} {y : Value} (h : Rel M μ d y) (hc : d.cell = true) : y.oneCell' = true := by
  cases d <;> simp only [Rel] at h <;> simp only [D.cell] at hc
  case v x => exact RelV.one h
  case own b ver len => obtain ⟨⟨A, n, c, e⟩, _⟩ := h; subst e; rfl
  case nils => subst h; rfl
  case ptr b off => obtain ⟨p, _, _, e⟩ := h; subst e; rfl
  case eptr => obtain ⟨⟨A, e⟩, _⟩ := h; subst e; rfl
  case rptr cs => obtain ⟨b, o, e, _⟩ := h; subst e; rfl
  case nilp => subst h; rfl
  case map m => obtain ⟨p, _, _, e⟩ := h; subst e; rfl
  case nilm => subst h; rfl
  case fn f caps => obtain ⟨vs, e, _⟩ := h; subst e; rfl
  case nilf => subst h; rfl
  case sub => obtain ⟨⟨A, n, c, e⟩, _⟩ := h; subst e; rfl
  all_goals cases hc

theorem RelL.v_of_row {M : Mem} {μ : Mu} {b o : Nat} {cs : List V} (h : RelRow M b o cs) {ys : List Value} (hl : ys.length = cs.length) (hy : ∀ j y, ys[j]? = some y → M b (o + j) = some y) : RelL M μ (cs.map .v) ys := by
  refine RelL.of_get (by simp [hl]) fun i d y h1 h2 => ?_
  rw [List.getElem?_map] at h1
  cases hc : cs[i]? with
  | none => simp [hc] at h1
  | some x =>
    simp [hc] at h1
    subst h1
    obtain ⟨y', k1, k2⟩ := h.get i x hc
    rw [hy i y h2] at k1
    cases k1
    simp only [Rel]
    exact k2

end Go.Ag
/- AGo, part 2: abstract heaps and the world. -/
namespace Go.Ag
open Go Go.RowKit

inductive Ob where
  | box (cs : List D)
  | arr (ver sz : Nat) (xs : List (List D)) (esc : Nat)
  | mp (es : List (D × D × Nat))
  | dead

def Rows (M : Mem) (μ : Mu) (sz : Nat) (xs : List (List D)) (vs : List Value) : Prop :=
  ∀ i x, xs[i]? = some x → x.length = sz ∧ RelL M μ x ((vs.drop (i * sz)).take sz)

def EntRel (M : Mem) (μ : Mu) : List (D × D × Nat) → List MapEntry → Prop
  | [], es => es = []
  | d :: ds, es => ∃ e es', es = e :: es' ∧ Rel M μ d.1 e.key ∧ Rel M μ d.2.1 e.val ∧ e.born = d.2.2 ∧ EntRel M μ ds es'

def ObRel (base : Nat) (M : Mem) (μ : Mu) (w : World) : Ob → Pt → Prop
  | .dead, _ => True
  | .box cs, p => base ≤ p.blk ∧ p.ver = 0 ∧ (∀ o, M p.blk o = none) ∧ ∃ (vs : List Value) (t : TypeId), w.heap[p.blk]? = some (.cells vs.toArray t (0, 0)) ∧ RelL M μ cs vs
  | .arr ver sz xs esc, p => base ≤ p.blk ∧ p.ver = ver ∧ 1 ≤ ver ∧ (∀ o y, M p.blk o = some y → o < esc * sz) ∧ xs.length ≤ p.cap ∧
      ∃ (vs : List Value) (t : TypeId), w.heap[p.blk]? = some (.cells vs.toArray t (0, 0)) ∧ vs.length = p.cap * sz ∧ Rows M μ sz xs vs
  | .mp es, p => base ≤ p.blk ∧ p.ver = 0 ∧ (∀ o, M p.blk o = none) ∧ ∃ (ents : Array MapEntry) (clock : Nat), w.heap[p.blk]? = some (.map ents clock) ∧ EntRel M μ es ents.toList ∧
      (∀ e ∈ ents.toList, e.born < clock) ∧ (ents.toList.map (·.born)).Nodup

structure Env where
  P : Program
  G : Nat → Option (List V)
  w0 : World
  M0 : Mem
  μ0 : Mu
  H0 : List Ob

structure R (E : Env) (M : Mem) (μ : Mu) (H : List Ob) (w : World) : Prop where
  below : Below E.w0.heap.size E.w0 w
  imm : ∀ b o y, M b o = some y → w.cell? ⟨b, o, none⟩ = some y
  glob : ∀ g cs, E.G g = some cs → RelRow M g 0 cs
  dom : ∀ i p, μ i = some p → i < H.length
  obj : ∀ i o p, H[i]? = some o → μ i = some p → ObRel E.w0.heap.size M μ w o p
  sep : ∀ i j oi oj pi pj, i ≠ j → H[i]? = some oi → H[j]? = some oj → oi ≠ .dead → oj ≠ .dead → μ i = some pi → μ j = some pj → pi.blk ≠ pj.blk
  tot : ∀ i, i < H.length → ∃ p, μ i = some p

theorem Rows.mono {M M' : Mem} {μ μ' : Mu} (h : M.le M') (k : μ.le μ') {sz : Nat} {xs : List (List D)} {vs : List Value} (r : Rows M μ sz xs vs) : Rows M' μ' sz xs vs :=
  fun i x hx => ⟨(r i x hx).1, RelL.mono h k (r i x hx).2⟩
theorem EntRel.mono {M M' : Mem} {μ μ' : Mu} (h : M.le M') (k : μ.le μ') : ∀ {ds : List (D × D × Nat)} {es : List MapEntry}, EntRel M μ ds es → EntRel M' μ' ds es
  | [], _, r => r
  | d :: ds, _, ⟨e, es, h1, h2, h3, hb, h4⟩ => ⟨e, es, h1, Rel.mono h k h2, Rel.mono h k h3, hb, EntRel.mono h k h4⟩

theorem ObRel.lt {base : Nat} {M : Mem} {μ : Mu} {w : World} {o : Ob} {p : Pt} (h : ObRel base M μ w o p) (ho : o ≠ .dead) : p.blk < w.heap.size := by
  have : ∃ x, w.heap[p.blk]? = some x := by
    cases o with
    | dead => exact absurd rfl ho
    | box cs => obtain ⟨_, _, _, vs, t, hb, _⟩ := h; exact ⟨_, hb⟩
    | arr ver sz xs esc => obtain ⟨_, _, _, _, _, vs, t, hb, _⟩ := h; exact ⟨_, hb⟩
    | mp es => obtain ⟨_, _, _, ents, c, hb, _⟩ := h; exact ⟨_, hb⟩
  obtain ⟨x, hx⟩ := this
  exact (Array.getElem?_eq_some_iff.1 hx).1
theorem ObRel.base_le {base : Nat} {M : Mem} {μ : Mu} {w : World} {o : Ob} {p : Pt} (h : ObRel base M μ w o p) (ho : o ≠ .dead) : base ≤ p.blk := by
  cases o with
  | dead => exact absurd rfl ho
  | box cs => exact h.1
  | arr ver sz xs esc => exact h.1
  | mp es => exact h.1

/-- An object whose block stays as it is. -/
theorem ObRel.same {base : Nat} {M : Mem} {μ μ' : Mu} {w w' : World} {o : Ob} {p : Pt} (h : ObRel base M μ w o p) (k : μ.le μ') (e : w'.heap[p.blk]? = w.heap[p.blk]?) : ObRel base M μ' w' o p := by
  cases o with
  | dead => trivial
  | box cs => obtain ⟨h1, h2, h3, vs, t, hb, h4⟩ := h; exact ⟨h1, h2, h3, vs, t, e.trans hb, RelL.mono (.refl _) k h4⟩
  | arr ver sz xs esc => obtain ⟨h1, h2, h3, h4, h5, vs, t, hb, h6, h7⟩ := h; exact ⟨h1, h2, h3, h4, h5, vs, t, e.trans hb, h6, h7.mono (.refl _) k⟩
  | mp es => obtain ⟨h1, h2, h3, ents, c, hb, h4, h5, h6⟩ := h; exact ⟨h1, h2, h3, ents, c, e.trans hb, h4.mono (.refl _) k, h5, h6⟩

theorem R.imm_lt {E : Env} {M : Mem} {μ : Mu} {H : List Ob} {w : World} (h : R E M μ H w) {b o : Nat} {y : Value} (hy : M b o = some y) : b < w.heap.size :=
  World.block_lt_of_cell? w _ (h.imm b o y hy)
theorem R.imm_new {E : Env} {M : Mem} {μ : Mu} {H : List Ob} {w : World} (h : R E M μ H w) (o : Nat) : M w.heap.size o = none := by
  cases hy : M w.heap.size o with
  | none => rfl
  | some y => have := h.imm_lt hy; omega
theorem R.mu_new {E : Env} {M : Mem} {μ : Mu} {H : List Ob} {w : World} (h : R E M μ H w) : μ H.length = none := by
  cases hy : μ H.length with
  | none => rfl
  | some y => have := h.dom _ _ hy; omega

def upd (μ : Mu) (i : Nat) (p : Pt) : Mu := fun j => if j = i then some p else μ j
theorem upd_self (μ : Mu) (i : Nat) (p : Pt) : upd μ i p i = some p := by simp [upd]
theorem upd_ne (μ : Mu) {i j : Nat} (p : Pt) (h : j ≠ i) : upd μ i p j = μ j := by simp [upd, h]
theorem Mu.le_upd_new {μ : Mu} {i : Nat} {p : Pt} (h : μ i = none) : μ.le (upd μ i p) := fun j q hq => by
  have : j ≠ i := fun e => by subst e; rw [h] at hq; cases hq
  exact ⟨q, by rw [upd_ne _ _ this]; exact hq, Nat.le_refl _, fun _ => rfl, fun h => h⟩
theorem Mu.le_upd_ver {μ : Mu} {i : Nat} {p q : Pt} (h : μ i = some q) (hv : q.ver < p.ver) (h1 : 1 ≤ q.ver) : μ.le (upd μ i p) := fun j r hr => by
  by_cases e : j = i
  · subst e
    rw [h] at hr; cases hr
    exact ⟨p, upd_self _ _ _, by omega, fun e => by omega, fun e => by omega⟩
  · exact ⟨r, by rw [upd_ne _ _ e]; exact hr, Nat.le_refl _, fun _ => rfl, fun h => h⟩

/-- Only draws. -/
theorem R.drew {E : Env} {M : Mem} {μ : Mu} {H : List Ob} {w : World} (h : R E M μ H w) : R E M μ H w.drew :=
  ⟨h.below.drew, fun b o y hy => h.imm b o y hy, h.glob, h.dom, fun i o p ho hp => (h.obj i o p ho hp).same (.refl _) rfl, h.sep, h.tot⟩

/-- A new object in a new block. -/
theorem R.push {E : Env} {M : Mem} {μ : Mu} {H : List Ob} {w : World} (h : R E M μ H w) {o : Ob} {ob : Obj} {p : Pt} (hp : p.blk = w.heap.size)
    (ho : ObRel E.w0.heap.size M (upd μ H.length p) (w.alloc ob) o p) : R E M (upd μ H.length p) (H ++ [o]) (w.alloc ob) := by
  have hle : μ.le (upd μ H.length p) := Mu.le_upd_new h.mu_new
  refine ⟨h.below.alloc h.below.size _, fun b o y hy => ?_, h.glob, fun i q hq => ?_, fun i o' q ho' hq => ?_, ?_, fun i hi => (by
    by_cases e : i = H.length
    · subst e; exact ⟨p, upd_self _ _ _⟩
    · rw [upd_ne _ _ e]; exact h.tot i (by simp at hi; omega))⟩
  · rw [World.cell?_alloc_lt _ _ _ (h.imm_lt hy)]; exact h.imm b o y hy
  · by_cases e : i = H.length
    · subst e; simp
    · rw [upd_ne _ _ e] at hq; have := h.dom i q hq; simp; omega
  · by_cases e : i = H.length
    · subst e
      rw [upd_self] at hq; cases hq
      simp at ho'; subst ho'
      exact ho
    · rw [upd_ne _ _ e] at hq
      have hlt := h.dom i q hq
      rw [List.getElem?_append_left hlt] at ho'
      have hob := h.obj i o' q ho' hq
      by_cases hd : o' = .dead
      · subst hd; trivial
      · exact hob.same hle (Below.heap_alloc _ _ _ (hob.lt hd))
  · intro i j oi oj pi pj hij hi hj di dj hpi hpj
    by_cases ei : i = H.length
    · subst ei
      rw [upd_self] at hpi; cases hpi
      have ej : j ≠ H.length := fun e => hij e.symm
      rw [upd_ne _ _ ej] at hpj
      have hlt := h.dom j pj hpj
      rw [List.getElem?_append_left hlt] at hj
      have := (h.obj j oj pj hj hpj).lt dj
      omega
    · rw [upd_ne _ _ ei] at hpi
      have hlt := h.dom i pi hpi
      rw [List.getElem?_append_left hlt] at hi
      by_cases ej : j = H.length
      · subst ej
        rw [upd_self] at hpj; cases hpj
        have := (h.obj i oi pi hi hpi).lt di
        omega
      · rw [upd_ne _ _ ej] at hpj
        have hlt := h.dom j pj hpj
        rw [List.getElem?_append_left hlt] at hj
        exact h.sep i j oi oj pi pj hij hi hj di dj hpi hpj

/-- One object's block is written. -/
theorem R.setOb {E : Env} {M : Mem} {μ : Mu} {H : List Ob} {w w' : World} (h : R E M μ H w) {i : Nat} {o o' : Ob} {p : Pt} (hi : H[i]? = some o) (hd : o ≠ .dead) (hp : μ i = some p)
    (hos : w'.os = w.os) (htape : w'.tape = w.tape) (hout : w'.output = w.output) (hsz : w'.heap.size = w.heap.size)
    (hother : ∀ k, k ≠ p.blk → w'.heap[k]? = w.heap[k]?) (himm : ∀ o y, M p.blk o = some y → w'.cell? ⟨p.blk, o, none⟩ = some y)
    (ho' : ObRel E.w0.heap.size M μ w' o' p) : R E M μ (H.set i o') w' := by
  have hob := h.obj i o p hi hp
  have hb := hob.base_le hd
  have hlt : i < H.length := h.dom i p hp
  refine ⟨h.below.trans ⟨hos, htape, hout, by omega, fun k hk => hother k (by omega)⟩, fun b o y hy => ?_, h.glob, fun j q hq => by simpa using h.dom j q hq, fun j oj q hj hq => ?_, ?_, fun j hj => h.tot j (by simpa using hj)⟩
  · by_cases e : b = p.blk
    · subst e; exact himm o y hy
    · rw [World.cell?_of_block (w := w) (hother b e)]; exact h.imm b o y hy
  · by_cases e : j = i
    · subst e
      rw [hp] at hq; cases hq
      rw [List.getElem?_set_self hlt] at hj; cases hj
      exact ho'
    · rw [List.getElem?_set_ne (fun x => e x.symm)] at hj
      have hoj := h.obj j oj q hj hq
      by_cases hdj : oj = .dead
      · subst hdj; trivial
      · exact hoj.same (.refl _) (hother _ (h.sep j i oj o q p e hj hi hdj hd hq hp))
  · intro j k oj ok pj pk hjk hj hk dj dk hpj hpk
    have back : ∀ (j : Nat) (oj : Ob), (H.set i o')[j]? = some oj → oj ≠ .dead → ∃ oj', H[j]? = some oj' ∧ oj' ≠ .dead := fun j oj hj dj => by
      by_cases e : j = i
      · subst e; exact ⟨o, hi, hd⟩
      · rw [List.getElem?_set_ne (fun x => e x.symm)] at hj; exact ⟨oj, hj, dj⟩
    obtain ⟨oj', hj', dj'⟩ := back j oj hj dj
    obtain ⟨ok', hk', dk'⟩ := back k ok hk dk
    exact h.sep j k oj' ok' pj pk hjk hj' hk' dj' dk' hpj hpk

/-- An array is laid anew, in a new block. -/
theorem R.relay {E : Env} {M : Mem} {μ : Mu} {H : List Ob} {w : World} (h : R E M μ H w) {i : Nat} {o o' : Ob} {ob : Obj} {p q : Pt} (hi : H[i]? = some o) (hd : o ≠ .dead) (hp : μ i = some p)
    (hq : q.blk = w.heap.size) (hv : p.ver < q.ver) (h1 : 1 ≤ p.ver)
    (ho' : ObRel E.w0.heap.size M (upd μ i q) (w.alloc ob) o' q) : R E M (upd μ i q) (H.set i o') (w.alloc ob) := by
  have hle : μ.le (upd μ i q) := Mu.le_upd_ver hp hv h1
  have hlt : i < H.length := h.dom i p hp
  refine ⟨h.below.alloc h.below.size _, fun b o y hy => ?_, h.glob, fun j r hr => ?_, fun j oj r hj hr => ?_, ?_, fun j hj => (by
    by_cases e : j = i
    · subst e; exact ⟨q, upd_self _ _ _⟩
    · rw [upd_ne _ _ e]; exact h.tot j (by simpa using hj))⟩
  · rw [World.cell?_alloc_lt _ _ _ (h.imm_lt hy)]; exact h.imm b o y hy
  · by_cases e : j = i
    · subst e; simpa using hlt
    · rw [upd_ne _ _ e] at hr; simpa using h.dom j r hr
  · by_cases e : j = i
    · subst e
      rw [upd_self] at hr; cases hr
      rw [List.getElem?_set_self hlt] at hj; cases hj
      exact ho'
    · rw [upd_ne _ _ e] at hr
      rw [List.getElem?_set_ne (fun x => e x.symm)] at hj
      have hoj := h.obj j oj r hj hr
      by_cases hdj : oj = .dead
      · subst hdj; trivial
      · exact hoj.same hle (Below.heap_alloc _ _ _ (hoj.lt hdj))
  · intro j k oj ok pj pk hjk hj hk dj dk hpj hpk
    by_cases ej : j = i
    · subst ej
      rw [upd_self] at hpj; cases hpj
      have ek : k ≠ j := fun e => hjk e.symm
      rw [upd_ne _ _ ek] at hpk
      rw [List.getElem?_set_ne (fun x => ek x.symm)] at hk
      have := (h.obj k ok pk hk hpk).lt dk
      omega
    · rw [upd_ne _ _ ej] at hpj
      rw [List.getElem?_set_ne (fun x => ej x.symm)] at hj
      by_cases ek : k = i
      · subst ek
        rw [upd_self] at hpk; cases hpk
        have := (h.obj j oj pj hj hpj).lt dj
        omega
      · rw [upd_ne _ _ ek] at hpk
        rw [List.getElem?_set_ne (fun x => ek x.symm)] at hk
        exact h.sep j k oj ok pj pk hjk hj hk dj dk hpj hpk

/-- Fewer cells that never turn. -/
theorem R.less {E : Env} {M M' : Mem} {μ : Mu} {H : List Ob} {w : World} (h : R E M' μ H w) (hle : M.le M') (hg : ∀ g cs, E.G g = some cs → RelRow M g 0 cs)
    (hobj : ∀ i o p, H[i]? = some o → μ i = some p → ObRel E.w0.heap.size M μ w o p) : R E M μ H w :=
  ⟨h.below, fun b o y hy => h.imm b o y (hle b o y hy), hg, h.dom, hobj, h.sep, h.tot⟩

theorem cell?_block {w : World} {b : Nat} {vs : List Value} {t : TypeId} (h : w.heap[b]? = some (.cells vs.toArray t (0, 0))) (j : Nat) : w.cell? ⟨b, j, none⟩ = vs[j]? := by
  simp [World.cell?, h]
theorem frozen?_block {w : World} {b : Nat} {vs : List Value} {t : TypeId} (h : w.heap[b]? = some (.cells vs.toArray t (0, 0))) (j : Nat) : w.frozen? ⟨b, j, none⟩ = false := by
  simp [World.frozen?, h]

end Go.Ag
/- AGo, part 3: operations that read, and that make or write single variables. -/
namespace Go.Ag
open Go Go.RowKit

/-- What is asked of a type. -/
inductive TK where
  | st (sz : Nat) (fs : List (Nat × Nat))
  | ar (n esz sz : Nat)
  | sl (e esz bytes : Nat)
  | mp (k e : TypeId)
  | str
  | it (k : IntKind)
  | bl
  | pt
  | sc
  | no

def szB (P : Program) (t : TypeId) : Nat := match P.info? t with | some i => i.size | none => 0

def tk (P : Program) (t : TypeId) : TK :=
  match P.underlying t, P.info? t with
  | some (.struct fs), some i => .st i.size (fs.toList.map fun f => (f.offset, szB P f.type))
  | some (.array n e), some i => .ar n (szB P e) i.size
  | some (.slice e), some _ => match P.info? e with | some j => .sl e j.size j.bytes | none => .no
  | some (.map k e), some _ => .mp k e
  | some .string, some _ => .str
  | some (.int k), some _ => .it k
  | some .bool, some _ => .bl
  | some (.pointer _), some _ => .pt
  | some _, some _ => .sc
  | _, _ => .no

def TK.row : TK → Option Nat
  | .st sz _ => some sz
  | .ar _ _ sz => some sz
  | _ => none

theorem tk_row {P : Program} {t : TypeId} {n : Nat} (h : (tk P t).row = some n) : ∃ d, P.underlying t = some d ∧ d.isRow = true ∧ (P.info? t).map (·.size) = some n := by
  unfold tk at h
  cases hu : P.underlying t with
  | none => simp [hu, TK.row] at h
  | some d =>
    cases hi : P.info? t with
    | none => simp [hu, hi] at h; cases d <;> simp [TK.row] at h
    | some i =>
      simp only [hu, hi] at h
      cases d <;> simp only [TK.row] at h
      case slice e => cases hj : P.info? e <;> simp [hj] at h
      case struct fs => exact ⟨_, rfl, rfl, by simpa using h⟩
      case array k e => exact ⟨_, rfl, rfl, by simpa using h⟩
      all_goals cases h
theorem tk_one {P : Program} {t : TypeId} (h : (tk P t).row = none) (h0 : tk P t ≠ .no) : ∃ d, P.underlying t = some d ∧ d.isRow = false := by
  unfold tk at h h0
  cases hu : P.underlying t with
  | none => simp [hu] at h0
  | some d =>
    cases hi : P.info? t with
    | none => simp only [hu, hi] at h0; cases d <;> simp at h0
    | some i =>
      simp only [hu, hi] at h
      cases d <;> simp only [TK.row] at h <;> first | exact ⟨_, rfl, rfl⟩ | cases h
theorem tk_ne {T : TK} (h : T.row = none → T ≠ .no) : T ≠ .no := by
  cases T <;> simp_all [TK.row]

/-- What an operation that makes a value comes to. -/
def Ok (E : Env) (M : Mem) (μ : Mu) (s : Sem Value) (w : World) (K : D → List Ob → Prop) : Prop :=
  ∃ v w' d M' μ' H', s.run E.P w = .ok v w' ∧ M.le M' ∧ μ.le μ' ∧ R E M' μ' H' w' ∧ Rel M' μ' d v ∧ K d H'

theorem Ok.same {E : Env} {M : Mem} {μ : Mu} {H : List Ob} {w : World} {s : Sem Value} {K : D → List Ob → Prop} (h : R E M μ H w) {v : Value} {d : D} (hr : s.run E.P w = .ok v w) (hd : Rel M μ d v) (k : K d H) : Ok E M μ s w K :=
  ⟨v, w, d, M, μ, H, hr, .refl _, .refl _, h, hd, k⟩

/-! ### load -/
def aLoad (P : Program) (t : TypeId) (d : D) (H : List Ob) (K : D → Prop) : Prop :=
  match (tk P t).row with
  | some sz => (match d with
    | .rptr cs => sz ≤ cs.length ∧ K (.agg ((cs.take sz).map .v))
    | .ptr b off => (match H[b]? with
      | some (.box cs) => off + sz ≤ cs.length ∧ K (.agg ((cs.drop off).take sz))
      | _ => False)
    | .eptr b ver sz' i off => (match H[b]? with
      | some (.arr ver' sz2 xs _) => ver' = ver ∧ sz2 = sz' ∧ (match xs[i]? with
        | some x => off + sz ≤ x.length ∧ K (.agg ((x.drop off).take sz))
        | none => False)
      | _ => False)
    | _ => False)
  | none => tk P t ≠ .no ∧ (match d with
    | .rptr cs => (match cs with | c :: _ => K (.v c) | [] => False)
    | .ptr b off => (match H[b]? with
      | some (.box cs) => (match cs[off]? with | some d => K d | none => False)
      | _ => False)
    | .eptr b ver sz' i off => (match H[b]? with
      | some (.arr ver' sz2 xs _) => ver' = ver ∧ sz2 = sz' ∧ (match xs[i]? with
        | some x => (match x[off]? with | some d => K d | none => False)
        | none => False)
      | _ => False)
    | _ => False)

theorem run_loadAt_one {P : Program} {t : TypeId} {d : TypeDesc} (hu : P.underlying t = some d) (hd : d.isRow = false) {w : World} {a : Addr} {v : Value} (h : w.cell? a = some v) :
    (Instr.loadAt t (.pointer (some a))).run P w = .ok v w := by
  have hagg : (isAgg t).run P w = .ok false w := by
    unfold isAgg
    rw [Sem.run_bind, run_underlying hu w]
    cases d <;> simp_all
  simp [Instr.loadAt, Instr.sureAddr, loadVar, hagg, h]

/-- A stretch of an object's block, as a list. -/
theorem rangeAt_block {w : World} {b : Nat} {vs : List Value} {t : TypeId} (h : w.heap[b]? = some (.cells vs.toArray t (0, 0))) (o : Nat) (cs : List Value) (hc : ∀ j v, cs[j]? = some v → vs[o + j]? = some v) : w.rangeAt b o cs :=
  fun j v hv => by rw [cell?_block h]; exact hc j v hv

theorem aLoad_sound {E : Env} {M : Mem} {μ : Mu} {H : List Ob} {w : World} (h : R E M μ H w) {t : TypeId} {d : D} {y : Value} (hy : Rel M μ d y) {K : D → Prop} (k : aLoad E.P t d H K) :
    ∃ v d', (Instr.loadAt t y).run E.P w = .ok v w ∧ Rel M μ d' v ∧ K d' := by
  unfold aLoad at k
  cases hrow : (tk E.P t).row with
  | some sz =>
    obtain ⟨td, hu, hd, hi⟩ := tk_row hrow
    simp only [hrow] at k
    cases d <;> simp only [] at k
    case rptr cs =>
      simp only [Rel] at hy
      obtain ⟨b, o, rfl, hr⟩ := hy
      obtain ⟨hlen, k⟩ := k
      have hr' := hr.take sz
      obtain ⟨ys, hys, hl⟩ : ∃ ys : List Value, (∀ j x, (cs.take sz)[j]? = some x → ∃ y, ys[j]? = some y ∧ M b (o + j) = some y) ∧ ys.length = (cs.take sz).length := by
        refine ⟨(List.range (cs.take sz).length).map fun j => (M b (o + j)).getD undef, fun j x hx => ?_, by simp⟩
        obtain ⟨y, h1, _⟩ := hr'.get j x hx
        have hj : j < (cs.take sz).length := (List.getElem?_eq_some_iff.1 hx).1
        exact ⟨y, by simp only [List.getElem?_map, List.getElem?_range hj, Option.map_some, h1, Option.getD_some], h1⟩
      have hl2 : ys.length = sz := by simp [hl]; omega
      have hM : ∀ j y, ys[j]? = some y → M b (o + j) = some y := fun j y hj => by
        have hlt : j < (cs.take sz).length := by rw [← hl]; exact (List.getElem?_eq_some_iff.1 hj).1
        obtain ⟨y', h1, h2⟩ := hys j _ (List.getElem?_eq_getElem hlt)
        rw [hj] at h1; cases h1; exact h2
      refine ⟨_, _, run_loadAt_mid w b o t ys td (fun j v hv => h.imm _ _ _ (hM j v hv)) hu hd (by rw [hl2]; exact hi), ?_, k⟩
      simp only [Rel]
      exact ⟨ys, rfl, RelL.v_of_row hr' hl hM⟩
    case ptr b off =>
      simp only [Rel] at hy
      obtain ⟨p, hp, _, rfl⟩ := hy
      cases ho : H[b]? with
      | none => simp [ho] at k
      | some ob =>
        cases ob <;> simp only [ho] at k
        case box cs =>
          obtain ⟨hlen, k⟩ := k
          obtain ⟨_, _, _, vs, tt, hb, hv⟩ := h.obj b _ p ho hp
          have hvl := hv.length
          refine ⟨_, _, run_loadAt_mid w p.blk off t ((vs.drop off).take sz) td (rangeAt_block hb _ _ fun j v hj => ?_) hu hd (by rw [hi]; congr 1; simp; omega), ?_, k⟩
          · rw [List.getElem?_take] at hj
            split at hj
            · rwa [List.getElem?_drop] at hj
            · simp at hj
          · simp only [Rel]
            exact ⟨_, rfl, (hv.drop off).take sz⟩
        all_goals exact k.elim
    case eptr b ver sz' i off =>
      simp only [Rel] at hy
      obtain ⟨_, p, hp, _, _, hy⟩ := hy
      cases ho : H[b]? with
      | none => simp [ho] at k
      | some ob =>
        cases ob <;> simp only [ho] at k
        case arr ver' sz2 xs esc =>
          obtain ⟨rfl, rfl, k⟩ := k
          obtain ⟨_, hver, _, _, hcap, vs, tt, hb, hvl, hv⟩ := h.obj b _ p ho hp
          have hy := hy hver
          subst hy
          cases hx : xs[i]? with
          | none => simp [hx] at k
          | some x =>
            simp only [hx] at k
            obtain ⟨hlen, k⟩ := k
            obtain ⟨hxl, hr⟩ := hv i x hx
            have hrl := hr.length
            refine ⟨_, _, run_loadAt_mid w p.blk (i * sz2 + off) t ((((vs.drop (i * sz2)).take sz2).drop off).take sz) td (rangeAt_block hb _ _ fun j v hj => ?_) hu hd (by rw [hi]; congr 1; simp at hrl ⊢; omega), ?_, k⟩
            · rw [List.getElem?_take] at hj
              split at hj
              · rw [List.getElem?_drop, List.getElem?_take] at hj
                split at hj
                · rw [List.getElem?_drop] at hj
                  rw [← hj]; congr 1; omega
                · simp at hj
              · simp at hj
            · simp only [Rel]
              exact ⟨_, rfl, (hr.drop off).take sz⟩
        all_goals exact k.elim
    all_goals exact k.elim
  | none =>
    simp only [hrow] at k
    obtain ⟨h0, k⟩ := k
    obtain ⟨td, hu, hd⟩ := tk_one hrow h0
    cases d <;> simp only [] at k
    case rptr cs =>
      simp only [Rel] at hy
      obtain ⟨b, o, rfl, hr⟩ := hy
      cases cs with
      | nil => exact k.elim
      | cons c cs =>
        simp only [] at k
        simp only [RelRow] at hr
        obtain ⟨⟨y, h1, h2⟩, _⟩ := hr
        exact ⟨y, _, run_loadAt_one hu hd (h.imm _ _ _ h1), by simp only [Rel]; exact h2, k⟩
    case ptr b off =>
      simp only [Rel] at hy
      obtain ⟨p, hp, _, rfl⟩ := hy
      cases ho : H[b]? with
      | none => simp [ho] at k
      | some ob =>
        cases ob <;> simp only [ho] at k
        case box cs =>
          obtain ⟨_, _, _, vs, tt, hb, hv⟩ := h.obj b _ p ho hp
          cases hc : cs[off]? with
          | none => simp [hc] at k
          | some d =>
            simp only [hc] at k
            obtain ⟨y, h1, h2⟩ := hv.get off d hc
            exact ⟨y, _, run_loadAt_one hu hd (by rw [cell?_block hb]; exact h1), h2, k⟩
        all_goals exact k.elim
    case eptr b ver sz' i off =>
      simp only [Rel] at hy
      obtain ⟨_, p, hp, _, _, hy⟩ := hy
      cases ho : H[b]? with
      | none => simp [ho] at k
      | some ob =>
        cases ob <;> simp only [ho] at k
        case arr ver' sz2 xs esc =>
          obtain ⟨rfl, rfl, k⟩ := k
          obtain ⟨_, hver, _, _, hcap, vs, tt, hb, hvl, hv⟩ := h.obj b _ p ho hp
          have hy := hy hver
          subst hy
          cases hx : xs[i]? with
          | none => simp [hx] at k
          | some x =>
            simp only [hx] at k
            obtain ⟨hxl, hr⟩ := hv i x hx
            cases hc : x[off]? with
            | none => simp [hc] at k
            | some d =>
              simp only [hc] at k
              obtain ⟨y, h1, h2⟩ := hr.get off d hc
              rw [List.getElem?_take] at h1
              split at h1
              · rw [List.getElem?_drop] at h1
                exact ⟨y, _, run_loadAt_one hu hd (by rw [cell?_block hb]; exact h1), h2, k⟩
              · simp at h1
        all_goals exact k.elim
    all_goals exact k.elim

/-! ### the cells of a value -/
def D.cs : D → Option (List D)
  | .agg cs => if cs.all D.cell then some cs else none
  | .tup _ => none
  | .any => none
  | d => some [d]

theorem Rel.cells {M : Mem} {μ : Mu} {d : D} {v : Value} {ds : List D} (h : Rel M μ d v) (hc : d.cs = some ds) : RelL M μ ds v.cells.toList ∧ (∀ y ∈ v.cells.toList, y.oneCell' = true) := by
  have one : ∀ d : D, d.cell = true → Rel M μ d v → d.cs = some [d] → RelL M μ [d] v.cells.toList ∧ (∀ y ∈ v.cells.toList, y.oneCell' = true) := fun d hd hr _ => by
    have h1 := hr.one hd
    have : v.cells = #[v] := by cases v <;> first | rfl | (simp [Value.oneCell'] at h1)
    rw [this]
    exact ⟨by rw [List.toList_toArray]; rw [RelL.cons_iff]; exact ⟨hr, by simp only [RelL]⟩, fun y hy => by simp at hy; subst hy; exact h1⟩
  cases d
  case agg cs =>
    simp only [D.cs] at hc
    split at hc
    · rename_i hall
      cases hc
      simp only [Rel] at h
      obtain ⟨vs, rfl, hr⟩ := h
      refine ⟨by simpa [Value.cells] using hr, fun y hy => ?_⟩
      have hy : y ∈ vs := by simpa [Value.cells] using hy
      obtain ⟨i, hi⟩ := List.mem_iff_getElem?.1 hy
      have hlt : i < ds.length := by rw [← hr.length]; exact (List.getElem?_eq_some_iff.1 hi).1
      obtain ⟨y', h1, h2⟩ := hr.get i _ (List.getElem?_eq_getElem hlt)
      rw [hi] at h1; cases h1
      exact h2.one (List.all_eq_true.1 hall _ (List.getElem_mem hlt))
    · cases hc
  case tup => simp [D.cs] at hc
  case any => simp [D.cs] at hc
  all_goals simp only [D.cs, Option.some.injEq] at hc; subst hc; exact one _ rfl h rfl

end Go.Ag
/- AgO, part 4: addresses, variables, aggregates. -/
namespace Go.Ag
open Go Go.RowKit

/-! ### constants -/
def ofC : Value → D
  | .bool b => .v (.bool b)
  | .int k n => .v (.int k n)
  | .string s => .v (.str s.data.toList)
  | .pointer none => .nilp
  | .slice none 0 0 => .nils
  | .map none => .nilm
  | .nilFunc => .nilf
  | .nilIface => .v .nili
  | _ => .any
def ofConst : Value → D
  | .agg cs => .agg (cs.toList.map ofC)
  | .tuple cs => .tup (cs.toList.map ofC)
  | v => ofC v

theorem rel_ofC (M : Mem) (μ : Mu) (v : Value) : Rel M μ (ofC v) v := by
  unfold ofC
  split <;> simp only [Rel, RelV]
  all_goals rfl
theorem relL_ofC (M : Mem) (μ : Mu) : ∀ vs : List Value, RelL M μ (vs.map ofC) vs
  | [] => by simp only [List.map_nil, RelL]
  | v :: vs => by rw [List.map_cons, RelL.cons_iff]; exact ⟨rel_ofC M μ v, relL_ofC M μ vs⟩
theorem rel_ofConst (M : Mem) (μ : Mu) (v : Value) : Rel M μ (ofConst v) v := by
  unfold ofConst
  split
  · rename_i cs; simp only [Rel]; exact ⟨cs.toList, rfl, relL_ofC M μ _⟩
  · rename_i cs; simp only [Rel]; exact ⟨cs.toList, rfl, relL_ofC M μ _⟩
  · exact rel_ofC M μ _

/-- The cells of a type's zero. -/
def zerosB (P : Program) (t : TypeId) : Option (List D) := ((P.info? t).bind (·.zero)).bind fun v => some (v.cells.toList.map ofC)

theorem zerosB_spec {P : Program} {t : TypeId} {ds : List D} (h : zerosB P t = some ds) : ∃ z, (∀ w, (zeroValue t).run P w = .ok z w) ∧ ds = z.cells.toList.map ofC ∧ ∃ i, P.info? t = some i ∧ i.zero = some z := by
  unfold zerosB at h
  cases hi : P.info? t with
  | none => simp [hi] at h
  | some i =>
    cases hz : i.zero with
    | none => simp [hi, hz] at h
    | some z =>
      simp [hi, hz] at h
      exact ⟨z, fun w => by simp [zeroValue, typeInfo, hi, hz], h.symm, i, rfl, hz⟩

/-! ### a new variable -/
theorem R.newBox {E : Env} {M : Mem} {μ : Mu} {H : List Ob} {w : World} (h : R E M μ H w) {ds : List D} {vs : List Value} (hr : RelL M μ ds vs) (t : TypeId) :
    ∃ μ', μ.le μ' ∧ R E M μ' (H ++ [.box ds]) (w.alloc (.cells vs.toArray t)) ∧ Rel M μ' (.ptr H.length 0) (.pointer (some ⟨w.heap.size, 0, none⟩)) := by
  refine ⟨upd μ H.length ⟨w.heap.size, 0, 0⟩, Mu.le_upd_new h.mu_new, ?_, ?_⟩
  · refine h.push rfl ⟨h.below.size, rfl, fun o => h.imm_new o, vs, t, heap_alloc_new w _, RelL.mono (.refl _) (Mu.le_upd_new h.mu_new) hr⟩
  · simp only [Rel]; exact ⟨_, upd_self _ _ _, rfl, rfl⟩

def aAlloc (P : Program) (t : TypeId) (H : List Ob) (K : D → List Ob → Prop) : Prop :=
  match zerosB P t with
  | some ds => K (.ptr H.length 0) (H ++ [.box ds])
  | none => False
theorem aAlloc_sound {E : Env} {M : Mem} {μ : Mu} {H : List Ob} {w : World} (h : R E M μ H w) {t : TypeId} {K : D → List Ob → Prop} (k : aAlloc E.P t H K) :
    Ok E M μ (Instr.alloc t true (.tuple #[])) w K := by
  unfold aAlloc at k
  cases hz : zerosB E.P t with
  | none => simp [hz] at k
  | some ds =>
    simp only [hz] at k
    obtain ⟨z, hz1, rfl, _⟩ := zerosB_spec hz
    obtain ⟨μ', h1, h2, h3⟩ := h.newBox (relL_ofC M μ z.cells.toList) t
    refine ⟨_, _, _, M, μ', _, ?_, .refl _, h1, h2, h3, k⟩
    simp [Instr.alloc, hz1, newVar, newRow]

def aBox (d : D) (H : List Ob) (K : D → List Ob → Prop) : Prop :=
  match d.cs with
  | some ds => K (.ptr H.length 0) (H ++ [.box ds])
  | none => False
theorem aBox_sound {E : Env} {M : Mem} {μ : Mu} {H : List Ob} {w : World} (h : R E M μ H w) {t : TypeId} {d : D} {y : Value} (hy : Rel M μ d y) {K : D → List Ob → Prop} (k : aBox d H K) :
    Ok E M μ (Instr.box t y) w K := by
  unfold aBox at k
  cases hc : d.cs with
  | none => simp [hc] at k
  | some ds =>
    simp only [hc] at k
    obtain ⟨μ', h1, h2, h3⟩ := h.newBox (hy.cells hc).1 t
    refine ⟨_, _, _, M, μ', _, ?_, .refl _, h1, h2, h3, k⟩
    simp [Instr.box, newVar, newRow]

/-! ### store -/
def aStore (P : Program) (t : TypeId) (d x : D) (H : List Ob) (K : List Ob → Prop) : Prop :=
  match x.cs with
  | none => False
  | some ds => tk P t ≠ .no ∧ ds.length = szB P t ∧ (match d with
    | .ptr b off => (match H[b]? with
      | some (.box cs) => off + ds.length ≤ cs.length ∧ K (H.set b (.box (cs.take off ++ ds ++ cs.drop (off + ds.length))))
      | _ => False)
    | .eptr b ver sz i off => (match H[b]? with
      | some (.arr ver' sz2 xs esc) => ver' = ver ∧ sz2 = sz ∧ esc ≤ i ∧ (match xs[i]? with
        | some x => off + ds.length ≤ x.length ∧ K (H.set b (.arr ver' sz2 (xs.set i (x.take off ++ ds ++ x.drop (off + ds.length))) esc))
        | none => False)
      | _ => False)
    | _ => False)

theorem run_storeAt_block {P : Program} {t tt : TypeId} {w : World} {b off : Nat} {vs : List Value} {y : Value} (h0 : tk P t ≠ .no) (hb : w.heap[b]? = some (.cells vs.toArray tt (0, 0)))
    (hl : y.cells.size = szB P t) (h1 : ∀ x ∈ y.cells.toList, x.oneCell' = true) (hfit : off + y.cells.size ≤ vs.length) :
    (Instr.storeAt t (.pointer (some ⟨b, off, none⟩)) y).run P w = .ok () (w.setRow b (vs.take off ++ y.cells.toList ++ vs.drop (off + y.cells.size)).toArray) := by
  have hi : ∃ i, P.info? t = some i := by
    unfold tk at h0
    cases hi : P.info? t with
    | some i => exact ⟨i, rfl⟩
    | none => simp only [hi] at h0; cases hu : P.underlying t with
      | none => simp [hu] at h0
      | some d => simp only [hu] at h0; cases d <;> simp at h0
  obtain ⟨i, hi⟩ := hi
  have hs : szB P t = i.size := by simp [szB, hi]
  have hst := run_storeCells_at P b off tt y.cells.toList 0 vs.toArray w hb (by simpa using hfit) h1
  simp only [Nat.add_zero, List.toList_toArray, Array.length_toList] at hst
  simp [Instr.storeAt, Instr.sureAddr, storeVar, sizeOf, typeInfo, hi, hl, hs, hst]

theorem splice_get {α : Type} (l m : List α) (off : Nat) (h : off + m.length ≤ l.length) (j : Nat) : (l.take off ++ m ++ l.drop (off + m.length))[j]? = if j < off then l[j]? else if j < off + m.length then m[j - off]? else l[j]? := by
  have h1 : (l.take off).length = off := by simp; omega
  by_cases hj : j < off
  · rw [if_pos hj, List.append_assoc, List.getElem?_append_left (by omega), List.getElem?_take, if_pos hj]
  · rw [if_neg hj]
    by_cases hk : j < off + m.length
    · rw [if_pos hk, List.append_assoc, List.getElem?_append_right (by omega), h1, List.getElem?_append_left (by omega)]
    · rw [if_neg hk, List.append_assoc, List.getElem?_append_right (by omega), h1, List.getElem?_append_right (by omega), List.getElem?_drop]
      congr 1; omega
theorem splice_length {α : Type} (l m : List α) (off : Nat) (h : off + m.length ≤ l.length) : (l.take off ++ m ++ l.drop (off + m.length)).length = l.length := by
  simp; omega
theorem RelL.splice {M : Mem} {μ : Mu} {ds es : List D} {ys zs : List Value} (h : RelL M μ ds ys) (k : RelL M μ es zs) (off : Nat) : RelL M μ (ds.take off ++ es ++ ds.drop (off + es.length)) (ys.take off ++ zs ++ ys.drop (off + zs.length)) := by
  rw [k.length]
  exact ((h.take off).append k).append (h.drop _)

theorem aStore_sound {E : Env} {M : Mem} {μ : Mu} {H : List Ob} {w : World} (h : R E M μ H w) {t : TypeId} {d x : D} {y z : Value} (hy : Rel M μ d y) (hz : Rel M μ x z) {K : List Ob → Prop} (k : aStore E.P t d x H K) :
    ∃ w' H', (Instr.storeAt t y z).run E.P w = .ok () w' ∧ R E M μ H' w' ∧ K H' := by
  unfold aStore at k
  cases hc : x.cs with
  | none => simp [hc] at k
  | some ds =>
    simp only [hc] at k
    obtain ⟨h0, hsz, k⟩ := k
    obtain ⟨hrz, hone⟩ := hz.cells hc
    have hzl : z.cells.size = ds.length := by simpa using hrz.length
    cases d <;> simp only [] at k
    case ptr b off =>
      simp only [Rel] at hy
      obtain ⟨p, hp, hver, rfl⟩ := hy
      cases ho : H[b]? with
      | none => simp [ho] at k
      | some ob =>
        cases ob <;> simp only [ho] at k
        case box cs =>
          obtain ⟨hfit, k⟩ := k
          obtain ⟨h1, h2, h3, vs, tt, hb, hv⟩ := h.obj b _ p ho hp
          have hvl := hv.length
          have hrun := run_storeAt_block h0 hb (by rw [hzl, hsz]) hone (by rw [hzl, hvl]; exact hfit)
          refine ⟨_, _, hrun, h.setOb ho (by simp) hp rfl rfl rfl (by simp) (fun k hk => setRow_other w _ k _ hk) (fun o y hM => by rw [h3] at hM; cases hM) ?_, k⟩
          refine ⟨h1, h2, h3, _, tt, setRow_heap w _ _ _ tt _ hb, ?_⟩
          have := hv.splice hrz off
          rw [show z.cells.size = z.cells.toList.length from by simp]
          exact this
        all_goals exact k.elim
    case eptr b ver sz i off =>
      simp only [Rel] at hy
      obtain ⟨_, p, hp, _, _, hy⟩ := hy
      cases ho : H[b]? with
      | none => simp [ho] at k
      | some ob =>
        cases ob <;> simp only [ho] at k
        case arr ver' sz2 xs esc =>
          obtain ⟨rfl, rfl, hesc, k⟩ := k
          obtain ⟨h1, hver, hv1, himm, hcap, vs, tt, hb, hvl, hv⟩ := h.obj b _ p ho hp
          have hy := hy hver
          subst hy
          cases hx : xs[i]? with
          | none => simp [hx] at k
          | some x0 =>
            simp only [hx] at k
            obtain ⟨hfit, k⟩ := k
            obtain ⟨hxl, hr⟩ := hv i x0 hx
            have hil : i < xs.length := (List.getElem?_eq_some_iff.1 hx).1
            have hmul : (i + 1) * sz2 ≤ p.cap * sz2 := Nat.mul_le_mul_right _ (by omega)
            rw [Nat.add_mul, Nat.one_mul] at hmul
            have hfit2 : i * sz2 + off + z.cells.size ≤ vs.length := by rw [hzl, hvl]; omega
            have hrun := run_storeAt_block h0 hb (by rw [hzl, hsz]) hone hfit2
            have hsplen := splice_length vs z.cells.toList (i * sz2 + off) (by simpa using hfit2)
            have hspget := splice_get vs z.cells.toList (i * sz2 + off) (by simpa using hfit2)
            rw [show z.cells.toList.length = z.cells.size from by simp] at hsplen hspget
            refine ⟨_, _, hrun, h.setOb ho (by simp) hp rfl rfl rfl (by simp) (fun k hk => setRow_other w _ k _ hk) (fun o y hM => ?_) ?_, k⟩
            · rw [cell?_block (setRow_heap w _ _ _ tt _ hb), hspget]
              have ho1 := himm o y hM
              have hle : esc * sz2 ≤ i * sz2 := Nat.mul_le_mul_right _ hesc
              rw [if_pos (by omega)]
              have := h.imm _ _ _ hM
              rwa [cell?_block hb] at this
            · refine ⟨h1, hver, hv1, himm, by simpa using hcap, _, tt, setRow_heap w _ _ _ tt _ hb, by rw [hsplen]; exact hvl, fun j x hj => ?_⟩
              have hjl : j < xs.length := by have := (List.getElem?_eq_some_iff.1 hj).1; simpa using this
              by_cases e : j = i
              · subst e
                rw [List.getElem?_set_self hjl] at hj; cases hj
                refine ⟨by simp; omega, ?_⟩
                have hsp := hr.splice hrz off
                refine RelL.of_get ?_ fun q d' y' hq1 hq2 => ?_
                · simp; omega
                obtain ⟨y2, g1, g2⟩ := hsp.get q d' hq1
                have hrl : ((vs.drop (j * sz2)).take sz2).length = sz2 := by simp; omega
                have hq3 := splice_get ((vs.drop (j * sz2)).take sz2) z.cells.toList off (by simp; omega) q
                rw [g1] at hq3
                rw [List.getElem?_take] at hq2
                split at hq2
                · rename_i hqs
                  rw [List.getElem?_drop, hspget] at hq2
                  rw [show z.cells.toList.length = z.cells.size from by simp] at hq3
                  have : some y2 = some y' := by
                    rw [hq3, ← hq2]
                    by_cases c1 : q < off
                    · rw [if_pos c1, if_pos (by omega), List.getElem?_take, if_pos hqs, List.getElem?_drop]
                    · rw [if_neg c1, if_neg (show ¬ (j * sz2 + q < j * sz2 + off) from by omega)]
                      by_cases c2 : q < off + z.cells.size
                      · rw [if_pos c2, if_pos (by omega)]; congr 1; omega
                      · rw [if_neg c2, if_neg (by omega), List.getElem?_take, if_pos hqs, List.getElem?_drop]
                  cases this; exact g2
                · simp at hq2
              · rw [List.getElem?_set_ne (fun x => e x.symm)] at hj
                obtain ⟨g1, g2⟩ := hv j x hj
                refine ⟨g1, RelL.of_get ?_ fun q d' y' hq1 hq2 => ?_⟩
                · have := g2.length; simp at this ⊢; omega
                obtain ⟨y2, k1, k2⟩ := g2.get q d' hq1
                rw [List.getElem?_take] at hq2 k1
                split at hq2
                · rename_i hqs
                  rw [if_pos hqs] at k1
                  rw [List.getElem?_drop, hspget] at hq2
                  rw [List.getElem?_drop] at k1
                  have hne : j < i ∨ i < j := by omega
                  have : some y2 = some y' := by
                    rw [← k1, ← hq2]
                    rcases hne with hne | hne
                    · have : (j + 1) * sz2 ≤ i * sz2 := Nat.mul_le_mul_right _ hne
                      rw [Nat.add_mul, Nat.one_mul] at this
                      rw [if_pos (by omega)]
                    · have : (i + 1) * sz2 ≤ j * sz2 := Nat.mul_le_mul_right _ hne
                      rw [Nat.add_mul, Nat.one_mul] at this
                      rw [if_neg (by omega), if_neg (by omega)]
                  cases this; exact k2
                · simp at hq2
        all_goals exact k.elim
    all_goals exact k.elim

/-! ### addresses -/
def aFieldAddr (P : Program) (s : TypeId) (d : D) (f : Nat) (H : List Ob) (K : D → Prop) : Prop :=
  match tk P s with
  | .st _ fs => (match fs[f]? with
    | some (off, fsz) => fsz ≠ 0 ∧ (match d with
      | .ptr b o => K (.ptr b (o + off))
      | .rptr cs => K (.rptr (cs.drop off))
      | .eptr b v sz i o => (match H[b]? with
        | some (.arr ver' _ _ _) => ver' = v ∧ K (.eptr b v sz i (o + off))
        | _ => False)
      | _ => False)
    | none => False)
  | _ => False

theorem tk_st {P : Program} {t : TypeId} {sz : Nat} {fs : List (Nat × Nat)} (h : tk P t = .st sz fs) : ∃ fields i, P.underlying t = some (.struct fields) ∧ P.info? t = some i ∧ i.size = sz ∧ fs = fields.toList.map fun f => (f.offset, szB P f.type) := by
  unfold tk at h
  cases hu : P.underlying t with
  | none => simp [hu] at h
  | some d =>
    cases hi : P.info? t with
    | none => simp only [hu, hi] at h; cases d <;> simp at h
    | some i =>
      simp only [hu, hi] at h
      cases d <;> simp only [TK.st.injEq, reduceCtorEq] at h
      case slice e => split at h <;> simp at h
      case struct fields => exact ⟨fields, i, rfl, rfl, h.1, h.2.symm⟩
theorem tk_ar {P : Program} {t : TypeId} {n esz sz : Nat} (h : tk P t = .ar n esz sz) : ∃ e i, P.underlying t = some (.array n e) ∧ P.info? t = some i ∧ i.size = sz ∧ esz = szB P e := by
  unfold tk at h
  cases hu : P.underlying t with
  | none => simp [hu] at h
  | some d =>
    cases hi : P.info? t with
    | none => simp only [hu, hi] at h; cases d <;> simp at h
    | some i =>
      simp only [hu, hi] at h
      cases d <;> simp only [TK.ar.injEq, reduceCtorEq] at h
      case slice e => split at h <;> simp at h
      case array k e => obtain ⟨rfl, h2, h3⟩ := h; exact ⟨e, i, rfl, rfl, h3, h2.symm⟩
theorem tk_sl {P : Program} {t : TypeId} {e esz bytes : Nat} (h : tk P t = .sl e esz bytes) : ∃ j, P.underlying t = some (.slice e) ∧ P.info? e = some j ∧ j.size = esz ∧ j.bytes = bytes := by
  unfold tk at h
  cases hu : P.underlying t with
  | none => simp [hu] at h
  | some d =>
    cases hi : P.info? t with
    | none => simp only [hu, hi] at h; cases d <;> simp at h
    | some i =>
      simp only [hu, hi] at h
      cases d <;> simp only [TK.sl.injEq, reduceCtorEq] at h
      case slice e' =>
        cases hj : P.info? e' with
        | none => simp [hj] at h
        | some j => simp only [hj, TK.sl.injEq] at h; obtain ⟨rfl, h2, h3⟩ := h; exact ⟨j, rfl, hj, h2, h3⟩
theorem run_sizeOf' {P : Program} {t : TypeId} {n : Nat} (h : szB P t = n) (hn : n ≠ 0) (w : World) : (sizeOf t).run P w = .ok n w := by
  unfold szB at h
  cases hi : P.info? t with
  | none => simp [hi] at h; omega
  | some i => simp [hi] at h; subst h; simp [sizeOf, typeInfo, hi]

theorem aFieldAddr_sound {E : Env} {M : Mem} {μ : Mu} {H : List Ob} {w : World} (h : R E M μ H w) {s : TypeId} {d : D} {f : Nat} {y : Value} (hy : Rel M μ d y) {K : D → Prop} (k : aFieldAddr E.P s d f H K) :
    ∃ v d', (Instr.fieldAt s y f).run E.P w = .ok v w ∧ Rel M μ d' v ∧ K d' := by
  unfold aFieldAddr at k
  cases ht : tk E.P s <;> simp only [ht] at k
  case st sz fs =>
    obtain ⟨fields, i, hu, hi, _, rfl⟩ := tk_st ht
    cases hf : fields[f]? with
    | none => simp [hf] at k
    | some fd =>
      simp [hf] at k
      obtain ⟨hnz, k⟩ := k
      have hrun : ∀ b o, (Instr.fieldAt s (.pointer (some ⟨b, o, none⟩)) f).run E.P w = .ok (.pointer (some ⟨b, o + fd.offset, none⟩)) w := fun b o => by
        simp [Instr.fieldAt, run_underlying hu, hf, Instr.sureAddr, fieldPlace, run_sizeOf' rfl hnz, hnz, Addr.add_mid]
      cases d <;> simp only [] at k
      case ptr b o =>
        simp only [Rel] at hy
        obtain ⟨p, hp, hv, rfl⟩ := hy
        exact ⟨_, _, hrun _ _, by simp only [Rel]; exact ⟨p, hp, hv, rfl⟩, k⟩
      case rptr cs =>
        simp only [Rel] at hy
        obtain ⟨b, o, rfl, hr⟩ := hy
        exact ⟨_, _, hrun _ _, by simp only [Rel]; exact ⟨b, _, rfl, hr.drop _⟩, k⟩
      case eptr b v sz' i' o =>
        simp only [Rel] at hy
        obtain ⟨⟨A, hA⟩, p, hp, hv, hv1, hy⟩ := hy
        cases ho : H[b]? with
        | none => simp [ho] at k
        | some ob =>
          cases ob <;> simp only [ho] at k
          case arr ver' sz2 xs esc =>
            obtain ⟨rfl, k⟩ := k
            have hy := hy (h.obj b _ p ho hp).2.1
            subst hy
            exact ⟨_, _, hrun _ _, by simp only [Rel]; exact ⟨⟨_, rfl⟩, p, hp, hv, hv1, fun _ => by rw [Nat.add_assoc]⟩, k⟩
          all_goals exact k.elim
      all_goals exact k.elim
  all_goals exact k.elim

end Go.Ag
/- AGo, part 5: indexing, slicing, arithmetic, comparisons. -/
namespace Go.Ag
open Go Go.RowKit

/-- Is an object's array still the one of that round? -/
def vOk (H : List Ob) (b ver : Nat) : Prop :=
  match H[b]? with
  | some (.arr ver' _ _ _) => ver' = ver
  | _ => False
theorem vOk_ver {E : Env} {M : Mem} {μ : Mu} {H : List Ob} {w : World} (h : R E M μ H w) {b ver : Nat} (k : vOk H b ver) {p : Pt} (hp : μ b = some p) : p.ver = ver := by
  unfold vOk at k
  cases ho : H[b]? with
  | none => simp [ho] at k
  | some ob =>
    cases ob <;> simp only [ho] at k
    case arr ver' sz xs esc => subst k; exact (h.obj b _ p ho hp).2.1
    all_goals exact k.elim

def aIndexAddr (P : Program) (t : TypeId) (d i : D) (H : List Ob) (K : D → Prop) : Prop :=
  match i with
  | .v (.int _ n) => (match tk P t with
    | .sl _ esz _ => (match d with
      | .v (.list sz xs) => 0 ≤ n ∧ n < xs.length ∧ sz = esz ∧ K (.rptr (xs.getD n.toNat []))
      | .own b ver len => 0 ≤ n ∧ n < len ∧ vOk H b ver ∧ K (.eptr b ver esz n.toNat 0)
      | _ => False)
    | .ar len esz _ => (match d with
      | .ptr b o => 0 ≤ n ∧ n < len ∧ esz ≠ 0 ∧ K (.ptr b (o + n.toNat * esz))
      | .rptr cs => 0 ≤ n ∧ n < len ∧ esz ≠ 0 ∧ K (.rptr (cs.drop (n.toNat * esz)))
      | _ => False)
    | _ => False)
  | _ => False

theorem aIndexAddr_sound {E : Env} {M : Mem} {μ : Mu} {H : List Ob} {w : World} (h : R E M μ H w) {t : TypeId} {d i : D} {y z : Value} (hy : Rel M μ d y) (hz : Rel M μ i z) {K : D → Prop} (k : aIndexAddr E.P t d i H K) :
    ∃ v d', (Instr.indexAt t y z).run E.P w = .ok v w ∧ Rel M μ d' v ∧ K d' := by
  unfold aIndexAddr at k
  cases i <;> simp only [] at k
  case v x =>
    cases x <;> simp only [] at k
    case int kk n =>
      simp only [Rel, RelV] at hz
      subst hz
      cases ht : tk E.P t <;> simp only [ht] at k
      case sl e esz bytes =>
        obtain ⟨j, hu, hj, hsz, hby⟩ := tk_sl ht
        cases d <;> (try simp only [] at k)
        case v x =>
          cases x <;> (try simp only [] at k)
          case list sz xs =>
            obtain ⟨h0, hn, rfl, k⟩ := k
            simp only [Rel, RelV] at hy
            obtain ⟨A, c, rfl, hc, hr⟩ := hy
            rcases hr with rfl | ⟨b, o, rfl, hr⟩
            · simp at hn; omega
            · have hx : xs[n.toNat]? = some (xs.getD n.toNat []) := by
                rw [List.getD_eq_getElem?_getD, List.getElem?_eq_getElem (by omega)]; rfl
              have hg := hr.get _ _ hx
              refine ⟨.pointer (some ⟨b, o + n.toNat * sz, none⟩), _, ?_, by simp only [Rel]; exact ⟨b, _, rfl, hg.2⟩, k⟩
              simp [Instr.indexAt, run_underlying hu, asIntOf, h0, hn, sizeOf, typeInfo, hj, hsz, Addr.add_mid]
          all_goals exact k.elim
        case own b ver len =>
          obtain ⟨h0, hn, hv, k⟩ := k
          simp only [Rel] at hy
          obtain ⟨_, p, hp, hle, hv1, hy⟩ := hy
          obtain ⟨hlen, rfl⟩ := hy (vOk_ver h hv hp)
          refine ⟨.pointer (some ⟨p.blk, n.toNat * esz, none⟩), _, ?_, by simp only [Rel]; exact ⟨⟨_, rfl⟩, p, hp, hle, hv1, fun _ => by rw [Nat.add_zero]⟩, k⟩
          simp [Instr.indexAt, run_underlying hu, asIntOf, h0, hn, sizeOf, typeInfo, hj, hsz, Addr.add_mid]
        all_goals exact k.elim
      case ar len esz sz =>
        obtain ⟨e, i, hu, hi, hsz, rfl⟩ := tk_ar ht
        have hrun : ∀ b o, 0 ≤ n → n < len → szB E.P e ≠ 0 → (Instr.indexAt t (.pointer (some ⟨b, o, none⟩)) (.int kk n)).run E.P w = .ok (.pointer (some ⟨b, o + n.toNat * szB E.P e, none⟩)) w := fun b o h0 hn hnz => by
          simp [Instr.indexAt, run_underlying hu, asIntOf, Instr.sureAddr, h0, hn, run_sizeOf' rfl hnz, Addr.add_mid]
        cases d <;> simp only [] at k
        case ptr b o =>
          obtain ⟨h0, hn, hnz, k⟩ := k
          simp only [Rel] at hy
          obtain ⟨p, hp, hv, rfl⟩ := hy
          exact ⟨_, _, hrun _ _ h0 hn hnz, by simp only [Rel]; exact ⟨p, hp, hv, rfl⟩, k⟩
        case rptr cs =>
          obtain ⟨h0, hn, hnz, k⟩ := k
          simp only [Rel] at hy
          obtain ⟨b, o, rfl, hr⟩ := hy
          exact ⟨_, _, hrun _ _ h0 hn hnz, by simp only [Rel]; exact ⟨b, _, rfl, hr.drop _⟩, k⟩
        all_goals exact k.elim
      all_goals exact k.elim
    all_goals exact k.elim
  all_goals exact k.elim

theorem tk_str {P : Program} {t : TypeId} (h : tk P t = .str) : P.underlying t = some .string := by
  unfold tk at h
  cases hu : P.underlying t with
  | none => simp [hu] at h
  | some d =>
    cases hi : P.info? t with
    | none => simp only [hu, hi] at h; cases d <;> simp at h
    | some i =>
      simp only [hu, hi] at h
      cases d <;> simp only [reduceCtorEq] at h
      case slice e => split at h <;> simp at h
      case string => rfl
theorem tk_it {P : Program} {t : TypeId} {k : IntKind} (h : tk P t = .it k) : P.underlying t = some (.int k) := by
  unfold tk at h
  cases hu : P.underlying t with
  | none => simp [hu] at h
  | some d =>
    cases hi : P.info? t with
    | none => simp only [hu, hi] at h; cases d <;> simp at h
    | some i =>
      simp only [hu, hi] at h
      cases d <;> simp only [reduceCtorEq, TK.it.injEq] at h
      case slice e => split at h <;> simp at h
      case int k' => rw [h]
theorem tk_bl {P : Program} {t : TypeId} (h : tk P t = .bl) : P.underlying t = some .bool := by
  unfold tk at h
  cases hu : P.underlying t with
  | none => simp [hu] at h
  | some d =>
    cases hi : P.info? t with
    | none => simp only [hu, hi] at h; cases d <;> simp at h
    | some i =>
      simp only [hu, hi] at h
      cases d <;> simp only [reduceCtorEq] at h
      case slice e => split at h <;> simp at h
      case bool => rfl
theorem tk_pt {P : Program} {t : TypeId} (h : tk P t = .pt) : ∃ e, P.underlying t = some (.pointer e) := by
  unfold tk at h
  cases hu : P.underlying t with
  | none => simp [hu] at h
  | some d =>
    cases hi : P.info? t with
    | none => simp only [hu, hi] at h; cases d <;> simp at h
    | some i =>
      simp only [hu, hi] at h
      cases d <;> simp only [reduceCtorEq] at h
      case slice e => split at h <;> simp at h
      case pointer e => exact ⟨e, rfl⟩
theorem tk_mp {P : Program} {t : TypeId} {k e : TypeId} (h : tk P t = .mp k e) : P.underlying t = some (.map k e) := by
  unfold tk at h
  cases hu : P.underlying t with
  | none => simp [hu] at h
  | some d =>
    cases hi : P.info? t with
    | none => simp only [hu, hi] at h; cases d <;> simp at h
    | some i =>
      simp only [hu, hi] at h
      cases d <;> simp only [reduceCtorEq, TK.mp.injEq] at h
      case slice e => split at h <;> simp at h
      case map k' e' => rw [h.1, h.2]

/-! ### an element of a string -/
def aIndex (P : Program) (t : TypeId) (d i : D) (K : D → Prop) : Prop :=
  match i, d, tk P t with
  | .v (.int _ n), .v (.str s), .str => 0 ≤ n ∧ n < s.length ∧ K (.v (.int .u8 (s.getD n.toNat 0).toNat))
  | _, _, _ => False
theorem aIndex_sound {P : Program} {M : Mem} {μ : Mu} {w : World} {t : TypeId} {d i : D} {y z : Value} (hy : Rel M μ d y) (hz : Rel M μ i z) {K : D → Prop} (k : aIndex P t d i K) :
    ∃ v d', (Instr.index t y z).run P w = .ok v w ∧ Rel M μ d' v ∧ K d' := by
  unfold aIndex at k
  split at k
  · rename_i kk n s ht
    obtain ⟨h0, hn, k⟩ := k
    simp only [Rel, RelV] at hy hz
    subst hy; subst hz
    refine ⟨.int .u8 (s.getD n.toNat 0).toNat, _, ?_, by simp only [Rel, RelV], k⟩
    have hlt : n.toNat < s.length := by omega
    have hg : (⟨s.toArray⟩ : ByteArray)[n.toNat]? = some (s.getD n.toNat 0) := by
      have : (⟨s.toArray⟩ : ByteArray)[n.toNat]? = s.toArray[n.toNat]? := by
        simp only [getElem?_def]
        split <;> rename_i h1 <;> split <;> rename_i h2 <;> first | rfl | (exfalso; simp [ByteArray.size] at h1 h2; omega)
      rw [this]
      simp [hlt]
    simp [Instr.index, run_underlying (tk_str ht), asIntOf, h0, hg]
  · exact k.elim

/-! ### slicing -/
def bnd (x : Option D) (dflt : Int) : Int := match x with | none => dflt | some (.v (.int _ n)) => n | _ => -1
def aSlice (P : Program) (t : TypeId) (d : D) (lo hi : Option D) (H : List Ob) (K : D → Prop) : Prop :=
  match d with
  | .v (.str s) => tk P t = .str ∧ 0 ≤ bnd lo 0 ∧ bnd lo 0 ≤ bnd hi s.length ∧ bnd hi s.length ≤ s.length ∧ K (.v (.str ((s.take (bnd hi s.length).toNat).drop (bnd lo 0).toNat)))
  | .v (.list sz xs) => (match tk P t with
    | .sl _ esz _ => sz = esz ∧ 0 ≤ bnd lo 0 ∧ bnd lo 0 ≤ bnd hi xs.length ∧ bnd hi xs.length ≤ xs.length ∧ K (.v (.list sz ((xs.take (bnd hi xs.length).toNat).drop (bnd lo 0).toNat)))
    | _ => False)
  | .nils => (match tk P t with
    | .sl _ _ _ => bnd lo 0 = 0 ∧ bnd hi 0 = 0 ∧ K .nils
    | _ => False)
  | .own b ver len => (match tk P t with
    | .sl _ esz _ => 0 ≤ bnd lo 0 ∧ bnd lo 0 ≤ bnd hi len ∧ bnd hi len ≤ len ∧ vOk H b ver ∧ K (if bnd lo 0 = 0 then .own b ver (bnd hi len).toNat else .sub b ver esz (bnd lo 0).toNat ((bnd hi len).toNat - (bnd lo 0).toNat) none)
    | _ => False)
  | .sub b ver sz off len cap => (match tk P t with
    | .sl _ esz _ => sz = esz ∧ 0 ≤ bnd lo 0 ∧ bnd lo 0 ≤ bnd hi len ∧ off + (bnd hi len).toNat ≤ max (off + len) (cap.getD 0) ∧ vOk H b ver ∧ K (.sub b ver sz (off + (bnd lo 0).toNat) ((bnd hi len).toNat - (bnd lo 0).toNat) cap)
    | _ => False)
  | .rptr cs => (match tk P t with
    | .ar n esz _ => esz = 1 ∧ n ≤ cs.length ∧ 0 ≤ bnd lo 0 ∧ bnd lo 0 ≤ bnd hi n ∧ bnd hi n ≤ n ∧ K (.v (.list 1 (((cs.take (bnd hi n).toNat).drop (bnd lo 0).toNat).map fun c => [c])))
    | _ => False)
  | _ => False

theorem run_sliceBound_ok {P : Program} {w : World} {k : IntKind} {n : Int} {y : Nat} {c : BoundsCode} (h0 : 0 ≤ n) (h1 : n ≤ y) : (Instr.sliceBound (.int k n) y c).run P w = .ok n.toNat w := by
  simp [Instr.sliceBound, asIntOf, h0, h1]
/-- What a bound is, as a value. -/
def bndV (M : Mem) (μ : Mu) (x : Option D) (v : Option Value) : Prop := match x, v with | none, none => True | some d, some y => Rel M μ d y | _, _ => False
theorem bnd_val {M : Mem} {μ : Mu} {x : Option D} {v : Option Value} {dflt : Int} (h : bndV M μ x v) (h0 : 0 ≤ bnd x dflt) : (x = none ∧ v = none ∧ bnd x dflt = dflt) ∨ ∃ k n, v = some (.int k n) ∧ bnd x dflt = n := by
  cases x with
  | none =>
    cases v with
    | none => exact .inl ⟨rfl, rfl, rfl⟩
    | some y => exact h.elim
  | some d =>
    cases v with
    | none => exact h.elim
    | some y =>
      right
      unfold bnd at h0
      split at h0
      · rename_i h; cases h
      · rename_i k n hd
        cases hd
        simp only [bndV, Rel, RelV] at h
        exact ⟨k, n, by rw [h], rfl⟩
      · omega
theorem run_sliceBounds {P : Program} {w : World} {M : Mem} {μ : Mu} {s : Bool} {len cap : Nat} {lo hi : Option D} {lv hv : Option Value} (hl : bndV M μ lo lv) (hh : bndV M μ hi hv)
    (h0 : 0 ≤ bnd lo 0) (h1 : bnd lo 0 ≤ bnd hi len) (h2 : bnd hi len ≤ cap) :
    (Instr.sliceBounds s len cap lv hv none).run P w = .ok ((bnd lo 0).toNat, (bnd hi len).toNat, cap) w := by
  have h3 : 0 ≤ bnd hi len := by omega
  rcases bnd_val hl h0 with ⟨_, rfl, e0⟩ | ⟨k, n, rfl, e0⟩ <;> rcases bnd_val hh h3 with ⟨_, rfl, e1⟩ | ⟨k', n', rfl, e1⟩
  · simp [Instr.sliceBounds, e0, e1]
  · simp [Instr.sliceBounds, e0, e1, run_sliceBound_ok (show 0 ≤ n' from by omega) (show n' ≤ cap from by omega)]
  · simp [Instr.sliceBounds, e0, e1, run_sliceBound_ok (show 0 ≤ n from by omega) (show n ≤ (len : Int) from by omega)]
  · have ht : (n'.toNat : Int) = n' := Int.toNat_of_nonneg (by omega)
    simp [Instr.sliceBounds, e0, e1, run_sliceBound_ok (P := P) (w := w) (k := k') (c := if s = true then BoundsCode.sliceAcap else BoundsCode.sliceAlen) (show 0 ≤ n' from by omega) (show n' ≤ (cap : Int) from by omega), run_sliceBound_ok (P := P) (w := w) (k := k) (c := .sliceB) (show 0 ≤ n from by omega) (show n ≤ (n'.toNat : Int) from by omega)]

theorem extract_list (s : List UInt8) (a b : Nat) : (⟨s.toArray⟩ : ByteArray).extract a b = ⟨((s.take b).drop a).toArray⟩ := by
  apply ByteArray.ext
  simp only [ByteArray.data_extract]
  apply Array.toList_inj.1
  simp [List.extract_eq_take_drop, List.drop_take]

theorem aSlice_sound {E : Env} {M : Mem} {μ : Mu} {H : List Ob} {w : World} (h : R E M μ H w) {t : TypeId} {d : D} {lo hi : Option D} {y : Value} {lv hv : Option Value} (hy : Rel M μ d y) (hl : bndV M μ lo lv) (hh : bndV M μ hi hv)
    {K : D → Prop} (k : aSlice E.P t d lo hi H K) : ∃ v d', (Instr.sliceAt t y lv hv none).run E.P w = .ok v w ∧ Rel M μ d' v ∧ K d' := by
  unfold aSlice at k
  split at k
  · rename_i s
    obtain ⟨ht, h0, h1, h2, k⟩ := k
    simp only [Rel, RelV] at hy
    subst hy
    refine ⟨.string ((⟨s.toArray⟩ : ByteArray).extract (bnd lo 0).toNat (bnd hi s.length).toNat), _, ?_, ?_, k⟩
    · have hb := run_sliceBounds (P := E.P) (w := w) (s := false) (len := s.length) (cap := s.length) hl hh h0 h1 h2
      have hsz : (⟨s.toArray⟩ : ByteArray).size = s.length := by simp [ByteArray.size]
      simp [Instr.sliceAt, run_underlying (tk_str ht), Instr.slice, hsz, hb]
    · simp only [Rel, RelV]; rw [extract_list]
  · rename_i sz xs
    cases ht : tk E.P t <;> simp only [ht] at k
    case sl e esz bytes =>
      obtain ⟨j, hu, hj, hsz, hby⟩ := tk_sl ht
      obtain ⟨rfl, h0, h1, h2, k⟩ := k
      simp only [Rel, RelV] at hy
      obtain ⟨A, c, rfl, hc, hr⟩ := hy
      have hb := run_sliceBounds (P := E.P) (w := w) (s := true) (len := xs.length) (cap := c) hl hh h0 h1 (by omega)
      refine ⟨.slice (if c = (bnd lo 0).toNat then A else A.map (·.add ((bnd lo 0).toNat * sz))) ((bnd hi xs.length).toNat - (bnd lo 0).toNat) (c - (bnd lo 0).toNat), _, ?_, ?_, k⟩
      · simp [Instr.sliceAt, run_underlying hu, Instr.slice, hb, sizeOf, typeInfo, hj, hsz]
      · simp only [Rel, RelV]
        have hlen : ((xs.take (bnd hi xs.length).toNat).drop (bnd lo 0).toNat).length = (bnd hi xs.length).toNat - (bnd lo 0).toNat := by simp; omega
        refine ⟨_, _, by rw [hlen], ?_, ?_⟩
        · rw [hlen]; omega
        · by_cases he : (xs.take (bnd hi xs.length).toNat).drop (bnd lo 0).toNat = []
          · exact .inl he
          · right
            have hne : ¬ c = (bnd lo 0).toNat := fun e => he (List.drop_eq_nil_of_le (by simp; omega))
            rcases hr with rfl | ⟨b, o, rfl, hr⟩
            · simp at he
            · refine ⟨b, o + (bnd lo 0).toNat * sz, ?_, (hr.take _).drop _⟩
              rw [if_neg hne]
              simp [Addr.add_mid]
    all_goals exact k.elim
  · cases ht : tk E.P t <;> simp only [ht] at k
    case sl e esz bytes =>
      obtain ⟨j, hu, hj, hsz, hby⟩ := tk_sl ht
      obtain ⟨h0, h1, k⟩ := k
      simp only [Rel] at hy
      subst hy
      have hb := run_sliceBounds (P := E.P) (w := w) (s := true) (len := 0) (cap := 0) hl hh (by omega) (by simp; omega) (by simp; omega)
      refine ⟨.slice none 0 0, _, ?_, by simp only [Rel], k⟩
      simp at hb
      simp [Instr.sliceAt, run_underlying hu, Instr.slice, hb, h0, h1, sizeOf, typeInfo, hj, hsz]
    all_goals exact k.elim
  · rename_i b ver len
    cases ht : tk E.P t <;> simp only [ht] at k
    case sl e esz bytes =>
      obtain ⟨j, hu, hj, hsz, hby⟩ := tk_sl ht
      obtain ⟨h0, h1, h2, hv, k⟩ := k
      simp only [Rel] at hy
      obtain ⟨_, p, hp, hle, hv1, hy⟩ := hy
      obtain ⟨hlen, rfl⟩ := hy (vOk_ver h hv hp)
      have hb := run_sliceBounds (P := E.P) (w := w) (s := true) (len := len) (cap := p.cap) hl hh (by omega) (by omega) (by omega)
      refine ⟨.slice (if p.cap = (bnd lo 0).toNat then some ⟨p.blk, 0, none⟩ else (some (⟨p.blk, 0, none⟩ : Addr)).map (·.add ((bnd lo 0).toNat * esz))) ((bnd hi len).toNat - (bnd lo 0).toNat) (p.cap - (bnd lo 0).toNat), _, ?_, ?_, k⟩
      · simp [Instr.sliceAt, run_underlying hu, Instr.slice, hb, sizeOf, typeInfo, hj, hsz]
      · split
        · rename_i e0
          simp only [Rel]
          refine ⟨⟨_, _, _, rfl⟩, p, hp, hle, hv1, fun _ => ⟨by omega, ?_⟩⟩
          rw [e0]
          simp [Addr.add_mid]
        · rename_i e0
          simp only [Rel]
          refine ⟨⟨_, _, _, rfl⟩, p, hp, hle, hv1, fun _ => ⟨fun c hc => (by cases hc), by omega, _, rfl, fun hlt => ?_⟩⟩
          rw [if_neg (by omega)]
          simp [Addr.add_mid]
    all_goals exact k.elim
  · rename_i b ver sz off len cap
    cases ht : tk E.P t <;> simp only [ht] at k
    case sl e esz bytes =>
      obtain ⟨j, hu, hj, hsz, hby⟩ := tk_sl ht
      obtain ⟨rfl, h0, h1, h2, hv, k⟩ := k
      simp only [Rel] at hy
      obtain ⟨_, p, hp, hle, hv1, hy⟩ := hy
      obtain ⟨hcap, hlen, A, rfl, hA⟩ := hy (vOk_ver h hv hp)
      have hcl : off + (bnd hi len).toNat ≤ p.cap := by
        cases cap with
        | none => simp at h2; omega
        | some c => have := hcap c rfl; simp at h2; omega
      have hb := run_sliceBounds (P := E.P) (w := w) (s := true) (len := len) (cap := p.cap - off) hl hh (by omega) (by omega) (by omega)
      refine ⟨.slice (if p.cap - off = (bnd lo 0).toNat then A else A.map (·.add ((bnd lo 0).toNat * sz))) ((bnd hi len).toNat - (bnd lo 0).toNat) (p.cap - off - (bnd lo 0).toNat), _, ?_, ?_, k⟩
      · simp [Instr.sliceAt, run_underlying hu, Instr.slice, hb, sizeOf, typeInfo, hj, hsz]
      · simp only [Rel]
        refine ⟨⟨_, _, _, rfl⟩, p, hp, hle, hv1, fun _ => ⟨hcap, by omega, _, by rw [Nat.sub_sub], fun hlt => ?_⟩⟩
        rw [if_neg (by omega), hA (by omega)]
        simp [Addr.add_mid, Nat.add_mul]
    all_goals exact k.elim
  · rename_i cs
    cases ht : tk E.P t <;> simp only [ht] at k
    case ar n esz sz =>
      obtain ⟨e, i, hu, hinf, hsz, rfl⟩ := tk_ar ht
      obtain ⟨h1, hn, h0, h2, h3, k⟩ := k
      simp only [Rel] at hy
      obtain ⟨b, o, rfl, hr⟩ := hy
      have hb := run_sliceBounds (P := E.P) (w := w) (s := false) (len := n) (cap := n) hl hh h0 h2 h3
      refine ⟨.slice (some (if n = (bnd lo 0).toNat then ⟨b, o, none⟩ else (⟨b, o, none⟩ : Addr).add ((bnd lo 0).toNat * szB E.P e))) ((bnd hi n).toNat - (bnd lo 0).toNat) (n - (bnd lo 0).toNat), _, ?_, ?_, k⟩
      · simp [Instr.sliceAt, run_underlying hu, Instr.sureAddr, hb, run_sizeOf' rfl (by omega : szB E.P e ≠ 0)]
      · simp only [Rel, RelV]
        have hlen : (((cs.take (bnd hi n).toNat).drop (bnd lo 0).toNat).map fun c => [c]).length = (bnd hi n).toNat - (bnd lo 0).toNat := by simp; omega
        refine ⟨_, _, by rw [hlen], by rw [hlen]; omega, ?_⟩
        by_cases he : (((cs.take (bnd hi n).toNat).drop (bnd lo 0).toNat).map fun c => [c]) = []
        · exact .inl he
        · right
          have hne : ¬ n = (bnd lo 0).toNat := fun e => he (by rw [List.map_eq_nil_iff]; exact List.drop_eq_nil_of_le (by simp; omega))
          refine ⟨b, o + (bnd lo 0).toNat * 1, by rw [if_neg hne, h1]; simp [Addr.add_mid], ?_⟩
          rw [Nat.mul_one]
          refine RelRows.of_get fun j x hx => ?_
          rw [List.getElem?_map] at hx
          cases hd : ((cs.take (bnd hi n).toNat).drop (bnd lo 0).toNat)[j]? with
          | none => rw [hd] at hx; cases hx
          | some c =>
            rw [hd] at hx; cases hx
            rw [List.getElem?_drop] at hd
            have hd2 : cs[(bnd lo 0).toNat + j]? = some c := by
              rw [List.getElem?_take] at hd
              split at hd
              · exact hd
              · cases hd
            obtain ⟨y, g1, g2⟩ := hr.get ((bnd lo 0).toNat + j) c hd2
            refine ⟨rfl, ⟨y, ?_, g2⟩, trivial⟩
            rw [Nat.mul_one, Nat.add_assoc]; exact g1
    all_goals exact k.elim
  · exact k.elim

end Go.Ag
/- AGo, part 6: arithmetic and comparisons. -/
namespace Go.Ag
open Go Go.RowKit

/-! ### cells that can be compared -/
inductive CK where
  | s | i (k : IntKind) | b
  deriving DecidableEq

def ckFields (P : Program) (g : TypeId → Option (List CK)) : List Field → Nat → Option (List CK)
  | [], _ => some []
  | f :: fs, off =>
    if f.name = "_" ∨ f.offset ≠ off then none
    else match g f.type with
      | none => none
      | some ks => if szB P f.type = ks.length then (ckFields P g fs (off + ks.length)).map (ks ++ ·) else none
def ckOf (P : Program) : Nat → TypeId → Option (List CK)
  | 0, _ => none
  | n + 1, t => match P.underlying t with
    | some .string => some [.s]
    | some (.int k) => some [.i k]
    | some .bool => some [.b]
    | some (.struct fs) => if P.stoodInHeld t then none else ckFields P (ckOf P n) fs.toList 0
    | _ => none

def fits : List CK → List V → Bool
  | [], [] => true
  | .s :: ks, .str _ :: xs => fits ks xs
  | .i k :: ks, .int k' _ :: xs => k == k' && fits ks xs
  | .b :: ks, .bool _ :: xs => fits ks xs
  | _, _ => false
def eqV : V → V → Bool
  | .str a, .str b => a == b
  | .int _ a, .int _ b => a == b
  | .bool a, .bool b => a == b
  | _, _ => false
def eqVs : List V → List V → Bool
  | [], [] => true
  | x :: xs, y :: ys => eqV x y && eqVs xs ys
  | _, _ => false
def valOf : V → Value
  | .str s => .string ⟨s.toArray⟩
  | .int k n => .int k n
  | .bool b => .bool b
  | _ => undef

theorem fits_length : ∀ {ks : List CK} {xs : List V}, fits ks xs = true → xs.length = ks.length
  | [], [], _ => rfl
  | [], _ :: _, h => by simp [fits] at h
  | k :: ks, [], h => by cases k <;> simp [fits] at h
  | k :: ks, x :: xs, h => by
    cases k <;> cases x <;> simp [fits] at h
    all_goals simp [fits_length (ks := ks) (xs := xs) (by simp_all)]
theorem fits_append : ∀ {ks ls : List CK} {xs : List V}, fits (ks ++ ls) xs = true → fits ks (xs.take ks.length) = true ∧ fits ls (xs.drop ks.length) = true
  | [], _, _, h => by simpa [fits] using h
  | k :: ks, ls, [], h => by cases k <;> simp [fits] at h
  | k :: ks, ls, x :: xs, h => by
    cases k <;> cases x <;> simp [fits] at h ⊢
    · exact fits_append h
    · exact ⟨⟨h.1, (fits_append h.2).1⟩, (fits_append h.2).2⟩
    · exact fits_append h
theorem eqVs_append : ∀ {a b c d : List V}, a.length = c.length → eqVs (a ++ b) (c ++ d) = (eqVs a c && eqVs b d)
  | [], b, [], d, _ => by simp [eqVs]
  | x :: a, b, y :: c, d, h => by simp only [List.cons_append, eqVs]; rw [eqVs_append (by simpa using h), Bool.and_assoc]
theorem beq_list (a b : List UInt8) : ((⟨a.toArray⟩ : ByteArray) == ⟨b.toArray⟩) = (a == b) := by
  show ((a.toArray : Array UInt8) == b.toArray) = (a == b)
  simp

theorem isAgg_run {P : Program} {t : TypeId} {d : TypeDesc} (hu : P.underlying t = some d) (w : World) : (isAgg t).run P w = .ok d.isRow w := by
  unfold isAgg
  rw [Sem.run_bind, run_underlying hu w]
  cases d <;> simp

/-- A value of a type, from its cells. -/
def mkV (P : Program) (t : TypeId) (vs : List Value) : Value :=
  match P.underlying t with
  | some (.struct _) => .agg vs.toArray
  | _ => vs.headD undef

theorem eqFields_ck {P : Program} {w : World} {n d : Nat} (ih : ∀ (t : TypeId) (ks : List CK) (xs ys : List V), ckOf P n t = some ks → fits ks xs = true → fits ks ys = true →
      (Op.equalIn d t (mkV P t (xs.map valOf)) (mkV P t (ys.map valOf))).run P w = .ok (eqVs xs ys) w)
    (hsz : ∀ (t : TypeId) (ks : List CK), ckOf P n t = some ks → ∃ dd, P.underlying t = some dd ∧ (dd.isRow = false → ks.length = 1 ∧ ∀ l, mkV P t l = l.headD undef) ∧ (dd.isRow = true → ∀ l, mkV P t l = .agg l.toArray)) :
    ∀ (fs : List Field) (off : Nat) (ks : List CK) (px py xs ys : List V), ckFields P (ckOf P n) fs off = some ks → px.length = off → py.length = off → fits ks xs = true → fits ks ys = true →
      (Op.eqFields d ((px ++ xs).map valOf).toArray ((py ++ ys).map valOf).toArray fs).run P w = .ok (eqVs xs ys) w
  | [], off, ks, px, py, xs, ys, h, hx, hy, fx, fy => by
    simp [ckFields] at h; subst h
    cases xs <;> cases ys <;> simp [fits] at fx fy
    simp [Op.eqFields, eqVs]
  | f :: fs, off, ks, px, py, xs, ys, h, hx, hy, fx, fy => by
    simp only [ckFields] at h
    split at h
    · cases h
    · rename_i hn
      simp only [not_or, ne_eq, Decidable.not_not] at hn
      obtain ⟨hn1, hoff⟩ := hn
      cases hg : ckOf P n f.type with
      | none => simp [hg] at h
      | some k1 =>
        simp only [hg] at h
        split at h
        · rename_i hs
          cases hr : ckFields P (ckOf P n) fs (off + k1.length) with
          | none => simp [hr] at h
          | some k2 =>
            simp [hr] at h
            subst h
            obtain ⟨fx1, fx2⟩ := fits_append fx
            obtain ⟨fy1, fy2⟩ := fits_append fy
            have lx := fits_length fx1
            have ly := fits_length fy1
            obtain ⟨dd, hu, hone, hrow⟩ := hsz f.type k1 hg
            have hpart : ∀ (p x : List V), p.length = off → (x.take k1.length).length = k1.length → (part f.type ((p ++ x).map valOf).toArray f.offset).run P w = .ok (mkV P f.type ((x.take k1.length).map valOf)) w := by
              intro p x hp hx'
              have hk : k1.length ≠ 0 ∨ k1.length = 0 := by omega
              cases hrw : dd.isRow with
              | true =>
                rw [hrow hrw]
                have hszr : (sizeOf f.type).run P w = .ok k1.length w := by
                  unfold szB at hs
                  cases hi : P.info? f.type with
                  | none => unfold Program.underlying at hu; simp [hi] at hu
                  | some i => simp [hi] at hs; simp [sizeOf, typeInfo, hi, hs]
                simp only [part, Sem.run_bind, isAgg_run hu, hrw, Result.andThen_ok, if_true, hszr, Sem.run_pure, hoff]
                congr 2
                apply Array.toList_inj.1
                simp only [Array.toList_extract, List.extract_eq_take_drop]
                rw [← hp, ← List.map_drop, ← List.map_take]
                simp
              | false =>
                obtain ⟨h1, h2⟩ := hone hrw
                rw [h2]
                simp only [part, Sem.run_bind, isAgg_run hu, hrw, Result.andThen_ok, Bool.false_eq_true, if_false, hoff]
                cases x with
                | nil => simp at hx'; omega
                | cons x0 x =>
                  have : (((p ++ x0 :: x).map valOf).toArray)[off]? = some (valOf x0) := by simp [← hp]
                  rw [this, h1]
                  simp
            simp only [Op.eqFields, ne_eq, hn1, not_false_eq_true, if_true, Sem.run_bind, hpart px xs hx lx, hpart py ys hy ly, Result.andThen_ok, ih _ _ _ _ hg fx1 fy1]
            have hsplit : eqVs xs ys = (eqVs (xs.take k1.length) (ys.take k1.length) && eqVs (xs.drop k1.length) (ys.drop k1.length)) := by
              rw [← eqVs_append (by rw [lx, ly]), List.take_append_drop, List.take_append_drop]
            cases hb : eqVs (xs.take k1.length) (ys.take k1.length) with
            | false => simp [hsplit, hb]
            | true =>
              have hrec := eqFields_ck ih hsz fs (off + k1.length) k2 (px ++ xs.take k1.length) (py ++ ys.take k1.length) (xs.drop k1.length) (ys.drop k1.length) hr (by simp [hx]; simpa using lx) (by simp [hy]; simpa using ly) fx2 fy2
              rw [List.append_assoc, List.take_append_drop, List.append_assoc, List.take_append_drop] at hrec
              simp only [Bool.not_true, Bool.false_eq_true, if_false]
              rw [hrec, hsplit, hb]; rfl
        · cases h

theorem ck_kind {P : Program} : ∀ {n : Nat} {t : TypeId} {ks : List CK}, ckOf P n t = some ks → ∃ dd, P.underlying t = some dd ∧ (dd.isRow = false → ks.length = 1 ∧ ∀ l, mkV P t l = l.headD undef) ∧ (dd.isRow = true → ∀ l, mkV P t l = .agg l.toArray)
  | 0, _, _, h => by simp [ckOf] at h
  | n + 1, t, ks, h => by
    simp only [ckOf] at h
    cases hu : P.underlying t with
    | none => simp [hu] at h
    | some d =>
      simp only [hu] at h
      refine ⟨d, rfl, ?_⟩
      cases d <;> simp at h
      case struct fs => exact ⟨(fun h => by cases h), fun _ l => by simp [mkV, hu]⟩
      all_goals exact ⟨fun _ => ⟨by simp [← h], fun l => by simp [mkV, hu]⟩, (fun h => by cases h)⟩

theorem equalIn_ck {P : Program} {w : World} : ∀ (n d : Nat) (t : TypeId) (ks : List CK) (xs ys : List V), n ≤ d → ckOf P n t = some ks → fits ks xs = true → fits ks ys = true →
    (Op.equalIn d t (mkV P t (xs.map valOf)) (mkV P t (ys.map valOf))).run P w = .ok (eqVs xs ys) w
  | 0, _, _, _, _, _, _, h, _, _ => by simp [ckOf] at h
  | n + 1, 0, _, _, _, _, hd, _, _, _ => by omega
  | n + 1, d + 1, t, ks, xs, ys, hd, h, fx, fy => by
    simp only [ckOf] at h
    cases hu : P.underlying t with
    | none => simp [hu] at h
    | some dd =>
      simp only [hu] at h
      cases dd <;> simp at h
      case struct fs =>
        obtain ⟨h1, h⟩ := h
        have hf : P.fieldsOf t = fs := by simp [Program.fieldsOf, hu]
        have e1 : mkV P t (xs.map valOf) = .agg (xs.map valOf).toArray := by simp [mkV, hu]
        have e2 : mkV P t (ys.map valOf) = .agg (ys.map valOf).toArray := by simp [mkV, hu]
        rw [e1, e2, run_equalIn_struct w d t _ _ (by rw [hf]; exact hu) h1, hf]
        exact eqFields_ck (n := n) (fun t ks xs ys h fx fy => equalIn_ck n d t ks xs ys (by omega) h fx fy) (fun t ks h => ck_kind h) fs.toList 0 ks [] [] xs ys h rfl rfl fx fy
      all_goals
        subst h
        match xs, ys, fx, fy with
        | [x], [y], fx, fy =>
          cases x <;> simp [fits] at fx
          all_goals cases y <;> simp [fits] at fy
          all_goals try subst fx
          all_goals try subst fy
          all_goals simp [mkV, hu, valOf, Op.equalIn, run_underlying hu, eqVs, eqV, beq_list]
        | [], _, fx, _ => simp [fits] at fx
        | x :: _ :: _, _, fx, _ => cases x <;> simp [fits] at fx
        | [_], [], _, fy => simp [fits] at fy
        | [_], y :: _ :: _, _, fy => cases y <;> simp [fits] at fy

theorem RelV.scalar {M : Mem} {x : V} {y : Value} (h : RelV M x y) {k : CK} (f : fits [k] [x] = true) : y = valOf x := by
  cases k <;> cases x <;> simp [fits] at f
  all_goals simp only [RelV] at h; exact h
theorem RelL.scalars {M : Mem} {μ : Mu} : ∀ {ks : List CK} {xs : List V} {ys : List Value}, RelL M μ (xs.map .v) ys → fits ks xs = true → ys = xs.map valOf
  | [], [], ys, h, _ => by simpa [RelL] using h
  | [], _ :: _, _, _, f => by simp [fits] at f
  | k :: ks, [], _, _, f => by cases k <;> simp [fits] at f
  | k :: ks, x :: xs, ys, h, f => by
    cases ys with
    | nil => have := h.length; simp at this
    | cons y ys =>
      rw [List.map_cons, RelL.cons_iff] at h
      simp only [Rel] at h
      have f1 : fits [k] [x] = true ∧ fits ks xs = true := by cases k <;> cases x <;> simp_all [fits]
      rw [List.map_cons, h.1.scalar f1.1, RelL.scalars h.2 f1.2]

/-! ### operators of two operands -/
/-- The plain cells of a value. -/
def D.plain : List D → Option (List V)
  | [] => some []
  | .v x :: ds => (D.plain ds).map (x :: ·)
  | _ => none
theorem D.plain_spec : ∀ {ds : List D} {xs : List V}, D.plain ds = some xs → ds = xs.map .v
  | [], xs, h => by simp [D.plain] at h; subst h; rfl
  | d :: ds, xs, h => by
    cases d <;> simp [D.plain] at h
    obtain ⟨ys, h1, rfl⟩ := h
    simp [D.plain_spec h1]
theorem D.plain_map (xs : List V) : D.plain (xs.map .v) = some xs := by
  induction xs with
  | nil => rfl
  | cons x xs ih => simp [D.plain, ih]

def aEq (P : Program) (t : TypeId) (x y : D) (H : List Ob) (K : Bool → Prop) : Prop :=
  match x, y with
  | .v (.int k a), .v (.int k' b) => k = k' ∧ K (a == b)
  | .v (.str a), .v (.str b) => K (a == b)
  | .v (.bool a), .v (.bool b) => tk P t = .bl ∧ K (a == b)
  | .agg xs, .agg ys => (match D.plain xs, D.plain ys with
    | some xs, some ys => (match ckOf P 20 t with
      | some ks => P.eqGuardType P.depth t = false ∧ fits ks xs = true ∧ fits ks ys = true ∧ (tk P t).row.isSome ∧ K (eqVs xs ys)
      | none => False)
    | _, _ => False)
  | .nilp, .nilp => tk P t = .pt ∧ K true
  | .nilp, .ptr _ _ => tk P t = .pt ∧ K false
  | .ptr _ _, .nilp => tk P t = .pt ∧ K false
  | .map _, .nilm => (match tk P t with | .mp _ _ => K false | _ => False)
  | .nilm, .nilm => (match tk P t with | .mp _ _ => K true | _ => False)
  | .own b ver _, .nils => (match tk P t with | .sl _ _ _ => vOk H b ver ∧ K false | _ => False)
  | .nils, .nils => (match tk P t with | .sl _ _ _ => K true | _ => False)
  | .v (.list _ xs), .nils => (match tk P t with | .sl _ _ _ => (xs ≠ [] → K false) ∧ (xs = [] → K true ∧ K false) | _ => False)
  | _, _ => False

theorem strEq (a b : List UInt8) : ((⟨a.toArray⟩ : ByteArray).toList == (⟨b.toArray⟩ : ByteArray).toList) = (a == b) := by
  rw [ByteArray.toList_eq, ByteArray.toList_eq]

theorem eqBoth {P : Program} {w : World} {t : TypeId} {a b : Value} {r : Bool} (e1 : binOp .eql t a b = (do pure (.bool (← Op.equal t a b)))) (e2 : binOp .neq t a b = (do pure (.bool (!(← Op.equal t a b)))))
    (h : ∀ d, (Op.equalIn (d + 1) t a b).run P w = .ok r w) : (binOp .eql t a b).run P w = .ok (.bool r) w ∧ (binOp .neq t a b).run P w = .ok (.bool !r) w := by
  have h' : (Op.equal t a b).run P w = .ok r w := h 9999
  rw [e1, e2]
  simp only [Sem.run_bind, h', Result.andThen_ok]
  exact ⟨rfl, rfl⟩

set_option maxHeartbeats 2000000 in
theorem aEq_sound {E : Env} {M : Mem} {μ : Mu} {H : List Ob} {w : World} (h : R E M μ H w) {t : TypeId} {x y : D} {a b : Value} (hx : Rel M μ x a) (hy : Rel M μ y b) {K : Bool → Prop} (k : aEq E.P t x y H K) :
    ∃ r, K r ∧ (binOp .eql t a b).run E.P w = .ok (.bool r) w ∧ (binOp .neq t a b).run E.P w = .ok (.bool !r) w ∧
      (∀ op o1 o2, (eqGuard op t o1 o2 a b).run E.P w = .ok () w) := by
  unfold aEq at k
  split at k
  · rename_i kk n kk' n'
    obtain ⟨rfl, k⟩ := k
    simp only [Rel, RelV] at hx hy; subst hx; subst hy
    exact ⟨_, k, by simp [binOp, Op.intCmp], by simp [binOp, Op.intCmp, bne], fun op o1 o2 => by unfold eqGuard; split <;> rfl⟩
  · rename_i s s'
    simp only [Rel, RelV] at hx hy; subst hx; subst hy
    exact ⟨_, k, by simp [binOp, Op.stringOp, strEq], by simp [binOp, Op.stringOp, strEq], fun op o1 o2 => by unfold eqGuard; split <;> rfl⟩
  · rename_i s s'
    obtain ⟨ht, k⟩ := k
    simp only [Rel, RelV] at hx hy; subst hx; subst hy
    refine ⟨_, k, ?_, ?_, fun op o1 o2 => by unfold eqGuard; split <;> rfl⟩
    · exact (eqBoth rfl rfl (fun d => by simp [Op.equalIn, run_underlying (tk_bl ht)])).1
    · exact (eqBoth rfl rfl (fun d => by simp [Op.equalIn, run_underlying (tk_bl ht)])).2
  · rename_i xs ys
    split at k
    · rename_i xs' ys' hxs hys
      cases hck : ckOf E.P 20 t with
      | none => simp [hck] at k
      | some ks =>
        simp only [hck] at k
        obtain ⟨hg, fx, fy, hrow, k⟩ := k
        have := D.plain_spec hxs; subst this
        have := D.plain_spec hys; subst this
        simp only [Rel] at hx hy
        obtain ⟨vs, rfl, hvs⟩ := hx
        obtain ⟨ws, rfl, hws⟩ := hy
        have e1 := hvs.scalars fx
        have e2 := hws.scalars fy
        subst e1; subst e2
        have he := equalIn_ck (P := E.P) (w := w) 20 10000 t ks xs' ys' (by omega) hck fx fy
        obtain ⟨dd, hu, _, hr2⟩ := ck_kind hck
        obtain ⟨n, hn⟩ := Option.isSome_iff_exists.1 hrow
        obtain ⟨d2, hu2, hd2, _⟩ := tk_row hn
        rw [hu] at hu2; cases hu2
        rw [hr2 hd2, hr2 hd2] at he
        refine ⟨_, k, ?_, ?_, fun op o1 o2 => run_eqGuard_agg w op t o1 o2 _ _ hg⟩
        · rw [run_eql_struct, he]; rfl
        · rw [run_neq_struct, he]; rfl
    · exact k.elim
  · obtain ⟨ht, k⟩ := k
    obtain ⟨e, hu⟩ := tk_pt ht
    simp only [Rel] at hx hy; subst hx; subst hy
    refine ⟨_, k, ?_, ?_, fun op o1 o2 => by unfold eqGuard; split <;> rfl⟩
    · exact (eqBoth rfl rfl (fun d => by simp [Op.equalIn, run_underlying hu])).1
    · exact (eqBoth rfl rfl (fun d => by simp [Op.equalIn, run_underlying hu])).2
  · obtain ⟨ht, k⟩ := k
    obtain ⟨e, hu⟩ := tk_pt ht
    simp only [Rel] at hx hy; subst hx
    obtain ⟨p, _, _, rfl⟩ := hy
    refine ⟨_, k, ?_, ?_, fun op o1 o2 => by unfold eqGuard; split <;> rfl⟩
    · exact (eqBoth rfl rfl (fun d => by simp [Op.equalIn, run_underlying hu])).1
    · exact (eqBoth rfl rfl (fun d => by simp [Op.equalIn, run_underlying hu])).2
  · obtain ⟨ht, k⟩ := k
    obtain ⟨e, hu⟩ := tk_pt ht
    simp only [Rel] at hx hy; subst hy
    obtain ⟨p, _, _, rfl⟩ := hx
    refine ⟨_, k, ?_, ?_, fun op o1 o2 => by unfold eqGuard; split <;> rfl⟩
    · exact (eqBoth rfl rfl (fun d => by simp [Op.equalIn, run_underlying hu])).1
    · exact (eqBoth rfl rfl (fun d => by simp [Op.equalIn, run_underlying hu])).2
  · cases ht : tk E.P t <;> simp only [ht] at k
    case mp kt et =>
      simp only [Rel] at hx hy; subst hy
      obtain ⟨p, _, _, rfl⟩ := hx
      refine ⟨_, k, ?_, ?_, fun op o1 o2 => by unfold eqGuard; split <;> rfl⟩
      · exact (eqBoth rfl rfl (fun d => by simp [Op.equalIn, run_underlying (tk_mp ht)])).1
      · exact (eqBoth rfl rfl (fun d => by simp [Op.equalIn, run_underlying (tk_mp ht)])).2
    all_goals exact k.elim
  · cases ht : tk E.P t <;> simp only [ht] at k
    case mp kt et =>
      simp only [Rel] at hx hy; subst hy; subst hx
      refine ⟨_, k, ?_, ?_, fun op o1 o2 => by unfold eqGuard; split <;> rfl⟩
      · exact (eqBoth rfl rfl (fun d => by simp [Op.equalIn, run_underlying (tk_mp ht)])).1
      · exact (eqBoth rfl rfl (fun d => by simp [Op.equalIn, run_underlying (tk_mp ht)])).2
    all_goals exact k.elim
  · cases ht : tk E.P t <;> simp only [ht] at k
    case sl e esz bytes =>
      obtain ⟨j, hu, hj, hsz, hby⟩ := tk_sl ht
      obtain ⟨hv, k⟩ := k
      simp only [Rel] at hx hy; subst hy
      obtain ⟨_, p, hp, hle, hv1, hx⟩ := hx
      obtain ⟨hlen, rfl⟩ := hx (vOk_ver h hv hp)
      refine ⟨_, k, ?_, ?_, fun op o1 o2 => by unfold eqGuard; split <;> rfl⟩
      · exact (eqBoth rfl rfl (fun d => by simp [Op.equalIn, run_underlying hu])).1
      · exact (eqBoth rfl rfl (fun d => by simp [Op.equalIn, run_underlying hu])).2
    all_goals exact k.elim
  · cases ht : tk E.P t <;> simp only [ht] at k
    case sl e esz bytes =>
      obtain ⟨j, hu, hj, hsz, hby⟩ := tk_sl ht
      simp only [Rel] at hx hy; subst hy; subst hx
      refine ⟨_, k, ?_, ?_, fun op o1 o2 => by unfold eqGuard; split <;> rfl⟩
      · exact (eqBoth rfl rfl (fun d => by simp [Op.equalIn, run_underlying hu])).1
      · exact (eqBoth rfl rfl (fun d => by simp [Op.equalIn, run_underlying hu])).2
    all_goals exact k.elim
  · rename_i sz xs
    cases ht : tk E.P t <;> simp only [ht] at k
    case sl e esz bytes =>
      obtain ⟨j, hu, hj, hsz, hby⟩ := tk_sl ht
      simp only [Rel, RelV] at hx hy; subst hy
      obtain ⟨A, c, rfl, hc, hr⟩ := hx
      cases A with
      | none =>
        have he : xs = [] := by
          rcases hr with hr | ⟨b, o, e, _⟩
          · exact hr
          · cases e
        refine ⟨true, (k.2 he).1, ?_, ?_, fun op o1 o2 => by unfold eqGuard; split <;> rfl⟩
        · exact (eqBoth rfl rfl (fun d => by simp [Op.equalIn, run_underlying hu])).1
        · exact (eqBoth rfl rfl (fun d => by simp [Op.equalIn, run_underlying hu])).2
      | some A =>
        have kf : K false := by
          by_cases he : xs = []
          · exact (k.2 he).2
          · exact k.1 he
        refine ⟨false, kf, ?_, ?_, fun op o1 o2 => by unfold eqGuard; split <;> rfl⟩
        · exact (eqBoth rfl rfl (fun d => by simp [Op.equalIn, run_underlying hu])).1
        · exact (eqBoth rfl rfl (fun d => by simp [Op.equalIn, run_underlying hu])).2
    all_goals exact k.elim
  · exact k.elim

def aBin (P : Program) (op : BinOp) (t : TypeId) (x y : D) (H : List Ob) (K : D → Prop) : Prop :=
  match op with
  | .eql => aEq P t x y H fun b => K (.v (.bool b))
  | .neq => aEq P t x y H fun b => K (.v (.bool !b))
  | .shl => (match x, y with | .v (.int k a), .v (.int _ b) => 0 ≤ b ∧ K (.v (.int k (k.wrap (a * 2 ^ min b.toNat k.bits)))) | _, _ => False)
  | .shr => (match x, y with | .v (.int k a), .v (.int _ b) => 0 ≤ b ∧ K (.v (.int k (a.fdiv (2 ^ min b.toNat k.bits)))) | _, _ => False)
  | .add => (match x, y with
    | .v (.int k a), .v (.int k' b) => k = k' ∧ K (.v (.int k (k.wrap (a + b))))
    | .v (.str a), .v (.str b) => a.length + b.length ≤ 9223372036854775807 ∧ K (.v (.str (a ++ b)))
    | _, _ => False)
  | .sub => (match x, y with | .v (.int k a), .v (.int k' b) => k = k' ∧ K (.v (.int k (k.wrap (a - b)))) | _, _ => False)
  | .mul => (match x, y with | .v (.int k a), .v (.int k' b) => k = k' ∧ K (.v (.int k (k.wrap (a * b)))) | _, _ => False)
  | .quo => (match x, y with | .v (.int k a), .v (.int k' b) => k = k' ∧ b ≠ 0 ∧ K (.v (.int k (k.wrap (a.tdiv b)))) | _, _ => False)
  | .rem => (match x, y with | .v (.int k a), .v (.int k' b) => k = k' ∧ b ≠ 0 ∧ K (.v (.int k (a.tmod b))) | _, _ => False)
  | .and => (match x, y with | .v (.int k a), .v (.int k' b) => k = k' ∧ K (.v (.int k (k.wrap (BitVec.ofInt k.bits a &&& BitVec.ofInt k.bits b).toNat))) | _, _ => False)
  | .or => (match x, y with | .v (.int k a), .v (.int k' b) => k = k' ∧ K (.v (.int k (k.wrap (BitVec.ofInt k.bits a ||| BitVec.ofInt k.bits b).toNat))) | _, _ => False)
  | .xor => (match x, y with | .v (.int k a), .v (.int k' b) => k = k' ∧ K (.v (.int k (k.wrap (BitVec.ofInt k.bits a ^^^ BitVec.ofInt k.bits b).toNat))) | _, _ => False)
  | .andNot => (match x, y with | .v (.int k a), .v (.int k' b) => k = k' ∧ K (.v (.int k (k.wrap (BitVec.ofInt k.bits a &&& ~~~ BitVec.ofInt k.bits b).toNat))) | _, _ => False)
  | .lss => (match x, y with
    | .v (.int k a), .v (.int k' b) => k = k' ∧ K (.v (.bool (decide (a < b))))
    | .v (.str a), .v (.str b) => K (.v (.bool (Op.bytesLess a b)))
    | _, _ => False)
  | .leq => (match x, y with
    | .v (.int k a), .v (.int k' b) => k = k' ∧ K (.v (.bool (decide (a ≤ b))))
    | .v (.str a), .v (.str b) => K (.v (.bool (Op.bytesLess a b || a == b)))
    | _, _ => False)
  | .gtr => (match x, y with
    | .v (.int k a), .v (.int k' b) => k = k' ∧ K (.v (.bool (decide (a > b))))
    | .v (.str a), .v (.str b) => K (.v (.bool (!(Op.bytesLess a b || a == b))))
    | _, _ => False)
  | .geq => (match x, y with
    | .v (.int k a), .v (.int k' b) => k = k' ∧ K (.v (.bool (decide (a ≥ b))))
    | .v (.str a), .v (.str b) => K (.v (.bool (!Op.bytesLess a b)))
    | _, _ => False)

theorem toList_mk (a : List UInt8) : (⟨a.toArray⟩ : ByteArray).toList = a := by rw [ByteArray.toList_eq]
theorem eqGuard_other {P : Program} {w : World} {op : BinOp} (h1 : op ≠ .eql) (h2 : op ≠ .neq) (t : TypeId) (x y : Operand) (a b : Value) : (eqGuard op t x y a b).run P w = .ok () w := by
  unfold eqGuard
  cases op <;> first | exact absurd rfl h1 | exact absurd rfl h2 | rfl

set_option maxHeartbeats 2000000 in
theorem aBin_sound {E : Env} {M : Mem} {μ : Mu} {H : List Ob} {w : World} (h : R E M μ H w) {op : BinOp} {t : TypeId} {x y : D} {a b : Value} (hx : Rel M μ x a) (hy : Rel M μ y b) {K : D → Prop} (k : aBin E.P op t x y H K) (o1 o2 : Operand) :
    ∃ v d', (do eqGuard op t o1 o2 a b; binOp op t a b : Sem Value).run E.P w = .ok v w ∧ Rel M μ d' v ∧ K d' := by
  by_cases c1 : op = .eql
  · subst c1
    unfold aBin at k
    obtain ⟨r, kr, h1, _, h3⟩ := aEq_sound h hx hy k
    exact ⟨.bool r, .v (.bool r), by simp only [Sem.run_bind, h1, h3, Result.andThen_ok], by simp only [Rel, RelV], kr⟩
  by_cases c2 : op = .neq
  · subst c2
    unfold aBin at k
    obtain ⟨r, kr, _, h2, h3⟩ := aEq_sound h hx hy k
    exact ⟨.bool !r, .v (.bool !r), by simp only [Sem.run_bind, h2, h3, Result.andThen_ok], by simp only [Rel, RelV], kr⟩
  have hg := eqGuard_other (P := E.P) (w := w) c1 c2 t o1 o2 a b
  simp only [Sem.run_bind, hg, Result.andThen_ok]
  unfold aBin at k
  cases op <;> simp only [] at k
  case eql => exact absurd rfl c1
  case neq => exact absurd rfl c2
  all_goals
    split at k <;> first
      | exact k.elim
      | (obtain ⟨rfl, k⟩ := k
         simp only [Rel, RelV] at hx hy; subst hx; subst hy
         first
           | exact ⟨_, _, by simp [binOp, Op.intArith]; rfl, by simp only [Rel, RelV], k⟩
           | exact ⟨_, _, by simp [binOp, Op.intCmp]; rfl, by simp only [Rel, RelV], k⟩
           | exact ⟨_, _, by simp [binOp, Op.intBits]; rfl, by simp only [Rel, RelV], k⟩
           | exact ⟨_, _, by simp [binOp, Op.intDiv, k.1]; rfl, by simp only [Rel, RelV], k.2⟩)
      | (obtain ⟨h0, k⟩ := k
         simp only [Rel, RelV] at hx hy; subst hx; subst hy
         first
           | exact ⟨_, _, by simp [binOp, Op.shift, Int.not_lt.2 h0]; rfl, by simp only [Rel, RelV], k⟩
           | exact ⟨_, _, run_string_add_sum w _ _ (by simp [ByteArray.size]; omega), by simp only [Rel, RelV]; rw [ByteArray.mk_append_mk], k⟩)
      | (simp only [Rel, RelV] at hx hy; subst hx; subst hy
         exact ⟨_, _, by simp only [binOp, Op.stringOp, toList_mk, Sem.run_pure]; rfl, by simp only [Rel, RelV], k⟩)

def aUn (op : UnOp) (x : D) (K : D → Prop) : Prop :=
  match op, x with
  | .not, .v (.bool b) => K (.v (.bool !b))
  | .neg, .v (.int k n) => K (.v (.int k (k.wrap (0 - n))))
  | .xor, .v (.int k n) => K (.v (.int k (k.wrap (BitVec.ofInt k.bits (if k.signed then -1 else k.max) ^^^ BitVec.ofInt k.bits n).toNat)))
  | _, _ => False
theorem aUn_sound {P : Program} {M : Mem} {μ : Mu} {w : World} {op : UnOp} {x : D} {a : Value} (hx : Rel M μ x a) {K : D → Prop} (k : aUn op x K) :
    ∃ v d', (Op.unary op a).run P w = .ok v w ∧ Rel M μ d' v ∧ K d' := by
  unfold aUn at k
  split at k
  · simp only [Rel, RelV] at hx; subst hx
    exact ⟨_, _, by simp only [Op.unary, Sem.run_pure]; rfl, by simp only [Rel, RelV], k⟩
  · simp only [Rel, RelV] at hx; subst hx
    exact ⟨_, _, by simp only [Op.unary, Op.intArith, Sem.run_pure]; rfl, by simp only [Rel, RelV], k⟩
  · simp only [Rel, RelV] at hx; subst hx
    exact ⟨_, _, by simp only [Op.unary, Op.intBits, Sem.run_pure]; rfl, by simp only [Rel, RelV], k⟩
  · exact k.elim

end Go.Ag
/- AGo, part 7: aggregates, slices that are made and grown. -/
namespace Go.Ag
open Go Go.RowKit

/-! ### build -/
def fillD (place : Nat → Option (Nat × Nat)) : List D → List (Nat × D) → Option (List D)
  | cells, [] => some cells
  | cells, (i, d) :: rest => match place i, d.cs with
    | some (off, size), some ds => if ds.length = size ∧ off + ds.length ≤ cells.length then fillD place (cells.take off ++ ds ++ cells.drop (off + ds.length)) rest else none
    | _, _ => none

theorem foldl_set (ds : List Value) : ∀ (off : Nat) (cells : Array Value), off + ds.length ≤ cells.size →
    (ds.toArray.zipIdx.foldl (fun cs (c, j) => cs.setIfInBounds (off + j) c) cells).toList = cells.toList.take off ++ ds ++ cells.toList.drop (off + ds.length) := by
  have key : ∀ (ds : List Value) (k off : Nat) (cells : Array Value), off + k + ds.length ≤ cells.size →
      ((ds.zipIdx k).foldl (fun (cs : Array Value) (x : Value × Nat) => cs.setIfInBounds (off + x.2) x.1) cells).toList = cells.toList.take (off + k) ++ ds ++ cells.toList.drop (off + k + ds.length) := by
    intro ds
    induction ds with
    | nil => intro k off cells _; simp
    | cons d ds ih =>
      intro k off cells h
      simp only [List.length_cons] at h
      rw [List.zipIdx_cons, List.foldl_cons, ih (k + 1) off _ (by simp; omega)]
      simp only [Array.toList_setIfInBounds]
      apply List.ext_getElem?
      intro i
      have e1 := splice_get (cells.toList.set (off + k) d) ds (off + (k + 1)) (by simp; omega) i
      have e2 := splice_get cells.toList (d :: ds) (off + k) (by simp; omega) i
      simp only [List.length_cons] at e2 ⊢
      rw [e1, e2, List.getElem?_set]
      by_cases c1 : i < off + k
      · rw [if_pos (by omega), if_neg (by omega), if_pos c1]
      · rw [if_neg c1]
        by_cases c2 : i = off + k
        · subst c2
          rw [if_pos (by omega), if_pos rfl, if_pos (by simp; omega), if_pos (by omega)]
          simp
        · rw [if_neg (show ¬ i < off + (k + 1) from by omega)]
          by_cases c3 : i < off + (k + 1) + ds.length
          · rw [if_pos c3, if_pos (by omega), show i - (off + k) = (i - (off + (k + 1))) + 1 from by omega, List.getElem?_cons_succ]
          · rw [if_neg c3, if_neg (by omega), if_neg (by omega)]
  intro off cells h
  have := key ds 0 off cells (by omega)
  simp only [Nat.add_zero] at this
  rw [← this]
  rw [← Array.foldl_toList]
  simp

theorem fill_sound {M : Mem} {μ : Mu} {place : Nat → Option (Nat × Nat)} : ∀ (parts : List (Nat × D)) (vparts : List (Nat × Value)) (cells : List D) (vcells : Array Value) (out : List D),
    parts.map (·.1) = vparts.map (·.1) → (∀ (i : Nat) (d : Nat × D) (v : Nat × Value), parts[i]? = some d → vparts[i]? = some v → Rel M μ d.2 v.2) → RelL M μ cells vcells.toList → fillD place cells parts = some out →
    ∃ vout, Instr.fill place vcells vparts = some vout ∧ RelL M μ out vout.toList
  | [], [], cells, vcells, out, _, _, hc, h => by simp [fillD] at h; subst h; exact ⟨vcells, rfl, hc⟩
  | [], _ :: _, _, _, _, hp, _, _, _ => by simp at hp
  | _ :: _, [], _, _, _, hp, _, _, _ => by simp at hp
  | (i, d) :: ps, (i', v) :: vs, cells, vcells, out, hp, hr, hc, h => by
    simp only [List.map_cons, List.cons.injEq] at hp
    obtain ⟨rfl, hp⟩ := hp
    have hd : Rel M μ d v := hr 0 (i, d) (i, v) rfl rfl
    simp only [fillD] at h
    cases hpl : place i with
    | none => simp [hpl] at h
    | some q =>
      cases hds : d.cs with
      | none => simp [hpl, hds] at h
      | some ds =>
        simp only [hpl, hds] at h
        split at h
        · rename_i hh
          obtain ⟨h1, _⟩ := hd.cells hds
          have hl := h1.length
          have hvl : v.cells.size = ds.length := by simpa using hl
          have hcl := hc.length
          simp only [Array.length_toList] at hcl
          have hfold := foldl_set v.cells.toList q.1 vcells (by rw [show v.cells.toList.length = v.cells.size from by simp, hvl, hcl]; exact hh.2)
          obtain ⟨vout, e1, e2⟩ := fill_sound ps vs _ (v.cells.toList.toArray.zipIdx.foldl (fun cs (c, j) => cs.setIfInBounds (q.1 + j) c) vcells) out hp (fun j d' v' a b => hr (j + 1) d' v' (by simpa using a) (by simpa using b)) (by
            rw [hfold]
            exact hc.splice h1 q.1) h
          refine ⟨vout, ?_, e2⟩
          simp only [Instr.fill, hpl]
          rw [if_neg (by simp [hvl]; omega)]
          exact e1
        · cases h

def aBuild (P : Program) (t : TypeId) (parts : List (Nat × D)) (K : D → Prop) : Prop :=
  match zerosB P t with
  | none => False
  | some z => (match tk P t with
    | .st _ fs => (match fillD (fun i => fs[i]?) z parts with | some cs => K (.agg cs) | none => False)
    | .ar _ esz _ => (match fillD (fun i => some (i * esz, esz)) z parts with | some cs => K (.agg cs) | none => False)
    | _ => False)

/-- Every field's type is known. -/
def knownB (P : Program) (t : TypeId) : Bool :=
  match P.underlying t with
  | some (.struct fs) => fs.toList.all fun f => (P.info? f.type).isSome
  | some (.array _ e) => (P.info? e).isSome
  | _ => false

theorem places_of {P : Program} : ∀ (fs : List Field), (fs.all fun f => (P.info? f.type).isSome) = true → fs.mapM (fun f => (P.info? f.type).map fun i => (f.offset, i.size)) = some (fs.map fun f => (f.offset, szB P f.type))
  | [], _ => rfl
  | f :: fs, h => by
    simp only [List.all_cons, Bool.and_eq_true] at h
    obtain ⟨i, hi⟩ := Option.isSome_iff_exists.1 h.1
    rw [List.mapM_cons, places_of fs h.2]
    simp [hi, szB]

theorem aBuild_sound {P : Program} {M : Mem} {μ : Mu} {w : World} {t : TypeId} (hk : knownB P t = true) {parts : List (Nat × D)} {vparts : Array (Nat × Value)} (hp : parts.map (·.1) = vparts.toList.map (·.1))
    (hr : ∀ (i : Nat) (d : Nat × D) (v : Nat × Value), parts[i]? = some d → vparts.toList[i]? = some v → Rel M μ d.2 v.2) {K : D → Prop} (k : aBuild P t parts K) :
    ∃ v d', (Instr.build t vparts).run P w = .ok v w ∧ Rel M μ d' v ∧ K d' := by
  unfold aBuild at k
  cases hz : zerosB P t with
  | none => simp [hz] at k
  | some z =>
    simp only [hz] at k
    obtain ⟨zv, _, rfl, i, hi, hiz⟩ := zerosB_spec hz
    have hzr : RelL M μ (zv.cells.toList.map ofC) zv.cells.toList := relL_ofC M μ _
    cases ht : tk P t <;> simp only [ht] at k
    case st sz fs =>
      obtain ⟨fields, i', hu, hi', _, rfl⟩ := tk_st ht
      cases hf : fillD (fun i => (fields.toList.map fun f => (f.offset, szB P f.type))[i]?) (zv.cells.toList.map ofC) parts with
      | none => simp only [hf] at k
      | some cs =>
        simp only [hf] at k
        obtain ⟨vout, h1, h2⟩ := fill_sound parts vparts.toList _ zv.cells cs hp hr hzr hf
        have hb : P.built t vparts.toList = some vout := by
          simp only [knownB, hu] at hk
          simp only [Program.built, hi, hu, hiz, places_of _ hk]
          simpa using h1
        exact ⟨_, _, run_build w t vparts vout hb, by simp only [Rel]; exact ⟨vout.toList, rfl, h2⟩, k⟩
    case ar n esz sz =>
      obtain ⟨e, i', hu, hi', _, rfl⟩ := tk_ar ht
      cases hf : fillD (fun i => some (i * szB P e, szB P e)) (zv.cells.toList.map ofC) parts with
      | none => simp only [hf] at k
      | some cs =>
        simp only [hf] at k
        obtain ⟨vout, h1, h2⟩ := fill_sound parts vparts.toList _ zv.cells cs hp hr hzr hf
        have hb : P.built t vparts.toList = some vout := by
          simp only [knownB, hu] at hk
          obtain ⟨ie, hie⟩ := Option.isSome_iff_exists.1 hk
          have hs : szB P e = ie.size := by simp [szB, hie]
          simp only [Program.built, hi, hu, hiz, hie]
          rw [hs] at h1
          exact h1
        exact ⟨_, _, run_build w t vparts vout hb, by simp only [Rel]; exact ⟨vout.toList, rfl, h2⟩, k⟩
    all_goals exact k.elim

/-! ### rows of an array -/
theorem Rows.of_flat {M : Mem} {μ : Mu} {sz : Nat} : ∀ {xs : List (List D)} {vs : List Value}, (∀ x ∈ xs, x.length = sz) → (∃ rest, vs = rest ∧ RelL M μ xs.flatten (rest.take (xs.length * sz))) → Rows M μ sz xs vs := by
  intro xs vs hl ⟨rest, e, hr⟩ i x hx
  subst e
  have hi : i < xs.length := (List.getElem?_eq_some_iff.1 hx).1
  refine ⟨hl x (List.mem_of_getElem? hx), RelL.of_get ?_ fun j d y hj hy => ?_⟩
  · have h1 := hr.length
    have h2 : xs.flatten.length = xs.length * sz := by
      clear hr hx hi h1
      induction xs with
      | nil => simp
      | cons a as ih => simp [hl a (by simp), ih (fun x hx => hl x (by simp [hx])), Nat.add_mul, Nat.add_comm]
    have h3 : (i + 1) * sz ≤ xs.length * sz := Nat.mul_le_mul_right _ hi
    rw [Nat.add_mul, Nat.one_mul] at h3
    have := hl x (List.mem_of_getElem? hx)
    rw [h2] at h1
    simp at h1 ⊢
    omega
  · have hjl : j < sz := by rw [← hl x (List.mem_of_getElem? hx)]; exact (List.getElem?_eq_some_iff.1 hj).1
    have h3 : (i + 1) * sz ≤ xs.length * sz := Nat.mul_le_mul_right _ hi
    rw [Nat.add_mul, Nat.one_mul] at h3
    have hf : xs.flatten[i * sz + j]? = some d := by
      clear hr h3 hi hy
      induction xs generalizing i with
      | nil => simp at hx
      | cons a as ih =>
        have ha := hl a (by simp)
        cases i with
        | zero =>
          simp at hx; subst hx
          rw [List.flatten_cons, List.getElem?_append_left (by omega)]
          simpa using hj
        | succ i =>
          rw [List.flatten_cons, List.getElem?_append_right (by rw [ha, Nat.add_mul]; omega), ha]
          rw [show (i + 1) * sz + j - sz = i * sz + j from by rw [Nat.add_mul]; omega]
          exact ih (fun x hx => hl x (by simp [hx])) i (by simpa using hx)
    obtain ⟨y', g1, g2⟩ := hr.get _ _ hf
    rw [List.getElem?_take, if_pos (by omega)] at g1
    rw [List.getElem?_take, if_pos hjl, List.getElem?_drop, g1] at hy
    cases hy; exact g2

/-- A new array. -/
theorem R.newArr {E : Env} {M : Mem} {μ : Mu} {H : List Ob} {w : World} (h : R E M μ H w) {sz : Nat} {xs : List (List D)} {vs : List Value} {cap : Nat} (hl : ∀ x ∈ xs, x.length = sz) (hv : vs.length = cap * sz) (hc : xs.length ≤ cap)
    (hr : RelL M μ xs.flatten (vs.take (xs.length * sz))) (t : TypeId) :
    ∃ μ', μ.le μ' ∧ R E M μ' (H ++ [.arr 1 sz xs 0]) (w.alloc (.cells vs.toArray t)) ∧ (∀ n, n ≤ cap → Rel M μ' (.own H.length 1 n) (.slice (some ⟨w.heap.size, 0, none⟩) n cap)) := by
  refine ⟨upd μ H.length ⟨w.heap.size, cap, 1⟩, Mu.le_upd_new h.mu_new, ?_, ?_⟩
  · refine h.push rfl ⟨h.below.size, rfl, Nat.le_refl _, fun o y hy => (by rw [h.imm_new o] at hy; cases hy), hc, vs, t, heap_alloc_new w _, hv, ?_⟩
    exact Rows.of_flat hl ⟨vs, rfl, RelL.mono (.refl _) (Mu.le_upd_new h.mu_new) hr⟩
  · intro n hn
    simp only [Rel]
    exact ⟨⟨_, _, _, rfl⟩, _, upd_self _ _ _, Nat.le_refl _, Nat.le_refl _, fun _ => ⟨hn, rfl⟩⟩

/-- A list cut into rows. -/
def chop (sz : Nat) : Nat → List D → List (List D)
  | 0, _ => []
  | n + 1, l => l.take sz :: chop sz n (l.drop sz)
theorem chop_length (sz : Nat) : ∀ (n : Nat) (l : List D), (chop sz n l).length = n
  | 0, _ => rfl
  | n + 1, l => by simp [chop, chop_length sz n]
theorem chop_rows (sz : Nat) : ∀ (n : Nat) (l : List D), l.length = n * sz → ∀ x ∈ chop sz n l, x.length = sz
  | 0, _, _, x, hx => by simp [chop] at hx
  | n + 1, l, h, x, hx => by
    rw [Nat.add_mul, Nat.one_mul] at h
    simp only [chop, List.mem_cons] at hx
    rcases hx with rfl | hx
    · simp; omega
    · exact chop_rows sz n _ (by simp; omega) x hx
theorem chop_flatten (sz : Nat) : ∀ (n : Nat) (l : List D), l.length = n * sz → (chop sz n l).flatten = l
  | 0, l, h => by simp at h; subst h; rfl
  | n + 1, l, h => by
    rw [Nat.add_mul, Nat.one_mul] at h
    simp only [chop, List.flatten_cons]
    rw [chop_flatten sz n _ (by simp; omega), List.take_append_drop]

def aBuildSlice (P : Program) (t : TypeId) (n : Nat) (parts : List (Nat × D)) (H : List Ob) (K : D → List Ob → Prop) : Prop :=
  match tk P t with
  | .sl e esz _ => n * esz ≤ 16777216 ∧ (match zerosB P e with
    | some z => z.length = esz ∧ (match fillD (fun i => some (i * esz, esz)) (List.replicate n z).flatten parts with
      | some cs => K (.own H.length 1 n) (H ++ [.arr 1 esz (chop esz n cs) 0])
      | none => False)
    | none => False)
  | _ => False

theorem fillD_length {place : Nat → Option (Nat × Nat)} : ∀ (parts : List (Nat × D)) (cells out : List D), fillD place cells parts = some out → out.length = cells.length
  | [], cells, out, h => by simp [fillD] at h; rw [h]
  | (i, d) :: ps, cells, out, h => by
    simp only [fillD] at h
    split at h
    · split at h
      · rename_i hh
        rw [fillD_length ps _ _ h, splice_length _ _ _ hh.2]
      · cases h
    · cases h

theorem zeros_range (z : List Value) (n : Nat) : ((Array.range (n * z.length)).map fun i => z.toArray[i % z.toArray.size]!).toList = (List.replicate n z).flatten := by
  simp only [Array.toList_map, Array.toList_range, List.size_toArray]
  induction n with
  | zero => simp
  | succ n ih =>
    by_cases hz : z.length = 0
    · have : z = [] := List.eq_nil_of_length_eq_zero hz
      subst this; simp
    rw [Nat.add_mul, Nat.one_mul, List.range_add, List.map_append, ih, List.replicate_succ']
    rw [List.flatten_append, List.flatten_singleton]
    congr 1
    apply List.ext_getElem?
    intro j
    simp only [List.map_map]
    rw [List.getElem?_map]
    by_cases hj : j < z.length
    · rw [List.getElem?_range hj]
      simp only [Option.map_some, Function.comp]
      have : (n * z.length + j) % z.length = j := by rw [Nat.mul_comm, Nat.mul_add_mod, Nat.mod_eq_of_lt hj]
      rw [this]
      simp [hj]
    · rw [List.getElem?_eq_none (by simp; omega), List.getElem?_eq_none (by omega)]; rfl

theorem relL_zeros (M : Mem) (μ : Mu) (vs : List Value) : ∀ n, RelL M μ (List.replicate n (vs.map ofC)).flatten (List.replicate n vs).flatten
  | 0 => by simp [RelL]
  | n + 1 => by rw [List.replicate_succ, List.replicate_succ, List.flatten_cons, List.flatten_cons]; exact (relL_ofC M μ vs).append (relL_zeros M μ vs n)

theorem aBuildSlice_sound {E : Env} {M : Mem} {μ : Mu} {H : List Ob} {w : World} (h : R E M μ H w) {t : TypeId} {n : Nat} {parts : List (Nat × D)} {vparts : Array (Nat × Value)} (hp : parts.map (·.1) = vparts.toList.map (·.1))
    (hr : ∀ (i : Nat) (d : Nat × D) (v : Nat × Value), parts[i]? = some d → vparts.toList[i]? = some v → Rel M μ d.2 v.2) {K : D → List Ob → Prop} (k : aBuildSlice E.P t n parts H K) :
    Ok E M μ (Instr.buildSlice t n vparts) w K := by
  unfold aBuildSlice at k
  cases ht : tk E.P t <;> simp only [ht] at k
  case sl e esz bytes =>
    obtain ⟨j, hu, hj, hsz, hby⟩ := tk_sl ht
    obtain ⟨hmax, k⟩ := k
    cases hz : zerosB E.P e with
    | none => simp [hz] at k
    | some z =>
      simp only [hz] at k
      obtain ⟨hzl, k⟩ := k
      obtain ⟨zv, hzr, rfl, i, hi, hiz⟩ := zerosB_spec hz
      have hzl' : zv.cells.size = esz := by simpa using hzl
      cases hf : fillD (fun i => some (i * esz, esz)) (List.replicate n (zv.cells.toList.map ofC)).flatten parts with
      | none => simp [hf] at k
      | some cs =>
        simp only [hf] at k
        have hcs : cs.length = n * esz := by rw [fillD_length _ _ _ hf]; simp [hzl']
        have hz0 : RelL M μ (List.replicate n (zv.cells.toList.map ofC)).flatten ((Array.range (n * esz)).map (fun i => zv.cells[i % zv.cells.size]!)).toList := by
          have := zeros_range zv.cells.toList n
          simp only [Array.length_toList, Array.toArray_toList, hzl'] at this
          rw [hzl', this]
          exact relL_zeros M μ _ n
        obtain ⟨vout, h1, h2⟩ := fill_sound parts vparts.toList _ ((Array.range (n * esz)).map (fun i => zv.cells[i % zv.cells.size]!)) cs hp hr hz0 hf
        obtain ⟨μ', g1, g2, g3⟩ := h.newArr (xs := chop esz n cs) (vs := vout.toList) (cap := n) (chop_rows esz n cs hcs) (by rw [h2.length, hcs]) (by rw [chop_length]; exact Nat.le_refl _)
          (by rw [chop_flatten esz n cs hcs, chop_length, List.take_of_length_le (by rw [h2.length, hcs]; exact Nat.le_refl _)]; exact h2) e
        refine ⟨_, _, _, M, μ', _, ?_, .refl _, g1, g2, g3 n (Nat.le_refl _), k⟩
        have hne : ¬ 16777216 < n * esz := by omega
        by_cases h0 : n * esz = 0
        · have e0 : (Array.range (n * esz)).map (fun i => zv.cells[i % zv.cells.size]!) = #[] := by simp [h0]
          rw [e0] at h1
          have hr0 : Array.range 0 = #[] := rfl
          rcases Nat.mul_eq_zero.1 h0 with en | en
          · subst en
            simp [Instr.buildSlice, run_underlying hu, sizeOf, typeInfo, hj, hsz, newRow, hr0, h1]
          · rw [en] at h1
            simp only [Nat.mul_zero] at h1
            simp [Instr.buildSlice, run_underlying hu, sizeOf, typeInfo, hj, newRow, hsz, en, hr0, h1]
        · simp [Instr.buildSlice, run_underlying hu, sizeOf, typeInfo, hj, hsz, hne, h0, hzr, h1, newRow]
  all_goals exact k.elim

end Go.Ag
/- AGo, part 8: append, and small builtins. -/
namespace Go.Ag
open Go Go.RowKit

/-- One array is written, in its block, and counts as another one. -/
theorem R.setBump {E : Env} {M : Mem} {μ : Mu} {H : List Ob} {w w' : World} (h : R E M μ H w) {i : Nat} {o o' : Ob} {p p' : Pt} (hi : H[i]? = some o) (hd : o ≠ .dead) (hp : μ i = some p)
    (hb' : p'.blk = p.blk) (hv : p.ver < p'.ver) (h1 : 1 ≤ p.ver)
    (hos : w'.os = w.os) (htape : w'.tape = w.tape) (hout : w'.output = w.output) (hsz : w'.heap.size = w.heap.size)
    (hother : ∀ k, k ≠ p.blk → w'.heap[k]? = w.heap[k]?) (himm : ∀ o y, M p.blk o = some y → w'.cell? ⟨p.blk, o, none⟩ = some y)
    (ho' : ObRel E.w0.heap.size M (upd μ i p') w' o' p') : R E M (upd μ i p') (H.set i o') w' := by
  have hle : μ.le (upd μ i p') := Mu.le_upd_ver hp hv h1
  have hob := h.obj i o p hi hp
  have hb := hob.base_le hd
  have hlt : i < H.length := h.dom i p hp
  refine ⟨h.below.trans ⟨hos, htape, hout, by omega, fun k hk => hother k (by omega)⟩, fun b o y hy => ?_, h.glob, fun j q hq => ?_, fun j oj q hj hq => ?_, ?_, fun j hj => (by
    by_cases e : j = i
    · subst e; exact ⟨p', upd_self _ _ _⟩
    · rw [upd_ne _ _ e]; exact h.tot j (by simpa using hj))⟩
  · by_cases e : b = p.blk
    · subst e; exact himm o y hy
    · rw [World.cell?_of_block (w := w) (hother b e)]; exact h.imm b o y hy
  · by_cases e : j = i
    · subst e; simpa using hlt
    · rw [upd_ne _ _ e] at hq; simpa using h.dom j q hq
  · by_cases e : j = i
    · subst e
      rw [upd_self] at hq; cases hq
      rw [List.getElem?_set_self hlt] at hj; cases hj
      exact ho'
    · rw [upd_ne _ _ e] at hq
      rw [List.getElem?_set_ne (fun x => e x.symm)] at hj
      have hoj := h.obj j oj q hj hq
      by_cases hdj : oj = .dead
      · subst hdj; trivial
      · exact hoj.same hle (hother _ (h.sep j i oj o q p e hj hi hdj hd hq hp))
  · intro j k oj ok pj pk hjk hj hk dj dk hpj hpk
    have back : ∀ (j : Nat) (oj : Ob) (pj : Pt), (H.set i o')[j]? = some oj → oj ≠ .dead → upd μ i p' j = some pj → ∃ oj' pj', H[j]? = some oj' ∧ oj' ≠ .dead ∧ μ j = some pj' ∧ pj'.blk = pj.blk := fun j oj pj hj dj hpj => by
      by_cases e : j = i
      · subst e
        rw [upd_self] at hpj; cases hpj
        exact ⟨o, p, hi, hd, hp, hb'.symm⟩
      · rw [upd_ne _ _ e] at hpj
        rw [List.getElem?_set_ne (fun x => e x.symm)] at hj; exact ⟨oj, pj, hj, dj, hpj, rfl⟩
    obtain ⟨oj', qj, hj', dj', hqj, ej⟩ := back j oj pj hj dj hpj
    obtain ⟨ok', qk, hk', dk', hqk, ek⟩ := back k ok pk hk dk hpk
    rw [← ej, ← ek]
    exact h.sep j k oj' ok' qj qk hjk hj' hk' dj' dk' hqj hqk

/-! ### what is appended -/
def aSrc (x : D) (H : List Ob) (sz : Nat) (K : List (List D) → Prop) : Prop :=
  match x with
  | .nils => K []
  | .v (.list sz' ys) => sz' = sz ∧ K (ys.map (·.map .v))
  | .own b ver len => (match H[b]? with
    | some (.arr ver' sz' xs _) => ver' = ver ∧ sz' = sz ∧ len ≤ xs.length ∧ ((xs.take len).all (·.all D.cell)) = true ∧ K (xs.take len)
    | _ => False)
  | _ => False

theorem flatten_len {sz : Nat} {α : Type} : ∀ {xs : List (List α)}, (∀ x ∈ xs, x.length = sz) → xs.flatten.length = xs.length * sz
  | [], _ => by simp
  | x :: xs, h => by
    rw [List.flatten_cons, List.length_append, h x (by simp), flatten_len (fun y hy => h y (by simp [hy])), List.length_cons, Nat.add_mul, Nat.one_mul, Nat.add_comm]

theorem Rows.flat {M : Mem} {μ : Mu} {sz : Nat} {xs : List (List D)} {vs : List Value} (h : Rows M μ sz xs vs) (hl : xs.length * sz ≤ vs.length) : RelL M μ xs.flatten (vs.take (xs.length * sz)) := by
  induction xs generalizing vs with
  | nil => simp [RelL]
  | cons x xs ih =>
    have h0 := h 0 x (by simp)
    simp only [Nat.zero_mul, List.drop_zero] at h0
    have e : (xs.length + 1) * sz = sz + xs.length * sz := by rw [Nat.add_mul, Nat.one_mul, Nat.add_comm]
    rw [List.length_cons, e] at hl
    rw [List.flatten_cons, List.length_cons, e, List.take_add]
    refine h0.2.append (ih (fun i y hy => ?_) (by simp; omega))
    have := h (i + 1) y (by simpa using hy)
    rw [List.drop_drop]
    rwa [show sz + i * sz = (i + 1) * sz from by rw [Nat.add_mul, Nat.one_mul, Nat.add_comm]]
theorem Rows.take {M : Mem} {μ : Mu} {sz : Nat} {xs : List (List D)} {vs : List Value} (h : Rows M μ sz xs vs) (n : Nat) : Rows M μ sz (xs.take n) vs := fun i x hx => by
  rw [List.getElem?_take] at hx
  split at hx
  · exact h i x hx
  · simp at hx
theorem Rows.len {M : Mem} {μ : Mu} {sz : Nat} {xs : List (List D)} {vs : List Value} (h : Rows M μ sz xs vs) : ∀ x ∈ xs, x.length = sz := fun x hx => by
  obtain ⟨i, hi⟩ := List.mem_iff_getElem?.1 hx
  exact (h i x hi).1

theorem RelRow.append {M : Mem} {b : Nat} : ∀ {o : Nat} {xs ys : List V}, RelRow M b o xs → RelRow M b (o + xs.length) ys → RelRow M b o (xs ++ ys)
  | o, [], ys, _, k => by simpa using k
  | o, x :: xs, ys, h, k => by
    simp only [RelRow, List.cons_append] at h ⊢
    exact ⟨h.1, RelRow.append h.2 (by rw [List.length_cons] at k; rwa [show o + 1 + xs.length = o + (xs.length + 1) from by omega])⟩
theorem RelRows.flat {M : Mem} {sz b : Nat} : ∀ {o : Nat} {xs : List (List V)}, RelRows M sz b o xs → RelRow M b o xs.flatten
  | _, [], _ => by simp [RelRow]
  | o, x :: xs, h => by
    simp only [RelRows] at h
    rw [List.flatten_cons]
    exact RelRow.append h.2.1 (by rw [h.1]; exact RelRows.flat h.2.2)
/-- The cells that a source has in the world. -/
theorem aSrc_sound {E : Env} {M : Mem} {μ : Mu} {H : List Ob} {w : World} (h : R E M μ H w) {x : D} {y : Value} (hy : Rel M μ x y) {sz : Nat} {K : List (List D) → Prop} (k : aSrc x H sz K) :
    ∃ rows A c, K rows ∧ y = .slice A rows.length c ∧ (∀ r ∈ rows, r.length = sz) ∧ (rows = [] ∨ ∃ a news, A = some a ∧ RelL M μ rows.flatten news ∧ (∀ v ∈ news, v.oneCell' = true) ∧ ∀ j u, news[j]? = some u → w.cell? (a.add j) = some u) := by
  unfold aSrc at k
  split at k
  · simp only [Rel] at hy; subst hy
    exact ⟨[], none, 0, k, rfl, by simp, .inl rfl⟩
  · rename_i sz' ys
    obtain ⟨rfl, k⟩ := k
    simp only [Rel, RelV] at hy
    obtain ⟨A, c, rfl, hc, hr⟩ := hy
    rcases hr with rfl | ⟨b, o, rfl, hr⟩
    · exact ⟨[], A, c, k, rfl, by simp, .inl rfl⟩
    · refine ⟨_, _, c, k, by rw [List.length_map], fun r hr' => ?_, .inr ⟨⟨b, o, none⟩, (List.range (ys.length * sz')).map (fun j => (M b (o + j)).getD undef), rfl, ?_, ?_, ?_⟩⟩
      · obtain ⟨q, hq, rfl⟩ := List.mem_map.1 hr'
        obtain ⟨i, hi⟩ := List.mem_iff_getElem?.1 hq
        simp [(hr.get i q hi).1]
      all_goals
        have hfl : ys.flatten.length = ys.length * sz' := flatten_len (sz := sz') (xs := ys) (fun q hq => by obtain ⟨i, hi⟩ := List.mem_iff_getElem?.1 hq; exact (hr.get i q hi).1)
        have hcell : ∀ j, j < ys.length * sz' → ∃ x y, ys.flatten[j]? = some x ∧ M b (o + j) = some y ∧ RelV M x y := by
          intro j hj
          have hj' : j < ys.flatten.length := by omega
          obtain ⟨y, h1, h2⟩ := hr.flat.get j _ (List.getElem?_eq_getElem hj')
          exact ⟨_, y, List.getElem?_eq_getElem hj', h1, h2⟩
      · rw [show (ys.map fun x => x.map D.v).flatten = ys.flatten.map .v from by rw [List.map_flatten]]
        refine RelL.of_get ?_ fun j d y hj1 hj2 => ?_
        · simp only [List.length_map, List.length_range, hfl]
        · have hjl : j < ys.length * sz' := by have := (List.getElem?_eq_some_iff.1 hj2).1; simpa using this
          obtain ⟨x', y', g1, g2, g3⟩ := hcell j hjl
          rw [List.getElem?_map, g1] at hj1
          rw [List.getElem?_map, List.getElem?_range hjl] at hj2
          simp only [Option.map_some, Option.some.injEq] at hj1 hj2
          subst hj1; subst hj2
          simp only [g2, Option.getD_some, Rel]; exact g3
      · intro v hv
        obtain ⟨j, hj, rfl⟩ := List.mem_map.1 hv
        obtain ⟨x', y', g1, g2, g3⟩ := hcell j (by simpa using hj)
        simp only [g2, Option.getD_some]; exact g3.one
      · intro j u hj
        have hjl : j < ys.length * sz' := by have := (List.getElem?_eq_some_iff.1 hj).1; simpa using this
        obtain ⟨x', y', g1, g2, g3⟩ := hcell j hjl
        rw [List.getElem?_map, List.getElem?_range hjl] at hj
        simp only [Option.map_some, Option.some.injEq] at hj
        subst hj
        simp only [g2, Option.getD_some, Addr.add_mid]
        exact h.imm _ _ _ g2
  · rename_i b ver len
    cases ho : H[b]? with
    | none => simp [ho] at k
    | some ob =>
      cases ob <;> simp only [ho] at k
      case arr ver' sz' xs esc =>
        obtain ⟨rfl, rfl, hlen, hcells, k⟩ := k
        simp only [Rel] at hy
        obtain ⟨_, p, hp, _, _, hy⟩ := hy
        obtain ⟨_, hver, _, _, hcap, vs, tt, hb, hvl, hv⟩ := h.obj b _ p ho hp
        obtain ⟨_, rfl⟩ := hy hver
        have hl2 : (xs.take len).length = len := by simp; omega
        have hfl := (hv.take len).flat (by rw [hl2, hvl]; exact Nat.mul_le_mul_right _ (by omega))
        refine ⟨_, _, _, k, by rw [hl2], (hv.take len).len, .inr ⟨⟨p.blk, 0, none⟩, vs.take ((xs.take len).length * sz'), rfl, hfl, ?_, ?_⟩⟩
        · intro v hv'
          obtain ⟨i, hi⟩ := List.mem_iff_getElem?.1 hv'
          have hil : i < (xs.take len).flatten.length := by rw [← hfl.length]; exact (List.getElem?_eq_some_iff.1 hi).1
          obtain ⟨y', g1, g2⟩ := hfl.get i _ (List.getElem?_eq_getElem hil)
          rw [hi] at g1; cases g1
          refine g2.one ?_
          obtain ⟨q, hq1, hq2⟩ := List.mem_flatten.1 (List.getElem_mem hil)
          exact List.all_eq_true.1 (List.all_eq_true.1 hcells q hq1) _ hq2
        · intro j u hj
          rw [List.getElem?_take] at hj
          split at hj
          · rw [Addr.add_mid, Nat.zero_add, cell?_block hb]; exact hj
          · simp at hj
      all_goals exact k.elim
  · exact k.elim

def aAppend (P : Program) (t t2 : TypeId) (s x : D) (H : List Ob) (K : D → List Ob → Prop) : Prop :=
  t = t2 ∧ (match tk P t with
  | .sl e esz bytes => (match zerosB P e with
    | none => False
    | some z => z.length = esz ∧ aSrc x H esz fun rows =>
      match s with
      | .nils => (rows = [] → K .nils H) ∧ (rows ≠ [] → rows.length * bytes ≤ 140737488355328 ∧ rows.length ≤ 9223372036854775807 ∧ K (.own H.length 1 rows.length) (H ++ [.arr 1 esz rows 0]))
      | .own b ver len => (match H[b]? with
        | some (.arr ver' sz xs esc) => ver' = ver ∧ sz = esz ∧ len ≤ xs.length ∧ esc ≤ len ∧ (len + rows.length) * bytes ≤ 140737488355328 ∧ len + rows.length ≤ 9223372036854775807 ∧
            K (.own b (ver + 1) (len + rows.length)) (H.set b (.arr (ver + 1) esz (xs.take len ++ rows) esc))
        | _ => False)
      | _ => False)
  | _ => False)

theorem size_zeros (z : Array Value) (n : Nat) : (Builtin.zeroCells z n).size = n * z.size := by simp [Builtin.zeroCells]

theorem aAppend_sound {E : Env} {M : Mem} {μ : Mu} {H : List Ob} {w : World} (h : R E M μ H w) {t t2 ty : TypeId} {s x : D} {sv xv : Value} (hs : Rel M μ s sv) (hx : Rel M μ x xv) {K : D → List Ob → Prop} (k : aAppend E.P t t2 s x H K) :
    Ok E M μ (Builtin.append_ #[t, t2] ty #[sv, xv]) w K := by
  unfold aAppend at k
  obtain ⟨rfl, k⟩ := k
  cases ht : tk E.P t <;> simp only [ht] at k
  case sl e esz bytes =>
    obtain ⟨i, hu, hi, hsz, hby⟩ := tk_sl ht
    cases hz : zerosB E.P e with
    | none => simp [hz] at k
    | some z =>
      simp only [hz] at k
      obtain ⟨hzl, k⟩ := k
      obtain ⟨zv, _, rfl, i', hi', hiz⟩ := zerosB_spec hz
      rw [hi] at hi'; cases hi'
      have hzs : zv.cells.size = esz := by simpa using hzl
      obtain ⟨rows, A, c, k, rfl, hrows, hsrc⟩ := aSrc_sound h hx k
      cases s with
      | nils =>
        dsimp only at k
        simp only [Rel] at hs
        subst hs
        by_cases he : rows = []
        · subst he
          refine ⟨.slice none 0 0, w, .nils, M, μ, H, ?_, .refl _, .refl _, h, by simp only [Rel], k.1 rfl⟩
          cases A with
          | none => simp [Builtin.append_, run_underlying hu, sizeOf, typeInfo, hi, Builtin.lenOf, Builtin.firstCells]
          | some a => simp [Builtin.append_, run_underlying hu, sizeOf, typeInfo, hi, Builtin.lenOf, Builtin.firstCells, loadCells, loadCellsFrom]
        · obtain ⟨hb1, hb2, k⟩ := k.2 he
          rcases hsrc with hsrc | ⟨a, news, rfl, hrel, hone, hcell⟩
          · exact absurd hsrc he
          have hn0 : 0 < rows.length := List.length_pos_iff.2 he
          have hnl : news.length = rows.length * esz := by rw [hrel.length, flatten_len hrows]
          have hrun := run_append_nil (P := E.P) w t ty e i zv hu hi hiz a rows.length c news (by rw [hsz]; exact hnl) hcell hn0 (by omega) (by rw [hby]; omega)
          have hge := grownCap_ge w rows.length 0 e
          generalize grownCap w rows.length 0 e = cap at hrun hge
          have harr : (news.toArray ++ Builtin.zeroCells zv.cells (cap - rows.length)) = (news ++ (Builtin.zeroCells zv.cells (cap - rows.length)).toList).toArray := by
            apply Array.toList_inj.1; simp
          rw [harr] at hrun
          have hvl : (news ++ (Builtin.zeroCells zv.cells (cap - rows.length)).toList).length = cap * esz := by
            rw [List.length_append, show (Builtin.zeroCells zv.cells (cap - rows.length)).toList.length = _ from Array.length_toList, size_zeros, hnl, hzs, ← Nat.add_mul]
            congr 1; omega
          obtain ⟨μ', g1, g2, g3⟩ := h.drew.newArr (xs := rows) (cap := cap) hrows hvl hge (by rw [← hnl, List.take_left]; exact hrel) e
          exact ⟨_, _, _, M, μ', _, hrun, .refl _, g1, g2, g3 _ hge, k⟩
      | own b ver len =>
        dsimp only at k
        cases ho : H[b]? with
        | none => simp [ho] at k
        | some ob =>
          cases ob <;> simp only [ho] at k
          case arr ver' sz2 xs esc =>
            obtain ⟨rfl, rfl, hlen, hesc, hb1, hb2, k⟩ := k
            simp only [Rel] at hs
            obtain ⟨_, p, hp, _, hv1, hs⟩ := hs
            obtain ⟨hbase, hver, hv1', himm, hcap, vs, tt, hb, hvl, hv⟩ := h.obj b _ p ho hp
            obtain ⟨hlc, rfl⟩ := hs hver
            have hlen2 : (xs.take len).length = len := by simp; omega
            have hlenv : len * sz2 ≤ vs.length := by rw [hvl]; exact Nat.mul_le_mul_right _ hlc
            have hold : RelL M μ (xs.take len).flatten (vs.take (len * sz2)) := by
              have := (hv.take len).flat (by rw [hlen2]; exact hlenv)
              rwa [hlen2] at this
            obtain ⟨news, hnl, hrel, hone, hcell⟩ : ∃ news : List Value, news.length = rows.length * sz2 ∧ RelL M μ rows.flatten news ∧ (∀ v ∈ news, v.oneCell' = true) ∧ (rows ≠ [] → ∃ a, A = some a ∧ ∀ j u, news[j]? = some u → w.cell? (a.add j) = some u) := by
              rcases hsrc with rfl | ⟨a, news, rfl, hrel, hone, hcell⟩
              · exact ⟨[], by simp, by simp [RelL], by simp, fun h => absurd rfl h⟩
              · exact ⟨news, by rw [hrel.length, flatten_len hrows], hrel, hone, fun _ => ⟨a, rfl, hcell⟩⟩
            have hrows2 : ∀ r ∈ xs.take len ++ rows, r.length = sz2 := fun r hr => by
              rcases List.mem_append.1 hr with hr | hr
              · exact hv.len r (List.mem_of_mem_take hr)
              · exact hrows r hr
            by_cases hroom : len + rows.length ≤ p.cap
            · -- there is room
              have hfit : len * sz2 + news.length ≤ vs.length := by rw [hnl, hvl, ← Nat.add_mul]; exact Nat.mul_le_mul_right _ hroom
              have hst := run_storeCells_at E.P p.blk (len * sz2) tt news 0 vs.toArray w hb (by simpa using hfit) hone
              simp only [Nat.add_zero, List.toList_toArray] at hst
              have hrun : (Builtin.append_ #[t, t] ty #[.slice (some ⟨p.blk, 0, none⟩) len p.cap, .slice A rows.length c]).run E.P w =
                  .ok (.slice (some ⟨p.blk, 0, none⟩) (len + rows.length) p.cap) (w.setRow p.blk (vs.take (len * sz2) ++ news ++ vs.drop (len * sz2 + news.length)).toArray) := by
                have hfc : (Builtin.firstCells i.size rows.length (.slice A rows.length c)).run E.P w = .ok news.toArray w := by
                  by_cases he : rows = []
                  · subst he
                    have : news = [] := List.eq_nil_of_length_eq_zero (by simpa using hnl)
                    subst this
                    cases A with
                    | none => simp [Builtin.firstCells]
                    | some a => simp [Builtin.firstCells, loadCells, loadCellsFrom]
                  · obtain ⟨a, rfl, hc⟩ := hcell he
                    exact run_firstCells_some (P := E.P) w i.size rows.length a rows.length c news (by rw [hsz]; exact hnl) hc
                rw [hsz] at hfc
                simp [Builtin.append_, run_underlying hu, sizeOf, typeInfo, hi, Builtin.lenOf, hroom, hsz, hfc, Addr.add_mid, hst]
              have hspl := splice_length vs news (len * sz2) hfit
              have hspg := splice_get vs news (len * sz2) hfit
              refine ⟨_, _, _, M, upd μ b ⟨p.blk, p.cap, ver' + 1⟩, _, hrun, .refl _, Mu.le_upd_ver hp (by rw [hver]; exact Nat.lt_succ_self _) (by omega), ?_, ?_, k⟩
              · refine h.setBump ho (by simp) hp rfl (by rw [hver]; exact Nat.lt_succ_self _) (by omega) rfl rfl rfl (by simp) (fun k hk => setRow_other w _ k _ hk) (fun o y hM => ?_) ?_
                · rw [cell?_block (setRow_heap w _ _ _ tt _ hb), hspg]
                  have h1 := himm o y hM
                  have h2 : esc * sz2 ≤ len * sz2 := Nat.mul_le_mul_right _ hesc
                  rw [if_pos (by omega)]
                  have := h.imm _ _ _ hM
                  rwa [cell?_block hb] at this
                · refine ⟨hbase, rfl, by omega, himm, by simp; omega, _, tt, setRow_heap w _ _ _ tt _ hb, by rw [hspl]; exact hvl, Rows.of_flat hrows2 ⟨_, rfl, ?_⟩⟩
                  rw [List.flatten_append]
                  have e1 : (xs.take len ++ rows).length * sz2 = (vs.take (len * sz2) ++ news).length := by
                    simp only [List.length_append, List.length_take, hnl, Nat.add_mul]
                    rw [Nat.min_eq_left hlen, Nat.min_eq_left hlenv]
                  rw [e1, List.take_left]
                  exact RelL.mono (.refl _) (Mu.le_upd_ver hp (by rw [hver]; exact Nat.lt_succ_self _) (by omega)) (hold.append hrel)
              · simp only [Rel]
                exact ⟨⟨_, _, _, rfl⟩, _, upd_self _ _ _, Nat.le_refl _, by omega, fun _ => ⟨hroom, rfl⟩⟩
            · -- it is laid anew
              have hne : rows ≠ [] := fun e => by subst e; simp at hroom; omega
              obtain ⟨a, rfl, hcell2⟩ := hcell hne
              have hol : (vs.take (len * sz2)).length = len * i.size := by rw [hsz]; simp; omega
              have holds : ∀ j v, (vs.take (len * sz2))[j]? = some v → w.cell? ((⟨p.blk, 0, none⟩ : Addr).add j) = some v := fun j v hj => by
                rw [List.getElem?_take] at hj
                split at hj
                · rw [Addr.add_mid, Nat.zero_add, cell?_block hb]; exact hj
                · simp at hj
              have hrun := run_append_grow (P := E.P) w t ty e i zv hu hi hiz ⟨p.blk, 0, none⟩ len p.cap _ hol holds a rows.length c news (by rw [hsz]; exact hnl) hcell2 (by omega) (by omega) (growslice_fits (by omega) (by rw [hby]; exact hb1))
              have hge := grownCap_ge w (len + rows.length) p.cap e
              generalize grownCap w (len + rows.length) p.cap e = cap at hrun hge
              have harr : ((vs.take (len * sz2)).toArray ++ news.toArray ++ Builtin.zeroCells zv.cells (cap - (len + rows.length))) = ((vs.take (len * sz2) ++ news) ++ (Builtin.zeroCells zv.cells (cap - (len + rows.length))).toList).toArray := by
                apply Array.toList_inj.1; simp
              rw [harr] at hrun
              have e0 : (vs.take (len * sz2) ++ news).length = (len + rows.length) * sz2 := by
                rw [List.length_append, hol, hsz, hnl, Nat.add_mul]
              have hvl' : ((vs.take (len * sz2) ++ news) ++ (Builtin.zeroCells zv.cells (cap - (len + rows.length))).toList).length = cap * sz2 := by
                rw [List.length_append, show (Builtin.zeroCells zv.cells (cap - (len + rows.length))).toList.length = _ from Array.length_toList, size_zeros, e0, hzs, ← Nat.add_mul]
                congr 1; omega
              have hle : μ.le (upd μ b ⟨w.heap.size, cap, ver' + 1⟩) := Mu.le_upd_ver hp (by rw [hver]; exact Nat.lt_succ_self _) (by omega)
              refine ⟨_, _, _, M, upd μ b ⟨w.heap.size, cap, ver' + 1⟩, _, hrun, .refl _, hle, ?_, ?_, k⟩
              · refine h.drew.relay ho (by simp) hp rfl (by rw [hver]; exact Nat.lt_succ_self _) (by omega) ?_
                refine ⟨h.below.size, rfl, by omega, fun o y hM => (by have := h.imm_new o; rw [this] at hM; cases hM), by simp; omega, _, e, heap_alloc_new w.drew _, hvl', Rows.of_flat hrows2 ⟨_, rfl, ?_⟩⟩
                rw [List.flatten_append]
                have e1 : (xs.take len ++ rows).length * sz2 = (vs.take (len * sz2) ++ news).length := by
                  rw [e0, List.length_append, hlen2]
                rw [e1, List.take_left]
                exact RelL.mono (.refl _) hle (hold.append hrel)
              · simp only [Rel]
                exact ⟨⟨_, _, _, rfl⟩, _, upd_self _ _ _, Nat.le_refl _, by omega, fun _ => ⟨hge, rfl⟩⟩
          all_goals exact k.elim
      | _ => exact k.elim
  all_goals exact k.elim

end Go.Ag
/- AGo, part 9: one operation. -/
namespace Go.Ag
open Go Go.RowKit

/-! ### len -/
def aLen (P : Program) (t : TypeId) (d : D) (H : List Ob) (K : D → Prop) : Prop :=
  match d with
  | .v (.str s) => tk P t = .str ∧ K (.v (.int .i64 s.length))
  | .v (.list _ xs) => (match tk P t with | .sl _ _ _ => K (.v (.int .i64 xs.length)) | _ => False)
  | .nils => (match tk P t with | .sl _ _ _ => K (.v (.int .i64 0)) | _ => False)
  | .own b ver len => (match tk P t with | .sl _ _ _ => vOk H b ver ∧ K (.v (.int .i64 len)) | _ => False)
  | .sub b ver _ _ len _ => (match tk P t with | .sl _ _ _ => vOk H b ver ∧ K (.v (.int .i64 len)) | _ => False)
  | .map m => (match tk P t with
    | .mp _ _ => (match H[m]? with | some (.mp es) => K (.v (.int .i64 es.length)) | _ => False)
    | _ => False)
  | .nilm => (match tk P t with | .mp _ _ => K (.v (.int .i64 0)) | _ => False)
  | _ => False
theorem EntRel.length {M : Mem} {μ : Mu} : ∀ {ds : List (D × D × Nat)} {es : List MapEntry}, EntRel M μ ds es → es.length = ds.length
  | [], _, r => by simp [EntRel] at r; simp [r]
  | d :: ds, _, ⟨e, es, h1, _, _, _, h4⟩ => by subst h1; simp [h4.length]
theorem aLen_sound {E : Env} {M : Mem} {μ : Mu} {H : List Ob} {w : World} (h : R E M μ H w) {t ty : TypeId} {d : D} {y : Value} (hy : Rel M μ d y) {K : D → Prop} (k : aLen E.P t d H K) :
    ∃ v d', (Builtin.len_ #[t] ty #[y]).run E.P w = .ok v w ∧ Rel M μ d' v ∧ K d' := by
  unfold aLen at k
  split at k
  · rename_i s
    obtain ⟨ht, k⟩ := k
    simp only [Rel, RelV] at hy; subst hy
    refine ⟨goInt s.length, _, ?_, by simp only [Rel, RelV]; rfl, k⟩
    have hsz : (⟨s.toArray⟩ : ByteArray).size = s.length := by simp [ByteArray.size]
    simp [Builtin.len_, run_underlying (tk_str ht), hsz]
  · rename_i sz xs
    cases ht : tk E.P t <;> simp only [ht] at k
    case sl e esz bytes =>
      obtain ⟨j, hu, hj, hsz, hby⟩ := tk_sl ht
      simp only [Rel, RelV] at hy
      obtain ⟨A, c, rfl, _⟩ := hy
      exact ⟨goInt xs.length, _, by simp [Builtin.len_, run_underlying hu], by simp only [Rel, RelV]; rfl, k⟩
    all_goals exact k.elim
  · cases ht : tk E.P t <;> simp only [ht] at k
    case sl e esz bytes =>
      obtain ⟨j, hu, hj, hsz, hby⟩ := tk_sl ht
      simp only [Rel] at hy; subst hy
      exact ⟨goInt 0, _, by simp [Builtin.len_, run_underlying hu], by simp only [Rel, RelV]; rfl, k⟩
    all_goals exact k.elim
  · rename_i b ver len
    cases ht : tk E.P t <;> simp only [ht] at k
    case sl e esz bytes =>
      obtain ⟨j, hu, hj, hsz, hby⟩ := tk_sl ht
      obtain ⟨hv, k⟩ := k
      simp only [Rel] at hy
      obtain ⟨_, p, hp, hle, hv1, hy⟩ := hy
      obtain ⟨_, rfl⟩ := hy (vOk_ver h hv hp)
      exact ⟨goInt len, _, by simp [Builtin.len_, run_underlying hu], by simp only [Rel, RelV]; rfl, k⟩
    all_goals exact k.elim
  · rename_i b ver _ _ len _
    cases ht : tk E.P t <;> simp only [ht] at k
    case sl e esz bytes =>
      obtain ⟨j, hu, hj, hsz, hby⟩ := tk_sl ht
      obtain ⟨hv, k⟩ := k
      simp only [Rel] at hy
      obtain ⟨_, p, hp, hle, hv1, hy⟩ := hy
      obtain ⟨_, _, A, rfl, _⟩ := hy (vOk_ver h hv hp)
      exact ⟨goInt len, _, by simp [Builtin.len_, run_underlying hu], by simp only [Rel, RelV]; rfl, k⟩
    all_goals exact k.elim
  · rename_i m
    cases ht : tk E.P t <;> simp only [ht] at k
    case mp kt et =>
      simp only [Rel] at hy
      obtain ⟨p, hp, _, rfl⟩ := hy
      cases ho : H[m]? with
      | none => simp [ho] at k
      | some ob =>
        cases ob <;> simp only [ho] at k
        case mp es =>
          obtain ⟨_, _, _, ents, c, hb, hr, _⟩ := h.obj m _ p ho hp
          have hl := hr.length
          refine ⟨goInt es.length, _, ?_, by simp only [Rel, RelV]; rfl, k⟩
          have hg : (getObj p.blk).run E.P w = .ok (.map ents c) w := by simp [getObj, Sem.run, hb]
          have hs : ents.size = es.length := by simpa using hl
          simp [Builtin.len_, run_underlying (tk_mp ht), hg, hs]
        all_goals exact k.elim
    all_goals exact k.elim
  · cases ht : tk E.P t <;> simp only [ht] at k
    case mp kt et =>
      simp only [Rel] at hy; subst hy
      exact ⟨goInt 0, _, by simp [Builtin.len_, run_underlying (tk_mp ht)], by simp only [Rel, RelV]; rfl, k⟩
    all_goals exact k.elim
  · exact k.elim

/-! ### max, min of two numbers; conversions -/
def aMax (x y : D) (K : D → Prop) : Prop :=
  match x, y with
  | .v (.int k a), .v (.int _ b) => K (.v (.int k (if b > a then b else a)))
  | _, _ => False
theorem aMax_sound {P : Program} {M : Mem} {μ : Mu} {w : World} {ts : Array TypeId} {ty : TypeId} {x y : D} {a b : Value} (hx : Rel M μ x a) (hy : Rel M μ y b) {K : D → Prop} (k : aMax x y K) :
    ∃ v d', (Builtin.max_ ts ty #[a, b]).run P w = .ok v w ∧ Rel M μ d' v ∧ K d' := by
  unfold aMax at k
  split at k
  · simp only [Rel, RelV] at hx hy; subst hx; subst hy
    exact ⟨_, _, by simp only [Builtin.max_, List.foldlM, Builtin.max2]; rfl, by simp only [Rel, RelV], k⟩
  · exact k.elim
def aMin (x y : D) (K : D → Prop) : Prop :=
  match x, y with
  | .v (.int k a), .v (.int _ b) => K (.v (.int k (if b < a then b else a)))
  | _, _ => False
theorem aMin_sound {P : Program} {M : Mem} {μ : Mu} {w : World} {ts : Array TypeId} {ty : TypeId} {x y : D} {a b : Value} (hx : Rel M μ x a) (hy : Rel M μ y b) {K : D → Prop} (k : aMin x y K) :
    ∃ v d', (Builtin.min_ ts ty #[a, b]).run P w = .ok v w ∧ Rel M μ d' v ∧ K d' := by
  unfold aMin at k
  split at k
  · simp only [Rel, RelV] at hx hy; subst hx; subst hy
    exact ⟨_, _, by simp only [Builtin.min_, List.foldlM, Builtin.min2]; rfl, by simp only [Rel, RelV], k⟩
  · exact k.elim

/-- A row of bytes, as they are. -/
def bytesOfV : List (List V) → Option (List UInt8)
  | [] => some []
  | [.int .u8 n] :: xs => (bytesOfV xs).map (UInt8.ofNat n.toNat :: ·)
  | _ => none
def aConv (P : Program) (s t : TypeId) (x : D) (K : D → Prop) : Prop :=
  match tk P s, tk P t, x with
  | .it _, .it k, .v (.int _ n) => K (.v (.int k (k.wrap n)))
  | .str, .str, .v (.str l) => K (.v (.str l))
  | .it _, .str, .v (.int _ n) => K (.v (.str (Utf8.encode n).data.toList))
  | .sl e _ _, .str, .v (.list sz xs) => tk P e = .it .u8 ∧ sz = 1 ∧ (match bytesOfV xs with
    | some l => K (.v (.str l))
    | none => False)
  | _, _, _ => False
theorem bytesOfV_get : ∀ {xs : List (List V)} {l : List UInt8}, bytesOfV xs = some l → ∃ ns : List Int, xs = ns.map (fun n => [.int .u8 n]) ∧ l = ns.map fun n => UInt8.ofNat n.toNat
  | [], l, h => by simp [bytesOfV] at h; subst h; exact ⟨[], rfl, rfl⟩
  | [.int .u8 n] :: xs, l, h => by
    simp only [bytesOfV] at h
    cases hx : bytesOfV xs with
    | none => rw [hx] at h; simp at h
    | some l2 =>
      rw [hx] at h
      simp at h
      obtain ⟨ns, rfl, rfl⟩ := bytesOfV_get hx
      exact ⟨n :: ns, rfl, h.symm⟩
theorem foldl_push : ∀ (ns : List Int) (s : ByteArray), (ns.foldl (fun r n => r.push (UInt8.ofNat n.toNat)) s) = ⟨s.data ++ (ns.map fun n => UInt8.ofNat n.toNat).toArray⟩
  | [], s => by simp
  | n :: ns, s => by
    rw [List.foldl_cons, foldl_push ns]
    apply ByteArray.ext
    simp [ByteArray.push]
theorem aConv_sound {E : Env} {P : Program} (hP : E.P = P) {M : Mem} {μ : Mu} {H : List Ob} {w : World} (h : R E M μ H w) {s t : TypeId} {x : D} {a : Value} (hx : Rel M μ x a) {K : D → Prop} (k : aConv P s t x K) :
    ∃ v d', (convert s t a).run P w = .ok v w ∧ Rel M μ d' v ∧ K d' := by
  unfold aConv at k
  split at k
  · rename_i k1 k2 k3 n h1 h2
    simp only [Rel, RelV] at hx; subst hx
    refine ⟨.int k2 (k2.wrap n), _, ?_, by simp only [Rel, RelV], k⟩
    simp [convert, run_underlying (tk_it h1), run_underlying (tk_it h2), Conv.intToInt]
  · rename_i l h1 h2
    simp only [Rel, RelV] at hx; subst hx
    refine ⟨_, _, ?_, by simp only [Rel, RelV]; rfl, k⟩
    simp [convert, run_underlying (tk_str h1), run_underlying (tk_str h2)]
  · rename_i k1 k3 n h1 h2
    simp only [Rel, RelV] at hx; subst hx
    refine ⟨.string (Utf8.encode n), _, ?_, by simp only [Rel, RelV], k⟩
    simp [convert, run_underlying (tk_it h1), run_underlying (tk_str h2), Conv.intToString]
  · rename_i e esz bb sz xs h1 h2
    obtain ⟨h3, rfl, k⟩ := k
    split at k
    · rename_i l hl
      obtain ⟨ns, rfl, rfl⟩ := bytesOfV_get hl
      obtain ⟨j, hu, _⟩ := tk_sl h1
      simp only [Rel, RelV] at hx
      obtain ⟨A, c, rfl, hc, hr⟩ := hx
      refine ⟨.string ⟨(ns.map fun n => UInt8.ofNat n.toNat).toArray⟩, _, ?_, by simp only [Rel, RelV], k⟩
      have hconv : (convert s t (.slice A (ns.map fun n => [V.int .u8 n]).length c)).run P w = (Conv.bytesToString (.slice A (ns.map fun n => [V.int .u8 n]).length c)).run P w := by
        simp [convert, run_underlying hu, run_underlying (tk_str h2), run_underlying (tk_it h3)]
      rw [hconv]
      rcases hr with hr | ⟨b, o, rfl, hr⟩
      · have : ns = [] := by simpa using hr
        subst this
        cases A with
        | none => rfl
        | some A =>
          exact run_bytesToString (P := P) w A 0 c [] (by rfl)
      · have := run_bytesToString (P := P) w ⟨b, o, none⟩ (ns.map fun n => [V.int .u8 n]).length c ns (by
          have := run_loadCells_list (P := P) (w := w) ⟨b, o, none⟩ (ns.map (Value.int .u8)) (fun j v hv => by
            rw [List.getElem?_map] at hv
            cases hn : ns[j]? with
            | none => rw [hn] at hv; cases hv
            | some n =>
              rw [hn] at hv; cases hv
              obtain ⟨_, g⟩ := hr.get j [.int .u8 n] (by rw [List.getElem?_map, hn]; rfl)
              obtain ⟨y, g1, g2⟩ := g.get 0 (.int .u8 n) rfl
              simp only [RelV] at g2; subst g2
              have g3 := h.imm _ _ _ g1
              rw [Nat.mul_one, Nat.add_zero] at g3
              rw [Go.WideShapes.add_plain]; exact g3)
          simpa using this)
        rw [this, foldl_push]
        simp
    · exact k.elim
  · exact k.elim

/-! ### make -/
def aMakeSlice (P : Program) (t : TypeId) (l c : D) (H : List Ob) (K : D → List Ob → Prop) : Prop :=
  match l, c with
  | .v (.int _ l), .v (.int _ c) => (match tk P t with
    | .sl e esz bytes => (match zerosB P e with
      | some z => z.length = esz ∧ 0 ≤ l ∧ l ≤ c ∧ (bytes : Int) * c ≤ 281474976710656 ∧ c ≤ 9223372036854775807 ∧ K (.own H.length 1 l.toNat) (H ++ [.arr 1 esz (List.replicate l.toNat z) 0])
      | none => False)
    | _ => False)
  | _, _ => False
theorem aMakeSlice_sound {E : Env} {M : Mem} {μ : Mu} {H : List Ob} {w : World} (h : R E M μ H w) {t : TypeId} {l c : D} {lv cv : Value} (hl : Rel M μ l lv) (hc : Rel M μ c cv) {K : D → List Ob → Prop} (k : aMakeSlice E.P t l c H K) :
    Ok E M μ (Instr.makeSlice t lv cv) w K := by
  unfold aMakeSlice at k
  split at k
  · rename_i lk l ck c
    cases ht : tk E.P t <;> simp only [ht] at k
    case sl e esz bytes =>
      obtain ⟨i, hu, hi, hsz, hby⟩ := tk_sl ht
      cases hz : zerosB E.P e with
      | none => simp [hz] at k
      | some z =>
        simp only [hz] at k
        obtain ⟨hzl, h0, hlc, hb, h63, k⟩ := k
        obtain ⟨zv, _, rfl, i', hi', hiz⟩ := zerosB_spec hz
        rw [hi] at hi'; cases hi'
        simp only [Rel, RelV] at hl hc
        subst hl; subst hc
        have hrun := run_make (P := E.P) w t e i zv hu hi hiz lk ck l c h0 hlc (by rw [hby]; exact hb) h63
        have hzs : zv.cells.size = esz := by simpa using hzl
        have hmc : (madeCells zv.cells (c.toNat * i.size)) = ((List.replicate c.toNat zv.cells.toList).flatten).toArray := by
          have := zeros_range zv.cells.toList c.toNat
          simp only [Array.length_toList, Array.toArray_toList, hzs] at this
          unfold madeCells
          apply Array.toList_inj.1
          rw [List.toList_toArray, hsz, ← this, hzs]
        rw [hmc] at hrun
        have hlen : ((List.replicate c.toNat zv.cells.toList).flatten).length = c.toNat * esz := by simp [hzs]
        have hle : l.toNat ≤ c.toNat := by omega
        obtain ⟨μ', g1, g2, g3⟩ := h.newArr (xs := List.replicate l.toNat (zv.cells.toList.map ofC)) (cap := c.toNat) (sz := esz) (fun x hx => by rw [List.eq_of_mem_replicate hx]; exact hzl) hlen (by simpa using hle)
          (by
            rw [List.length_replicate]
            have e1 : (List.replicate c.toNat zv.cells.toList).flatten = (List.replicate l.toNat zv.cells.toList).flatten ++ (List.replicate (c.toNat - l.toNat) zv.cells.toList).flatten := by
              rw [← List.flatten_append, List.replicate_append_replicate]; congr 2; omega
            rw [e1, List.take_left' (by simp [hzs])]
            exact relL_zeros M μ _ _) e
        exact ⟨_, _, _, M, μ', _, hrun, .refl _, g1, g2, g3 _ hle, k⟩
    all_goals exact k.elim
  · exact k.elim

def aMakeMap (P : Program) (t : TypeId) (r : Option D) (H : List Ob) (K : D → List Ob → Prop) : Prop :=
  match r with
  | none => K (.map H.length) (H ++ [.mp []])
  | some (.v (.int _ _)) => (match tk P t with | .mp _ _ => K (.map H.length) (H ++ [.mp []]) | _ => False)
  | _ => False
theorem aMakeMap_sound {E : Env} {M : Mem} {μ : Mu} {H : List Ob} {w : World} (h : R E M μ H w) {t : TypeId} {r : Option D} {rv : Option Value} (hr : bndV M μ r rv) {K : D → List Ob → Prop} (k : aMakeMap E.P t r H K) :
    Ok E M μ (Instr.makeMap t rv) w K := by
  have made : ∀ s : Sem Value, s.run E.P w = .ok (.map (some w.heap.size)) (w.alloc (.map #[] 0)) → K (.map H.length) (H ++ [.mp []]) → Ok E M μ s w K := fun s hs k => by
    refine ⟨_, _, _, M, upd μ H.length ⟨w.heap.size, 0, 0⟩, _, hs, .refl _, Mu.le_upd_new h.mu_new, ?_, ?_, k⟩
    · refine h.push rfl ⟨h.below.size, rfl, fun o => h.imm_new o, #[], 0, heap_alloc_new w _, by simp [EntRel], by simp, by simp⟩
    · simp only [Rel]; exact ⟨_, upd_self _ _ _, rfl, rfl⟩
  unfold aMakeMap at k
  split at k
  · cases rv with
    | some v => exact hr.elim
    | none => exact made _ (by simp [Instr.makeMap]) k
  · rename_i kk n
    cases rv with
    | none => exact hr.elim
    | some v =>
      simp only [bndV, Rel, RelV] at hr
      subst hr
      cases ht : tk E.P t <;> simp only [ht] at k
      case mp kt et => exact made _ (by simp [Instr.makeMap, run_underlying (tk_mp ht), asInt, asIntOf]) k
      all_goals exact k.elim
  · exact k.elim

end Go.Ag
/- AGo, part 31: maps. -/
namespace Go.Ag
open Go Go.RowKit

/-! ### keys -/
mutual
/-- A key's value. -/
def kval : D → Option Value
  | .v (.str s) => some (.string ⟨s.toArray⟩)
  | .v (.int k n) => some (.int k n)
  | .v (.bool b) => some (.bool b)
  | .agg cs => (kvalL cs).map fun vs => .agg vs.toArray
  | _ => none
def kvalL : List D → Option (List Value)
  | [] => some []
  | d :: ds => match kval d, kvalL ds with
    | some v, some vs => some (v :: vs)
    | _, _ => none
end
mutual
theorem kval_rel {M : Mem} {μ : Mu} : ∀ {d : D} {v y : Value}, kval d = some v → Rel M μ d y → y = v
  | .v (.str s), v, y, h, r => by simp only [kval, Option.some.injEq] at h; subst h; simpa only [Rel, RelV] using r
  | .v (.int k n), v, y, h, r => by simp only [kval, Option.some.injEq] at h; subst h; simpa only [Rel, RelV] using r
  | .v (.bool b), v, y, h, r => by simp only [kval, Option.some.injEq] at h; subst h; simpa only [Rel, RelV] using r
  | .v (.list _ _), v, y, h, r => by simp [kval] at h
  | .agg cs, v, y, h, r => by
    simp only [kval] at h
    cases hc : kvalL cs with
    | none => simp [hc] at h
    | some vs =>
      simp only [hc, Option.map_some, Option.some.injEq] at h
      subst h
      simp only [Rel] at r
      obtain ⟨ws, rfl, r⟩ := r
      rw [kvalL_rel hc r]
  | .own _ _ _, v, y, h, r => by simp [kval] at h
  | .tup _, v, y, h, r => by simp [kval] at h
  | .fn _ _, v, y, h, r => by simp [kval] at h
  | .nils, v, y, h, r => by simp [kval] at h
  | .ptr _ _, v, y, h, r => by simp [kval] at h
  | .eptr _ _ _ _ _, v, y, h, r => by simp [kval] at h
  | .rptr _, v, y, h, r => by simp [kval] at h
  | .nilp, v, y, h, r => by simp [kval] at h
  | .map _, v, y, h, r => by simp [kval] at h
  | .nilm, v, y, h, r => by simp [kval] at h
  | .nilf, v, y, h, r => by simp [kval] at h
  | .sub _ _ _ _ _ _, v, y, h, r => by simp [kval] at h
  | .any, v, y, h, r => by simp [kval] at h
theorem kvalL_rel {M : Mem} {μ : Mu} : ∀ {ds : List D} {vs ys : List Value}, kvalL ds = some vs → RelL M μ ds ys → ys = vs
  | [], vs, ys, h, r => by simp only [kvalL, Option.some.injEq] at h; subst h; simpa only [RelL] using r
  | d :: ds, vs, ys, h, r => by
    simp only [kvalL] at h
    cases h1 : kval d with
    | none => simp [h1] at h
    | some v =>
      cases h2 : kvalL ds with
      | none => simp [h1, h2] at h
      | some ws =>
        simp only [h1, h2, Option.some.injEq] at h
        subst h
        simp only [RelL] at r
        obtain ⟨y, ys', rfl, r1, r2⟩ := r
        rw [kval_rel h1 r1, kvalL_rel h2 r2]
end
mutual
theorem kval_inj : ∀ {d e : D} {v : Value}, kval d = some v → kval e = some v → d = e
  | .v (.str s), .v (.str t), v, h, k => by
    simp only [kval, Option.some.injEq] at h k; subst h
    have : t.toArray = s.toArray := by simpa using k
    rw [show t = s by simpa using congrArg Array.toList this]
  | .v (.int a n), .v (.int b m), v, h, k => by simp only [kval, Option.some.injEq] at h k; subst h; simp only [Value.int.injEq] at k; rw [k.1, k.2]
  | .v (.bool a), .v (.bool b), v, h, k => by simp only [kval, Option.some.injEq] at h k; subst h; simp only [Value.bool.injEq] at k; rw [k]
  | .agg cs, .agg ds, v, h, k => by
    simp only [kval] at h k
    cases hc : kvalL cs with
    | none => simp [hc] at h
    | some vs =>
      cases hd : kvalL ds with
      | none => simp [hd] at k
      | some ws =>
        simp only [hc, hd, Option.map_some, Option.some.injEq] at h k
        subst h
        simp only [Value.agg.injEq] at k
        have : ws = vs := by simpa using congrArg Array.toList k
        subst this
        rw [kvalL_inj hc hd]
  | .v (.str s), .v (.int _ _), v, h, k => by simp only [kval, Option.some.injEq] at h k; subst h; cases k
  | .v (.str s), .v (.bool _), v, h, k => by simp only [kval, Option.some.injEq] at h k; subst h; cases k
  | .v (.str s), .agg ds, v, h, k => by
    simp only [kval, Option.some.injEq, Option.map_eq_some_iff] at h k; subst h
    obtain ⟨_, _, k⟩ := k; cases k
  | .v (.int _ _), .v (.str _), v, h, k => by simp only [kval, Option.some.injEq] at h k; subst h; cases k
  | .v (.int _ _), .v (.bool _), v, h, k => by simp only [kval, Option.some.injEq] at h k; subst h; cases k
  | .v (.int _ _), .agg ds, v, h, k => by
    simp only [kval, Option.some.injEq, Option.map_eq_some_iff] at h k; subst h
    obtain ⟨_, _, k⟩ := k; cases k
  | .v (.bool _), .v (.str _), v, h, k => by simp only [kval, Option.some.injEq] at h k; subst h; cases k
  | .v (.bool _), .v (.int _ _), v, h, k => by simp only [kval, Option.some.injEq] at h k; subst h; cases k
  | .v (.bool _), .agg ds, v, h, k => by
    simp only [kval, Option.some.injEq, Option.map_eq_some_iff] at h k; subst h
    obtain ⟨_, _, k⟩ := k; cases k
  | .agg cs, .v (.str _), v, h, k => by
    simp only [kval, Option.some.injEq, Option.map_eq_some_iff] at h k; subst k
    obtain ⟨_, _, h⟩ := h; cases h
  | .agg cs, .v (.int _ _), v, h, k => by
    simp only [kval, Option.some.injEq, Option.map_eq_some_iff] at h k; subst k
    obtain ⟨_, _, h⟩ := h; cases h
  | .agg cs, .v (.bool _), v, h, k => by
    simp only [kval, Option.some.injEq, Option.map_eq_some_iff] at h k; subst k
    obtain ⟨_, _, h⟩ := h; cases h
  | .v (.list _ _), e, v, h, k => by simp [kval] at h
  | .own _ _ _, e, v, h, k => by simp [kval] at h
  | .tup _, e, v, h, k => by simp [kval] at h
  | .fn _ _, e, v, h, k => by simp [kval] at h
  | .nils, e, v, h, k => by simp [kval] at h
  | .ptr _ _, e, v, h, k => by simp [kval] at h
  | .eptr _ _ _ _ _, e, v, h, k => by simp [kval] at h
  | .rptr _, e, v, h, k => by simp [kval] at h
  | .nilp, e, v, h, k => by simp [kval] at h
  | .map _, e, v, h, k => by simp [kval] at h
  | .nilm, e, v, h, k => by simp [kval] at h
  | .nilf, e, v, h, k => by simp [kval] at h
  | .sub _ _ _ _ _ _, e, v, h, k => by simp [kval] at h
  | .any, e, v, h, k => by simp [kval] at h
  | .v (.str _), .v (.list _ _), v, h, k | .v (.int _ _), .v (.list _ _), v, h, k | .v (.bool _), .v (.list _ _), v, h, k | .agg _, .v (.list _ _), v, h, k => by simp [kval] at k
  | d, .own _ _ _, v, h, k | d, .tup _, v, h, k | d, .fn _ _, v, h, k | d, .nils, v, h, k | d, .ptr _ _, v, h, k | d, .eptr _ _ _ _ _, v, h, k | d, .rptr _, v, h, k | d, .nilp, v, h, k | d, .map _, v, h, k | d, .nilm, v, h, k | d, .nilf, v, h, k | d, .sub _ _ _ _ _ _, v, h, k | d, .any, v, h, k => by simp [kval] at k
theorem kvalL_inj : ∀ {ds es : List D} {vs : List Value}, kvalL ds = some vs → kvalL es = some vs → ds = es
  | [], [], _, _, _ => rfl
  | d :: ds, e :: es, vs, h, k => by
    simp only [kvalL] at h k
    cases h1 : kval d with
    | none => simp [h1] at h
    | some v =>
      cases h2 : kvalL ds with
      | none => simp [h1, h2] at h
      | some ws =>
        cases k1 : kval e with
        | none => simp [k1] at k
        | some v' =>
          cases k2 : kvalL es with
          | none => simp [k1, k2] at k
          | some ws' =>
            simp only [h1, h2, k1, k2, Option.some.injEq] at h k
            subst h
            simp only [List.cons.injEq] at k
            obtain ⟨rfl, rfl⟩ := k
            rw [kval_inj h1 k1, kvalL_inj h2 k2]
  | [], e :: es, vs, h, k => by
    simp only [kvalL, Option.some.injEq] at h; subst h
    simp only [kvalL] at k
    split at k <;> simp at k
  | d :: ds, [], vs, h, k => by
    simp only [kvalL, Option.some.injEq] at k; subst k
    simp only [kvalL] at h
    split at h <;> simp at h
end

/-- A key that may be. -/
def KeyD (P : Program) (kt : TypeId) (d : D) : Prop := ∃ v l, kval d = some v ∧ keyOf P kt v = some l
theorem KeyD.rel {P : Program} {kt : TypeId} {d : D} {M : Mem} {μ : Mu} {y : Value} (h : KeyD P kt d) (r : Rel M μ d y) : (∃ l, keyOf P kt y = some l) ∧ kval d = some y := by
  obtain ⟨v, l, h1, h2⟩ := h
  obtain rfl := kval_rel h1 r
  exact ⟨⟨l, h2⟩, h1⟩

/-- A type's zero, as data. -/
def zD : Value → D
  | .agg cs => .agg (cs.toList.map ofC)
  | v => ofC v
theorem zD_rel (M : Mem) (μ : Mu) (v : Value) : Rel M μ (zD v) v := by
  have one : Rel M μ (ofC v) v := by
    have := relL_ofC M μ [v]
    simp only [List.map_cons, List.map_nil, RelL] at this
    obtain ⟨y, ys, e, h, _⟩ := this
    cases e; exact h
  cases v with
  | agg cs =>
    simp only [zD, Rel]
    exact ⟨cs.toList, rfl, relL_ofC M μ _⟩
  | _ => exact one
def zeroD (P : Program) (t : TypeId) : Option D := ((P.info? t).bind (·.zero)).map zD
theorem zeroD_spec {P : Program} {t : TypeId} {d : D} (h : zeroD P t = some d) : ∃ z, (∀ w, (zeroValue t).run P w = .ok z w) ∧ d = zD z := by
  unfold zeroD at h
  cases hi : P.info? t with
  | none => simp [hi] at h
  | some i =>
    cases hz : i.zero with
    | none => simp [hi, hz] at h
    | some z =>
      simp only [hi, hz, Option.bind_some, Option.map_some, Option.some.injEq] at h
      exact ⟨z, fun w => by simp [zeroValue, typeInfo, hi, hz], h.symm⟩

theorem EntRel.get {M : Mem} {μ : Mu} : ∀ {ds : List (D × D × Nat)} {es : List MapEntry}, EntRel M μ ds es → ds.length = es.length ∧ ∀ (i : Nat) (e : MapEntry), es[i]? = some e → ∃ d, ds[i]? = some d ∧ Rel M μ d.1 e.key ∧ Rel M μ d.2.1 e.val ∧ e.born = d.2.2
  | [], _, r => by simp only [EntRel] at r; subst r; exact ⟨rfl, fun i e h => by simp at h⟩
  | d :: ds, _, ⟨e, es, rfl, h1, h2, h3, h4⟩ => by
    obtain ⟨g1, g2⟩ := h4.get
    refine ⟨by simp [g1], fun i x hx => ?_⟩
    cases i with
    | zero => simp at hx; subst hx; exact ⟨d, rfl, h1, h2, h3⟩
    | succ i => simp at hx; obtain ⟨a, b, c⟩ := g2 i x hx; exact ⟨a, by simpa using b, c⟩
theorem EntRel.of_get {M : Mem} {μ : Mu} : ∀ {ds : List (D × D × Nat)} {es : List MapEntry}, ds.length = es.length → (∀ (i : Nat) (e : MapEntry) (d : D × D × Nat), es[i]? = some e → ds[i]? = some d → Rel M μ d.1 e.key ∧ Rel M μ d.2.1 e.val ∧ e.born = d.2.2) → EntRel M μ ds es
  | [], [], _, _ => rfl
  | d :: ds, e :: es, hl, h => by
    obtain ⟨h1, h2, h3⟩ := h 0 e d rfl rfl
    exact ⟨e, es, rfl, h1, h2, h3, EntRel.of_get (by simpa using hl) fun i x y hx hy => h (i + 1) x y (by simpa using hx) (by simpa using hy)⟩
  | [], _ :: _, hl, _ => by simp at hl
  | _ :: _, [], hl, _ => by simp at hl
theorem EntRel.got {M : Mem} {μ : Mu} {ds : List (D × D × Nat)} {es : List MapEntry} (h : EntRel M μ ds es) {i : Nat} {d : D × D × Nat} (hd : ds[i]? = some d) : ∃ e, es[i]? = some e ∧ Rel M μ d.1 e.key ∧ Rel M μ d.2.1 e.val ∧ e.born = d.2.2 := by
  obtain ⟨h1, h2⟩ := h.get
  have hlt : i < es.length := by have := (List.getElem?_eq_some_iff.1 hd).1; omega
  obtain ⟨d', g1, g2⟩ := h2 i _ (List.getElem?_eq_getElem hlt)
  rw [hd] at g1; cases g1
  exact ⟨_, List.getElem?_eq_getElem hlt, g2⟩

/-! ### lookup -/
def aLookup (P : Program) (t : TypeId) (m k : D) (ok : Bool) (H : List Ob) (K : D → Prop) : Prop :=
  match m with
  | .map b => match H[b]?, tk P t with
    | some (.mp es), .mp kt et => Maps.Keyed P kt ∧ KeyD P kt k ∧ (∀ e ∈ es, KeyD P kt e.1) ∧
      ((∃ v, (∃ e ∈ es, e.1 = k) ∧ (∀ e ∈ es, e.1 = k → e.2.1 = v) ∧ K (if ok then .tup [v, .v (.bool true)] else v)) ∨
       ((∀ e ∈ es, e.1 ≠ k) ∧ ∃ z, zeroD P et = some z ∧ K (if ok then .tup [z, .v (.bool false)] else z)))
    | _, _ => False
  | _ => False
theorem aLookup_mono {P : Program} {t : TypeId} {m k : D} {ok : Bool} {H : List Ob} {K K' : D → Prop} (hk : ∀ d, K d → K' d) (h : aLookup P t m k ok H K) : aLookup P t m k ok H K' := by
  unfold aLookup at *
  split at h
  · split at h
    · obtain ⟨h1, h2, h3, h4⟩ := h
      refine ⟨h1, h2, h3, ?_⟩
      rcases h4 with ⟨v, a, b, c⟩ | ⟨a, z, b, c⟩
      · exact .inl ⟨v, a, b, hk _ c⟩
      · exact .inr ⟨a, z, b, hk _ c⟩
    · exact h.elim
  · exact h.elim

theorem tup_ok {M : Mem} {μ : Mu} {ok b : Bool} {d : D} {v : Value} (h : Rel M μ d v) : Rel M μ (if ok then .tup [d, .v (.bool b)] else d) (if ok then .tuple #[v, .bool b] else v) := by
  cases ok with
  | false => exact h
  | true =>
    simp only [if_true, Rel]
    exact ⟨[v, .bool b], rfl, by simp only [RelL, Rel, RelV]; exact ⟨v, [.bool b], rfl, h, .bool b, [], rfl, rfl, rfl⟩⟩

/-- What the model finds. -/
theorem found {E : Env} {M : Mem} {μ : Mu} {es : List (D × D × Nat)} {ents : Array MapEntry} {kt : TypeId} {k : D} {y : Value} (KD : Maps.Keyed E.P kt) (hk : KeyD E.P kt k) (hy : Rel M μ k y) (hes : ∀ e ∈ es, KeyD E.P kt e.1) (hr : EntRel M μ es ents.toList) (w : World) :
    ((Instr.findKey kt y ents.toList).run E.P w = .ok none w ∧ ∀ e ∈ es, e.1 ≠ k) ∨ ∃ j e d, (Instr.findKey kt y ents.toList).run E.P w = .ok (some (j, e.val)) w ∧ ents.toList[j]? = some e ∧ e.key = y ∧ es[j]? = some d ∧ d.1 = k ∧ Rel M μ d.2.1 e.val ∧ e.born = d.2.2 := by
  obtain ⟨⟨l, hl⟩, hkv⟩ := hk.rel hy
  have hks : ∀ e ∈ ents.toList, ∃ l, keyOf E.P kt e.key = some l := fun e he => by
    obtain ⟨i, hi⟩ := List.mem_iff_getElem?.1 he
    obtain ⟨d, h1, h2, _⟩ := hr.get.2 i e hi
    exact ((hes d (List.mem_of_getElem? h1)).rel h2).1
  rcases KD.find w hl ents.toList hks with ⟨h1, h2⟩ | ⟨j, e, h1, h2, h3⟩
  · refine .inl ⟨h1, fun d hd e => ?_⟩
    obtain ⟨i, hi⟩ := List.mem_iff_getElem?.1 hd
    obtain ⟨x, g1, g2, _⟩ := hr.got hi
    refine h2 x (List.mem_of_getElem? g1) ?_
    rw [e] at g2
    exact kval_rel hkv g2
  · obtain ⟨d, g1, g2, g3, g4⟩ := hr.get.2 j e h2
    have hdk := ((hes d (List.mem_of_getElem? g1)).rel g2).2
    rw [h3] at hdk
    exact .inr ⟨j, e, d, h1, h2, h3, g1, kval_inj hdk hkv, g3, g4⟩

theorem aLookup_sound {E : Env} {M : Mem} {μ : Mu} {H : List Ob} {w : World} (h : R E M μ H w) {t : TypeId} {m k : D} {ok : Bool} {x y : Value} (hm : Rel M μ m x) (hy : Rel M μ k y) {K : D → Prop} (kk : aLookup E.P t m k ok H K) :
    ∃ v d', (Instr.lookup t x y ok).run E.P w = .ok v w ∧ Rel M μ d' v ∧ K d' := by
  unfold aLookup at kk
  split at kk
  · rename_i b
    simp only [Rel] at hm
    obtain ⟨p, hp, hv, rfl⟩ := hm
    split at kk
    · rename_i es kt et hH ht
      obtain ⟨KD, hk, hes, hh⟩ := kk
      obtain ⟨_, _, _, ents, clock, hb, hr, _⟩ := h.obj b _ p hH hp
      obtain ⟨⟨l, hl⟩, _⟩ := hk.rel hy
      have hu := tk_mp ht
      have e1 : (getObj p.blk).run E.P w = .ok (.map ents clock) w := MapKept.run_getObj_map hb
      have e2 := fun em => KD.check w em hl
      rcases found KD hk hy hes hr w with ⟨f1, f2⟩ | ⟨j, e, d, f1, f2, f3, f4, f5, f6, f7⟩
      · rcases hh with ⟨v, ⟨e, he, hek⟩, _⟩ | ⟨_, z, hz, hK⟩
        · exact absurd hek (f2 e he)
        · obtain ⟨zv, z1, rfl⟩ := zeroD_spec hz
          refine ⟨if ok then .tuple #[zv, .bool false] else zv, _, ?_, tup_ok (zD_rel M μ zv), hK⟩
          simp only [Instr.lookup, Sem.run_bind, run_underlying hu, Result.andThen, e1, Sem.run_pure, e2, f1, z1]
      · rcases hh with ⟨v, _, huq, hK⟩ | ⟨hno, _⟩
        · have := huq d (List.mem_of_getElem? f4) f5
          refine ⟨if ok then .tuple #[e.val, .bool true] else e.val, _, ?_, tup_ok (by rw [← this]; exact f6), hK⟩
          simp only [Instr.lookup, Sem.run_bind, run_underlying hu, Result.andThen, e1, Sem.run_pure, e2, f1]
        · exact absurd f5 (hno d (List.mem_of_getElem? f4))
    · exact kk.elim
  · exact kk.elim

/-! ### an entry -/
def aMapEntry (P : Program) (t : TypeId) (m k : D) (H : List Ob) (K : D → List Ob → Prop) : Prop :=
  match m with
  | .map b => match H[b]?, tk P t with
    | some (.mp es), .mp kt et => Maps.Keyed P kt ∧ KeyD P kt k ∧ (∀ e ∈ es, KeyD P kt e.1) ∧
      ((∃ v n, (∃ e ∈ es, e.1 = k) ∧ (∀ e ∈ es, e.1 = k → e = (k, v, n)) ∧ K (.tup [v, .v (.int .i64 n)]) H) ∨
       ((∀ e ∈ es, e.1 ≠ k) ∧ ∃ z, zeroD P et = some z ∧ ∀ n : Nat, (∀ e ∈ es, e.2.2 < n) → K (.tup [z, .v (.int .i64 n)]) (H.set b (.mp (es ++ [(k, z, n)])))))
    | _, _ => False
  | _ => False
theorem aMapEntry_mono {P : Program} {t : TypeId} {m k : D} {H : List Ob} {K K' : D → List Ob → Prop} (hk : ∀ d H, K d H → K' d H) (h : aMapEntry P t m k H K) : aMapEntry P t m k H K' := by
  unfold aMapEntry at *
  split at h
  · split at h
    · obtain ⟨h1, h2, h3, h4⟩ := h
      refine ⟨h1, h2, h3, ?_⟩
      rcases h4 with ⟨v, n, a, b, c⟩ | ⟨a, z, b, c⟩
      · exact .inl ⟨v, n, a, b, hk _ _ c⟩
      · exact .inr ⟨a, z, b, fun n hn => hk _ _ (c n hn)⟩
    · exact h.elim
  · exact h.elim
theorem tup_stamp {M : Mem} {μ : Mu} {d : D} {v : Value} {n : Nat} (h : Rel M μ d v) : Rel M μ (.tup [d, .v (.int .i64 n)]) (.tuple #[v, goInt n]) := by
  simp only [Rel]
  exact ⟨[v, goInt n], rfl, by simp only [RelL, Rel, RelV]; exact ⟨v, [goInt n], rfl, h, goInt n, [], rfl, rfl, rfl⟩⟩
theorem aMapEntry_sound {E : Env} {M : Mem} {μ : Mu} {H : List Ob} {w : World} (h : R E M μ H w) {t : TypeId} {m k : D} {x y : Value} (hm : Rel M μ m x) (hy : Rel M μ k y) {K : D → List Ob → Prop} (kk : aMapEntry E.P t m k H K) :
    Ok E M μ (Instr.mapEntry t x y) w K := by
  unfold aMapEntry at kk
  split at kk
  · rename_i b
    simp only [Rel] at hm
    obtain ⟨p, hp, hv, rfl⟩ := hm
    split at kk
    · rename_i es kt et hH ht
      obtain ⟨KD, hk, hes, hh⟩ := kk
      obtain ⟨o1, o2, o3, ents, clock, hb, hr, hlt, hnd⟩ := h.obj b _ p hH hp
      obtain ⟨⟨l, hl⟩, _⟩ := hk.rel hy
      have hu := tk_mp ht
      have e1 : (getObj p.blk).run E.P w = .ok (.map ents clock) w := MapKept.run_getObj_map hb
      have e2 := fun em => KD.check w em hl
      rcases found KD hk hy hes hr w with ⟨f1, f2⟩ | ⟨j, e, d, f1, f2, f3, f4, f5, f6, f7⟩
      · rcases hh with ⟨v, n, ⟨e, he, hek⟩, _⟩ | ⟨_, z, hz, hK⟩
        · exact absurd hek (f2 e he)
        · obtain ⟨zv, z1, rfl⟩ := zeroD_spec hz
          have hclk : ∀ e ∈ es, e.2.2 < clock := fun d hd => by
            obtain ⟨i, hi⟩ := List.mem_iff_getElem?.1 hd
            obtain ⟨x, g1, _, _, g4⟩ := hr.got hi
            rw [← g4]; exact hlt x (List.mem_of_getElem? g1)
          have e3 := fun o => MapKept.run_setObj_map (P := E.P) (w := w) o hb
          obtain ⟨s1, s2⟩ := MapKept.heap_set (o' := .map (ents.push { key := y, val := zv, born := clock }) (clock + 1)) hb
          refine ⟨.tuple #[zv, goInt clock], { w with heap := w.heap.setIfInBounds p.blk (.map (ents.push { key := y, val := zv, born := clock }) (clock + 1)) }, _, M, μ, _, ?_, .refl _, .refl _, ?_, tup_stamp (zD_rel M μ zv), hK clock hclk⟩
          · simp only [Instr.mapEntry, Sem.run_bind, run_underlying hu, Result.andThen, e1, e2, f1, z1, e3, Sem.run_pure]
          · refine h.setOb hH (by simp) hp rfl rfl rfl (by simp) (fun q hq => s2 q hq) (fun o y hy => by rw [o3 o] at hy; cases hy) ?_
            refine ⟨o1, o2, o3, _, _, s1, ?_, ?_, ?_⟩
            · rw [Array.toList_push]
              refine EntRel.of_get (by simp [hr.get.1]) fun i e d he hd => ?_
              by_cases hi : i < ents.toList.length
              · rw [List.getElem?_append_left hi] at he
                rw [List.getElem?_append_left (by rw [hr.get.1]; exact hi)] at hd
                obtain ⟨d', g1, g2⟩ := hr.get.2 i e he
                rw [hd] at g1; cases g1; exact g2
              · have hi2 : i = ents.toList.length := by have := (List.getElem?_eq_some_iff.1 he).1; simp at this hi; simp; omega
                subst hi2
                rw [List.getElem?_concat_length] at he
                rw [← hr.get.1, List.getElem?_concat_length] at hd
                cases he; cases hd
                exact ⟨hy, zD_rel M μ zv, rfl⟩
            · intro e he
              rw [Array.toList_push, List.mem_append, List.mem_singleton] at he
              rcases he with he | rfl
              · exact Nat.lt_succ_of_lt (hlt e he)
              · exact Nat.lt_succ_self _
            · rw [Array.toList_push, List.map_append, List.nodup_append]
              refine ⟨hnd, by simp, fun a ha c hc => ?_⟩
              simp only [List.map_cons, List.map_nil, List.mem_singleton] at hc
              subst hc
              obtain ⟨e, he, rfl⟩ := List.mem_map.1 ha
              exact Nat.ne_of_lt (hlt e he)
      · rcases hh with ⟨v, n, _, huq, hK⟩ | ⟨hno, _⟩
        · have hd := huq d (List.mem_of_getElem? f4) f5
          have hst := KD.stays w hl
          have hent : ents[j]? = some e := by simpa using f2
          have hmod : (ents.modify j fun e => { e with key := y }) = ents := by
            apply Array.ext_getElem?
            intro i
            rw [Array.getElem?_modify]
            split
            · rename_i hij; subst hij
              rw [hent]
              simp only [Option.map_some, Option.some.injEq]
              rw [← f3]
            · rfl
          have hw : ({ w with heap := w.heap.setIfInBounds p.blk (.map ents clock) } : World) = w := by
            have : w.heap.setIfInBounds p.blk (.map ents clock) = w.heap := by
              apply Array.ext_getElem?
              intro i
              rw [Array.getElem?_setIfInBounds]
              split
              · rename_i hij; subst hij
                rw [hb]
                have := (Array.getElem?_eq_some_iff.1 hb).1
                simp [this]
              · rfl
            rw [this]
          have e3 := fun o => MapKept.run_setObj_map (P := E.P) (w := w) o hb
          refine ⟨.tuple #[e.val, goInt e.born], w, _, M, μ, H, ?_, .refl _, .refl _, h, ?_, hK⟩
          · simp only [Instr.mapEntry, Sem.run_bind, run_underlying hu, Result.andThen, e1, e2, f1, hent, Option.map_some, Option.getD_some, f3, hst, e3, hmod, hw, Sem.run_pure]
          · rw [hd] at f6 f7
            rw [f7]
            exact tup_stamp f6
        · exact absurd f5 (hno d (List.mem_of_getElem? f4))
    · exact kk.elim
  · exact kk.elim

/-! ### a store into an entry -/
def aEntryStore (m s v : D) (H : List Ob) (K : List Ob → Prop) : Prop :=
  match m, s with
  | .map b, .v (.int .i64 n) => match H[b]? with
    | some (.mp es) => ∃ (j : Nat) (e : D × D × Nat), es[j]? = some e ∧ (e.2.2 : Int) = n ∧ K (H.set b (.mp (es.set j (e.1, v, e.2.2))))
    | _ => False
  | _, _ => False
theorem aEntryStore_mono {m s v : D} {H : List Ob} {K K' : List Ob → Prop} (hk : ∀ H, K H → K' H) (h : aEntryStore m s v H K) : aEntryStore m s v H K' := by
  unfold aEntryStore at *
  split at h
  · split at h
    · obtain ⟨j, e, h1, h2, h3⟩ := h
      exact ⟨j, e, h1, h2, hk _ h3⟩
    · exact h.elim
  · exact h.elim
theorem aEntryStore_sound {E : Env} {M : Mem} {μ : Mu} {H : List Ob} {w : World} (h : R E M μ H w) (t : TypeId) {m s v : D} {x y z : Value} (hm : Rel M μ m x) (hs : Rel M μ s y) (hv : Rel M μ v z) {K : List Ob → Prop} (kk : aEntryStore m s v H K) :
    ∃ w' H', (Instr.entryStore t x y z).run E.P w = .ok () w' ∧ R E M μ H' w' ∧ K H' := by
  unfold aEntryStore at kk
  split at kk
  · rename_i b n
    simp only [Rel] at hm
    obtain ⟨p, hp, hpv, rfl⟩ := hm
    simp only [Rel, RelV] at hs
    subst hs
    split at kk
    · rename_i es hH
      obtain ⟨j, d, hj, hn, hK⟩ := kk
      obtain ⟨o1, o2, o3, ents, clock, hb, hr, hlt, hnd⟩ := h.obj b _ p hH hp
      obtain ⟨e, g1, g2, g3, g4⟩ := hr.got hj
      have hent : ents[j]? = some e := by simpa using g1
      have e1 : (getObj p.blk).run E.P w = .ok (.map ents clock) w := MapKept.run_getObj_map hb
      have hfind : ents.findIdx? (fun e => (e.born : Int) == n) = some j := by
        rw [Array.findIdx?_eq_some_iff_getElem]
        obtain ⟨hjl, hje⟩ := Array.getElem?_eq_some_iff.1 hent
        refine ⟨hjl, ?_, fun i hi => ?_⟩
        · rw [hje, g4]; simpa using hn
        · have hij : ents[i].born ≠ ents[j].born := fun e' => by
            have hil : i < ents.size := by omega
            have := List.pairwise_iff_getElem.1 hnd i j (by simpa using hil) (by simpa using hjl) hi
            simp only [List.getElem_map, Array.getElem_toList] at this
            exact this e'
          rw [hje, g4] at hij
          simp only [Bool.not_eq_true, beq_eq_false_iff_ne]
          intro e'
          exact hij (by omega)
      have e3 := fun o => MapKept.run_setObj_map (P := E.P) (w := w) o hb
      obtain ⟨s1, s2⟩ := MapKept.heap_set (o' := .map (ents.modify j fun e => { e with val := z }) clock) hb
      have hml : (ents.modify j fun e => { e with val := z }).toList = ents.toList.set j { e with val := z } := by
        apply List.ext_getElem?
        intro i
        rw [List.getElem?_set]
        simp only [Array.getElem?_toList, Array.getElem?_modify]
        split
        · rename_i hij; subst hij
          have := (Array.getElem?_eq_some_iff.1 hent).1
          rw [hent]; simp [this]
        · rfl
      refine ⟨{ w with heap := w.heap.setIfInBounds p.blk (.map (ents.modify j fun e => { e with val := z }) clock) }, _, ?_, ?_, hK⟩
      · simp only [Instr.entryStore, Sem.run_bind, e1, Result.andThen, asInt, asIntOf, Sem.run_pure, hfind, e3]
      · refine h.setOb hH (by simp) hp rfl rfl rfl (by simp) (fun q hq => s2 q hq) (fun o y hy => by rw [o3 o] at hy; cases hy) ?_
        refine ⟨o1, o2, o3, _, _, s1, ?_, ?_, ?_⟩
        · rw [hml]
          refine EntRel.of_get (by simp [hr.get.1]) fun i e' d' he hd => ?_
          rw [List.getElem?_set] at he hd
          by_cases hij : j = i
          · subst hij
            have l1 : j < ents.toList.length := (List.getElem?_eq_some_iff.1 g1).1
            have l2 : j < es.length := (List.getElem?_eq_some_iff.1 hj).1
            simp only [l1, l2, if_true, Option.some.injEq] at he hd
            subst he; subst hd
            exact ⟨g2, hv, g4⟩
          · rw [if_neg hij] at he hd
            obtain ⟨d2, q1, q2⟩ := hr.get.2 i e' he
            rw [hd] at q1; cases q1; exact q2
        · intro e' he
          rw [hml] at he
          rcases List.mem_or_eq_of_mem_set he with he | rfl
          · exact hlt e' he
          · exact hlt e (List.mem_of_getElem? g1)
        · rw [hml, List.map_set]
          have : (ents.toList.map (·.born)).set j e.born = ents.toList.map (·.born) := by
            apply List.ext_getElem?
            intro i
            by_cases hij : j = i
            · subst hij
              have l1 : j < ents.toList.length := (List.getElem?_eq_some_iff.1 g1).1
              rw [List.getElem?_set_self (by rw [List.length_map]; exact l1), List.getElem?_map, g1]; rfl
            · rw [List.getElem?_set_ne hij]
          rw [this]; exact hnd
    · exact kk.elim
  · exact kk.elim
end Go.Ag
