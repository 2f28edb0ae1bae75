/- AGo, part 1: data by value, abstract objects, and how they stand to the world. -/
import Derived.Below
import Derived.Laws.CopyRow
import Derived.Laws.Rows
import Derived.Laws.Cells
set_option linter.all false
namespace Go.Ag
open Go Go.RowKit

/-- Memory that never turns: which cell holds what. -/
abbrev Mem := Nat → Nat → Option Value

/-- Where an object lies: its block, how many rows fit, and how often it has been laid anew. -/
structure Pt where
  blk : Nat
  cap : Nat
  ver : Nat

abbrev Mu := Nat → Option Pt

/-- Plain data. -/
inductive V where
  | bool (b : Bool)
  | int (k : IntKind) (n : Int)
  | str (s : List UInt8)
  | list (sz : Nat) (xs : List (List V))
  | nili

/-- What a slot may hold. -/
inductive D where
  | v (x : V)
  | agg (cs : List D)
  | tup (cs : List D)
  | own (b ver len : Nat)
  | nils
  | ptr (b off : Nat)
  | eptr (b ver sz i off : Nat)
  | rptr (cs : List V)
  | nilp
  | map (m : Nat)
  | nilm
  | fn (f : FuncId) (caps : List D)
  | nilf
  | any

mutual
def RelV (M : Mem) : V → Value → Prop
  | .bool b, y => y = .bool b
  | .int k n, y => y = .int k n
  | .str s, y => y = .string ⟨s.toArray⟩
  | .nili, y => y = .nilIface
  | .list sz xs, y => ∃ A c, y = .slice A xs.length c ∧ xs.length ≤ c ∧ (xs = [] ∨ ∃ b o, A = some ⟨b, o, none⟩ ∧ RelRows M sz b o xs)
def RelRows (M : Mem) (sz b : Nat) : Nat → List (List V) → Prop
  | _, [] => True
  | o, x :: xs => x.length = sz ∧ RelRow M b o x ∧ RelRows M sz b (o + sz) xs
def RelRow (M : Mem) (b : Nat) : Nat → List V → Prop
  | _, [] => True
  | o, d :: ds => (∃ y, M b o = some y ∧ RelV M d y) ∧ RelRow M b (o + 1) ds
end

mutual
def Rel (M : Mem) (μ : Mu) : D → Value → Prop
  | .v x, y => RelV M x y
  | .agg cs, y => ∃ vs : List Value, y = .agg vs.toArray ∧ RelL M μ cs vs
  | .tup cs, y => ∃ vs : List Value, y = .tuple vs.toArray ∧ RelL M μ cs vs
  | .own b ver len, y => (∃ A n c, y = .slice A n c) ∧ ∃ p, μ b = some p ∧ ver ≤ p.ver ∧ 1 ≤ ver ∧ (p.ver = ver → len ≤ p.cap ∧ y = .slice (some ⟨p.blk, 0, none⟩) len p.cap)
  | .nils, y => y = .slice none 0 0
  | .ptr b off, y => ∃ p, μ b = some p ∧ p.ver = 0 ∧ y = .pointer (some ⟨p.blk, off, none⟩)
  | .eptr b ver sz i off, y => (∃ A, y = .pointer A) ∧ ∃ p, μ b = some p ∧ ver ≤ p.ver ∧ 1 ≤ ver ∧ (p.ver = ver → y = .pointer (some ⟨p.blk, i * sz + off, none⟩))
  | .rptr cs, y => ∃ b o, y = .pointer (some ⟨b, o, none⟩) ∧ RelRow M b o cs
  | .nilp, y => y = .pointer none
  | .map m, y => ∃ p, μ m = some p ∧ p.ver = 0 ∧ y = .map (some p.blk)
  | .nilm, y => y = .map none
  | .fn f caps, y => ∃ vs : List Value, y = .func (.func f) #[] vs.toArray ∧ RelL M μ caps vs
  | .nilf, y => y = .nilFunc
  | .any, _ => True
def RelL (M : Mem) (μ : Mu) : List D → List Value → Prop
  | [], vs => vs = []
  | d :: ds, vs => ∃ v vs', vs = v :: vs' ∧ Rel M μ d v ∧ RelL M μ ds vs'
end

def Mem.le (M M' : Mem) : Prop := ∀ b o y, M b o = some y → M' b o = some y
def Mu.le (μ μ' : Mu) : Prop := ∀ i p, μ i = some p → ∃ p', μ' i = some p' ∧ p.ver ≤ p'.ver ∧ (p'.ver = p.ver → p' = p) ∧ (p.ver = 0 → p'.ver = 0)

theorem Mem.le.refl (M : Mem) : M.le M := fun _ _ _ h => h
theorem Mem.le.trans {a b c : Mem} (h : a.le b) (k : b.le c) : a.le c := fun _ _ _ x => k _ _ _ (h _ _ _ x)
theorem Mu.le.refl (μ : Mu) : μ.le μ := fun _ p h => ⟨p, h, Nat.le_refl _, fun _ => rfl, fun h => h⟩
theorem Mu.le.trans {a b c : Mu} (h : a.le b) (k : b.le c) : a.le c := fun i p hp => by
  obtain ⟨p1, h1, h2, h3, h4⟩ := h i p hp
  obtain ⟨p2, k1, k2, k3, k4⟩ := k i p1 h1
  refine ⟨p2, k1, Nat.le_trans h2 k2, fun e => ?_, fun e => k4 (h4 e)⟩
  have e1 : p1.ver = p.ver := by omega
  have e2 : p2.ver = p1.ver := by omega
  rw [k3 e2, h3 e1]

mutual
theorem RelV.mono {M M' : Mem} (h : M.le M') : ∀ {x : V} {y : Value}, RelV M x y → RelV M' x y
  | .bool _, _, r => r
  | .int _ _, _, r => r
  | .str _, _, r => r
  | .nili, _, r => r
  | .list sz xs, y, r => by
    simp only [RelV] at r ⊢
    obtain ⟨A, c, e, hc, r⟩ := r
    refine ⟨A, c, e, hc, ?_⟩
    rcases r with r | ⟨b, o, e, r⟩
    · exact .inl r
    · exact .inr ⟨b, o, e, RelRows.mono h r⟩
theorem RelRows.mono {M M' : Mem} (h : M.le M') : ∀ {sz b o : Nat} {xs : List (List V)}, RelRows M sz b o xs → RelRows M' sz b o xs
  | _, _, _, [], _ => by simp only [RelRows]
  | _, _, _, x :: xs, r => by
    simp only [RelRows] at r ⊢
    exact ⟨r.1, RelRow.mono h r.2.1, RelRows.mono h r.2.2⟩
theorem RelRow.mono {M M' : Mem} (h : M.le M') : ∀ {b o : Nat} {xs : List V}, RelRow M b o xs → RelRow M' b o xs
  | _, _, [], _ => by simp only [RelRow]
  | _, _, d :: ds, r => by
    simp only [RelRow] at r ⊢
    obtain ⟨⟨y, h1, h2⟩, h3⟩ := r
    exact ⟨⟨y, h _ _ _ h1, RelV.mono h h2⟩, RelRow.mono h h3⟩
end

mutual
theorem Rel.mono {M M' : Mem} {μ μ' : Mu} (h : M.le M') (k : μ.le μ') : ∀ {d : D} {y : Value}, Rel M μ d y → Rel M' μ' d y
  | .v x, _, r => by simp only [Rel] at r ⊢; exact RelV.mono h r
  | .agg cs, _, r => by simp only [Rel] at r ⊢; obtain ⟨vs, e, r⟩ := r; exact ⟨vs, e, RelL.mono h k r⟩
  | .tup cs, _, r => by simp only [Rel] at r ⊢; obtain ⟨vs, e, r⟩ := r; exact ⟨vs, e, RelL.mono h k r⟩
  | .own b ver len, _, r => by
    simp only [Rel] at r ⊢
    obtain ⟨r0, p, hp, h1, h2, h3⟩ := r
    obtain ⟨p', k1, k2, k3, _⟩ := k b p hp
    refine ⟨r0, p', k1, by omega, h2, fun e => ?_⟩
    have : p' = p := k3 (by omega)
    rw [this]; exact h3 (by rw [← this]; exact e)
  | .nils, _, r => by simp only [Rel] at r ⊢; exact r
  | .ptr b off, _, r => by
    simp only [Rel] at r ⊢
    obtain ⟨p, hp, h1, h2⟩ := r
    obtain ⟨p', k1, k2, k3, k4⟩ := k b p hp
    have : p' = p := k3 (by rw [k4 h1, h1])
    exact ⟨p', k1, k4 h1, by rw [this]; exact h2⟩
  | .eptr b ver sz i off, _, r => by
    simp only [Rel] at r ⊢
    obtain ⟨r0, p, hp, h1, h2, h3⟩ := r
    obtain ⟨p', k1, k2, k3, _⟩ := k b p hp
    refine ⟨r0, p', k1, by omega, h2, fun e => ?_⟩
    have : p' = p := k3 (by omega)
    rw [this]; exact h3 (by rw [← this]; exact e)
  | .rptr cs, _, r => by simp only [Rel] at r ⊢; obtain ⟨b, o, e, r⟩ := r; exact ⟨b, o, e, RelRow.mono h r⟩
  | .nilp, _, r => by simp only [Rel] at r ⊢; exact r
  | .map m, _, r => by
    simp only [Rel] at r ⊢
    obtain ⟨p, hp, h1, h2⟩ := r
    obtain ⟨p', k1, k2, k3, k4⟩ := k m p hp
    have : p' = p := k3 (by rw [k4 h1, h1])
    exact ⟨p', k1, k4 h1, by rw [this]; exact h2⟩
  | .nilm, _, r => by simp only [Rel] at r ⊢; exact r
  | .fn f caps, _, r => by simp only [Rel] at r ⊢; obtain ⟨vs, e, r⟩ := r; exact ⟨vs, e, RelL.mono h k r⟩
  | .nilf, _, r => by simp only [Rel] at r ⊢; exact r
  | .any, _, _ => by simp only [Rel]
theorem RelL.mono {M M' : Mem} {μ μ' : Mu} (h : M.le M') (k : μ.le μ') : ∀ {ds : List D} {ys : List Value}, RelL M μ ds ys → RelL M' μ' ds ys
  | [], _, r => by simp only [RelL] at r ⊢; exact r
  | d :: ds, _, r => by
    simp only [RelL] at r ⊢
    obtain ⟨v, vs, e, r1, r2⟩ := r
    exact ⟨v, vs, e, Rel.mono h k r1, RelL.mono h k r2⟩
end

/-! ### Lists -/
theorem RelL.nil_iff {M : Mem} {μ : Mu} {ys : List Value} : RelL M μ [] ys ↔ ys = [] := by simp only [RelL]
theorem RelL.cons_iff {M : Mem} {μ : Mu} {d : D} {ds : List D} {y : Value} {ys : List Value} : RelL M μ (d :: ds) (y :: ys) ↔ Rel M μ d y ∧ RelL M μ ds ys := by
  simp only [RelL]
  constructor
  · rintro ⟨v, vs, e, h1, h2⟩; cases e; exact ⟨h1, h2⟩
  · rintro ⟨h1, h2⟩; exact ⟨y, ys, rfl, h1, h2⟩
theorem RelL.length {M : Mem} {μ : Mu} : ∀ {ds : List D} {ys : List Value}, RelL M μ ds ys → ys.length = ds.length
  | [], _, r => by simp only [RelL] at r; simp [r]
  | d :: ds, _, r => by
    simp only [RelL] at r
    obtain ⟨v, vs, e, _, r2⟩ := r
    simp [e, RelL.length r2]
theorem RelL.get {M : Mem} {μ : Mu} : ∀ {ds : List D} {ys : List Value}, RelL M μ ds ys → ∀ (i : Nat) (d : D), ds[i]? = some d → ∃ y, ys[i]? = some y ∧ Rel M μ d y
  | [], _, _, _, _, h => by simp at h
  | d :: ds, _, r, i, d', h => by
    simp only [RelL] at r
    obtain ⟨v, vs, e, r1, r2⟩ := r
    subst e
    cases i with
    | zero => simp at h; subst h; exact ⟨v, by simp, r1⟩
    | succ i => simp at h; obtain ⟨y, h1, h2⟩ := RelL.get r2 i d' h; exact ⟨y, by simpa using h1, h2⟩
theorem RelL.of_get {M : Mem} {μ : Mu} : ∀ {ds : List D} {ys : List Value}, ys.length = ds.length → (∀ (i : Nat) (d : D) (y : Value), ds[i]? = some d → ys[i]? = some y → Rel M μ d y) → RelL M μ ds ys
  | [], ys, h, _ => by simp only [RelL]; simpa using h
  | d :: ds, [], h, _ => by simp at h
  | d :: ds, y :: ys, h, k => by
    rw [RelL.cons_iff]
    exact ⟨k 0 d y (by simp) (by simp), RelL.of_get (by simpa using h) fun i d' y' h1 h2 => k (i + 1) d' y' (by simpa using h1) (by simpa using h2)⟩
theorem RelL.set {M : Mem} {μ : Mu} {ds : List D} {ys : List Value} (h : RelL M μ ds ys) {d : D} {y : Value} (hd : Rel M μ d y) (i : Nat) : RelL M μ (ds.set i d) (ys.set i y) := by
  have hl := h.length
  refine RelL.of_get (by simp [hl]) fun j d' y' h1 h2 => ?_
  rw [List.getElem?_set] at h1 h2
  split at h1
  · rename_i e; subst e
    rw [if_pos rfl] at h2
    split at h1
    · split at h2
      · cases h1; cases h2; exact hd
      · simp at h2
    · simp at h1
  · rename_i e
    rw [if_neg e] at h2
    obtain ⟨y2, k1, k2⟩ := h.get j d' h1
    rw [k1] at h2; cases h2; exact k2
theorem RelL.append {M : Mem} {μ : Mu} : ∀ {ds es : List D} {ys zs : List Value}, RelL M μ ds ys → RelL M μ es zs → RelL M μ (ds ++ es) (ys ++ zs)
  | [], es, ys, zs, h, k => by simp only [RelL] at h; subst h; simpa using k
  | d :: ds, es, ys, zs, h, k => by
    simp only [RelL] at h
    obtain ⟨v, vs, e, r1, r2⟩ := h
    subst e
    simp only [List.cons_append, RelL.cons_iff]
    exact ⟨r1, RelL.append r2 k⟩
theorem RelL.take {M : Mem} {μ : Mu} {ds : List D} {ys : List Value} (h : RelL M μ ds ys) (n : Nat) : RelL M μ (ds.take n) (ys.take n) := by
  refine RelL.of_get (by simp [h.length]) fun i d y h1 h2 => ?_
  rw [List.getElem?_take] at h1 h2
  split at h1
  · rename_i e; rw [if_pos e] at h2
    obtain ⟨y2, k1, k2⟩ := h.get i d h1
    rw [k1] at h2; cases h2; exact k2
  · simp at h1
theorem RelL.drop {M : Mem} {μ : Mu} {ds : List D} {ys : List Value} (h : RelL M μ ds ys) (n : Nat) : RelL M μ (ds.drop n) (ys.drop n) := by
  refine RelL.of_get (by simp [h.length]) fun i d y h1 h2 => ?_
  rw [List.getElem?_drop] at h1 h2
  obtain ⟨y2, k1, k2⟩ := h.get (n + i) d h1
  rw [k1] at h2; cases h2; exact k2

theorem RelRow.get {M : Mem} : ∀ {b o : Nat} {cs : List V}, RelRow M b o cs → ∀ (j : Nat) (x : V), cs[j]? = some x → ∃ y, M b (o + j) = some y ∧ RelV M x y
  | _, _, [], _, _, _, h => by simp at h
  | b, o, c :: cs, r, j, x, h => by
    simp only [RelRow] at r
    cases j with
    | zero => simp at h; subst h; simpa using r.1
    | succ j =>
      obtain ⟨y, h1, h2⟩ := RelRow.get r.2 j x (by simpa using h)
      exact ⟨y, by rw [show o + (j + 1) = o + 1 + j from by omega]; exact h1, h2⟩
theorem RelRow.of_get {M : Mem} : ∀ {b o : Nat} {cs : List V}, (∀ (j : Nat) (x : V), cs[j]? = some x → ∃ y, M b (o + j) = some y ∧ RelV M x y) → RelRow M b o cs
  | _, _, [], _ => by simp only [RelRow]
  | b, o, c :: cs, h => by
    simp only [RelRow]
    refine ⟨by simpa using h 0 c (by simp), RelRow.of_get fun j x hx => ?_⟩
    have := h (j + 1) x (by simpa using hx)
    rwa [show o + (j + 1) = o + 1 + j from by omega] at this
theorem RelRow.drop {M : Mem} {b o : Nat} {cs : List V} (h : RelRow M b o cs) (n : Nat) : RelRow M b (o + n) (cs.drop n) :=
  RelRow.of_get fun j x hx => by
    rw [List.getElem?_drop] at hx
    have := h.get (n + j) x hx
    rwa [← Nat.add_assoc] at this
theorem RelRow.take {M : Mem} {b o : Nat} {cs : List V} (h : RelRow M b o cs) (n : Nat) : RelRow M b o (cs.take n) :=
  RelRow.of_get fun j x hx => by
    rw [List.getElem?_take] at hx
    split at hx
    · exact h.get j x hx
    · simp at hx
theorem RelRows.get {M : Mem} : ∀ {sz b o : Nat} {xs : List (List V)}, RelRows M sz b o xs → ∀ (i : Nat) (x : List V), xs[i]? = some x → x.length = sz ∧ RelRow M b (o + i * sz) x
  | _, _, _, [], _, _, _, h => by simp at h
  | sz, b, o, x :: xs, r, i, x', h => by
    simp only [RelRows] at r
    cases i with
    | zero => simp at h; subst h; simpa using ⟨r.1, r.2.1⟩
    | succ i =>
      have := RelRows.get r.2.2 i x' (by simpa using h)
      rw [show o + (i + 1) * sz = o + sz + i * sz from by rw [Nat.add_mul, Nat.one_mul]; omega]
      exact this
theorem RelRows.of_get {M : Mem} : ∀ {sz b o : Nat} {xs : List (List V)}, (∀ (i : Nat) (x : List V), xs[i]? = some x → x.length = sz ∧ RelRow M b (o + i * sz) x) → RelRows M sz b o xs
  | _, _, _, [], _ => by simp only [RelRows]
  | sz, b, o, x :: xs, h => by
    simp only [RelRows]
    have h0 := h 0 x (by simp)
    refine ⟨h0.1, by simpa using h0.2, RelRows.of_get fun i x' hx => ?_⟩
    have := h (i + 1) x' (by simpa using hx)
    rwa [show o + (i + 1) * sz = o + sz + i * sz from by rw [Nat.add_mul, Nat.one_mul]; omega] at this
theorem RelRows.drop {M : Mem} {sz b o : Nat} {xs : List (List V)} (h : RelRows M sz b o xs) (n : Nat) : RelRows M sz b (o + n * sz) (xs.drop n) :=
  RelRows.of_get fun i x hx => by
    rw [List.getElem?_drop] at hx
    have := h.get (n + i) x hx
    rwa [Nat.add_mul, ← Nat.add_assoc] at this
theorem RelRows.take {M : Mem} {sz b o : Nat} {xs : List (List V)} (h : RelRows M sz b o xs) (n : Nat) : RelRows M sz b o (xs.take n) :=
  RelRows.of_get fun i x hx => by
    rw [List.getElem?_take] at hx
    split at hx
    · exact h.get i x hx
    · simp at hx

/-- A slot's content that fills one cell. -/
def D.cell : D → Bool
  | .agg _ | .tup _ | .any => false
  | _ => true
theorem RelV.one {M : Mem} {x : V} {y : Value} (h : RelV M x y) : y.oneCell' = true := by
  cases x <;> simp only [RelV] at h
  case list sz xs => obtain ⟨A, c, e, _⟩ := h; subst e; rfl
  all_goals subst h; rfl
theorem Rel.one {M : Mem} {μ : Mu} {d : D} {y : Value} (h : Rel M μ d y) (hc : d.cell = true) : y.oneCell' = true := by
  cases d <;> simp only [Rel] at h <;> simp only [D.cell] at hc
  case v x => exact RelV.one h
  case own b ver len => obtain ⟨⟨A, n, c, e⟩, _⟩ := h; subst e; rfl
  case nils => subst h; rfl
  case ptr b off => obtain ⟨p, _, _, e⟩ := h; subst e; rfl
  case eptr => obtain ⟨⟨A, e⟩, _⟩ := h; subst e; rfl
  case rptr cs => obtain ⟨b, o, e, _⟩ := h; subst e; rfl
  case nilp => subst h; rfl
  case map m => obtain ⟨p, _, _, e⟩ := h; subst e; rfl
  case nilm => subst h; rfl
  case fn f caps => obtain ⟨vs, e, _⟩ := h; subst e; rfl
  case nilf => subst h; rfl
  all_goals cases hc

theorem RelL.v_of_row {M : Mem} {μ : Mu} {b o : Nat} {cs : List V} (h : RelRow M b o cs) {ys : List Value} (hl : ys.length = cs.length) (hy : ∀ j y, ys[j]? = some y → M b (o + j) = some y) : RelL M μ (cs.map .v) ys := by
  refine RelL.of_get (by simp [hl]) fun i d y h1 h2 => ?_
  rw [List.getElem?_map] at h1
  cases hc : cs[i]? with
  | none => simp [hc] at h1
  | some x =>
    simp [hc] at h1
    subst h1
    obtain ⟨y', k1, k2⟩ := h.get i x hc
    rw [hy i y h2] at k1
    cases k1
    simp only [Rel]
    exact k2

end Go.Ag
