/- AGo, plain answers: names and paths. -/
import Derived.Test.YtbiajjcolfhioaaDoorAgPlB
import Derived.Test.YtbiajjcolfhioaaDoorAgSimp
set_option linter.all false
namespace Go.Ag
open Go

def strs (l : List Str) : V := .list 1 (l.map fun s => [.str s])

def wordB (c : UInt8) : Bool := (decide ((c.toNat : Int) ≥ 97) && decide ((c.toNat : Int) ≤ 122)) || (decide ((c.toNat : Int) ≥ 48) && decide ((c.toNat : Int) ≤ 57))
def markB (c : UInt8) : Bool := ((c.toNat : Int) == 43) || ((c.toNat : Int) == 45) || ((c.toNat : Int) == 46)
def nameAt (s : Str) (i : Nat) : Bool := wordB (s.getD i 0) || (!((i : Int) == 0) && markB (s.getD i 0))
def nameOk (s : Str) : Bool := !((s.length : Int) == 0) && !decide ((s.length : Int) > 60) && (List.range s.length).all (nameAt s)
def dullAt (s : Str) (i : Nat) : Bool := decide (((s.getD i 0).toNat : Int) < 33) || decide (((s.getD i 0).toNat : Int) > 126)
def plainOk (s : Str) : Bool := (List.range s.length).all (fun i => !dullAt s i) && Lib.hasPrefix s [47]
def cleanOut (s : Str) : Str := 47 :: Lib.join (cleanL s) [47]
def clean (s : Str) : Str × Int := if plainOk s then (if (cleanOut s).length > 200 then ([], 8) else (cleanOut s, 0)) else ([], 1)
def pathRight (s : Str) : Bool := (clean s).2 == 0 && (clean s).1 == s
def selOk (x : Sel) : Bool := nameOk x.1 && pathRight x.2.2

/-! ### the document's -/
def smallB (c : UInt8) : Bool := decide ((c.toNat : Int) ≥ 97) && decide ((c.toNat : Int) ≤ 122)
def digitB (c : UInt8) : Bool := decide ((c.toNat : Int) ≥ 48) && decide ((c.toNat : Int) ≤ 57)
def nameBadR (s : Str) (i : Nat) : Bool := (!smallB (s.getD i 0) && !digitB (s.getD i 0) && !markB (s.getD i 0)) || (markB (s.getD i 0) && ((i : Int) == 0))
def nameOkR (s : Str) : Bool := (List.range s.length).all (fun i => !nameBadR s i) && (decide ((s.length : Int) ≥ 1) && decide ((s.length : Int) ≤ 60))
theorem nameOkR_eq (s : Str) : nameOkR s = nameOk s := by
  have h : (fun i => !nameBadR s i) = nameAt s := by
    funext i
    have hw : wordB (s.getD i 0) = (smallB (s.getD i 0) || digitB (s.getD i 0)) := rfl
    have hm : markB (s.getD i 0) = true → smallB (s.getD i 0) = false ∧ digitB (s.getD i 0) = false := by
      intro hm
      simp only [markB, Bool.or_eq_true, beq_iff_eq] at hm
      simp only [smallB, digitB, Bool.and_eq_false_iff, decide_eq_false_iff_not]
      omega
    simp only [nameBadR, nameAt, hw]
    cases h1 : smallB (s.getD i 0) <;> cases h2 : digitB (s.getD i 0) <;> cases h3 : markB (s.getD i 0) <;> cases h4 : ((i : Int) == 0) <;> simp_all
  rw [nameOkR, nameOk, h, Bool.and_comm]
  congr 1
  have h1 : decide ((s.length : Int) ≥ 1) = !((s.length : Int) == 0) := by
    rw [Bool.eq_iff_iff]; simp only [decide_eq_true_eq, Bool.not_eq_true', beq_eq_false_iff_ne, ne_eq]; omega
  have h2 : decide ((s.length : Int) ≤ 60) = !decide ((s.length : Int) > 60) := by
    rw [Bool.eq_iff_iff]; simp
  rw [h1, h2]
theorem all_at {s : Str} {p : Str → Nat → Bool} (h : (List.range s.length).all (p s) = true) {b : UInt8} (hb : b ∈ s) : ∃ i, p s i = true ∧ s.getD i 0 = b := by
  obtain ⟨i, hi, rfl⟩ := List.getElem_of_mem hb
  simp only [List.all_eq_true, List.mem_range] at h
  exact ⟨i, h i hi, by simp [List.getD_eq_getElem?_getD, hi]⟩
theorem name_good {s : Str} (h : nameOk s = true) : good s := by
  simp only [nameOk, Bool.and_eq_true] at h
  obtain ⟨⟨h1, h2⟩, h3⟩ := h
  have key : ∀ b ∈ s, b ≠ 32 ∧ b ≠ 10 := by
    intro b hb
    obtain ⟨i, h4, rfl⟩ := all_at (p := nameAt) h3 hb
    simp only [nameAt, wordB, markB, Bool.or_eq_true, Bool.and_eq_true, decide_eq_true_eq, beq_iff_eq] at h4
    constructor <;> intro e <;> rw [e] at h4 <;> simp at h4
  refine ⟨?_, fun e => (key _ e).1 rfl, fun e => (key _ e).2 rfl⟩
  intro e; subst e; simp at h1
theorem plain_good {s : Str} (h : plainOk s = true) : good s := by
  simp only [plainOk, Bool.and_eq_true] at h
  obtain ⟨h3, h1⟩ := h
  have key : ∀ b ∈ s, b ≠ 32 ∧ b ≠ 10 := by
    intro b hb
    obtain ⟨i, h4, rfl⟩ := all_at (p := fun s i => !dullAt s i) h3 hb
    simp only [dullAt, Bool.not_eq_true', Bool.or_eq_false_iff, decide_eq_false_iff_not] at h4
    constructor <;> intro e <;> rw [e] at h4 <;> simp at h4
  refine ⟨?_, fun e => (key _ e).1 rfl, fun e => (key _ e).2 rfl⟩
  intro e; subst e; simp [Lib.hasPrefix] at h1
theorem right_plain {s : Str} (h : pathRight s = true) : plainOk s = true := by
  cases hp : plainOk s with
  | true => rfl
  | false => simp [pathRight, clean, hp] at h
theorem sel_good (x : Sel) (h : selOk x = true) : good x.1 ∧ good x.2.2 := by
  simp only [selOk, Bool.and_eq_true] at h
  exact ⟨name_good h.1, plain_good (right_plain h.2)⟩

/-! ### lengths -/
def tot (l : List Str) : Nat := (lined 47 l).length
theorem tot_cons (x : Str) (l : List Str) : tot (x :: l) = x.length + 1 + tot l := by simp [tot, lined]; omega
theorem tot_append (a b : List Str) : tot (a ++ b) = tot a + tot b := by simp [tot, lined]
theorem tot_len : ∀ l : List Str, l.length ≤ tot l
  | [] => Nat.zero_le _
  | x :: l => by have := tot_len l; rw [tot_cons, List.length_cons]; omega
theorem tot_take (l : List Str) (k : Nat) : tot (l.take k) ≤ tot l := by
  have := tot_append (l.take k) (l.drop k)
  rw [List.take_append_drop] at this; omega
theorem tot_filter (p : Str → Bool) : ∀ l : List Str, tot (l.filter p) ≤ tot l
  | [] => Nat.le_refl _
  | x :: l => by
    have := tot_filter p l
    rw [List.filter_cons]
    split
    · rw [tot_cons, tot_cons]; omega
    · rw [tot_cons]; omega
theorem tot_parts (s : Str) : tot (parts s) ≤ s.length + 1 := by
  refine Nat.le_trans (tot_filter _ _) ?_
  rw [tot, lined_split]; simp
theorem tot_step (left : List Str) (p : Str) : tot (cleanStep left p) ≤ tot left + (p.length + 1) := by
  unfold cleanStep
  split
  · omega
  · split
    · have := tot_take left (max left.length 1 - 1); omega
    · rw [tot_append, tot_cons]; simp [tot, lined]
theorem tot_fold : ∀ (l left : List Str), tot (l.foldl cleanStep left) ≤ tot left + tot l
  | [], left => by simp [tot, lined]
  | p :: l, left => by
    have h1 := tot_fold l (cleanStep left p)
    have h2 := tot_step left p
    rw [List.foldl_cons, tot_cons]; omega
theorem tot_clean (s : Str) (i : Nat) : tot (((parts s).take i).foldl cleanStep []) ≤ s.length + 1 := by
  have h1 := tot_fold ((parts s).take i) []
  have h2 := tot_take (parts s) i
  have h3 := tot_parts s
  have h4 : tot [] = 0 := rfl
  omega
theorem tot_cleanL (s : Str) : tot (cleanL s) ≤ s.length + 1 := by
  have h1 := tot_fold (parts s) []
  have h3 := tot_parts s
  have h4 : tot [] = 0 := rfl
  rw [cleanL]
  omega
theorem joined_tot : ∀ l : List Str, (joined l).length = tot l := by
  intro l
  induction l with
  | nil => rfl
  | cons x l ih => rw [tot_cons, ← ih]; simp [joined]; omega
theorem join_tot (l : List Str) : (Lib.join l [47]).length ≤ tot l := by
  cases l with
  | nil => exact Nat.zero_le _
  | cons x l =>
    have h : (47 :: Lib.join (x :: l) [47]).length = (joined (x :: l)).length := by rw [join_joined _ (by simp)]
    have h2 : ∀ l : List Str, (joined l).length = tot l := by
      intro l
      induction l with
      | nil => rfl
      | cons x l ih => rw [tot_cons, ← ih]; simp [joined]; omega
    rw [h2] at h
    simp only [List.length_cons] at h
    omega
theorem parts_len (s : Str) : (parts s).length ≤ s.length + 1 := Nat.le_trans (tot_len _) (tot_parts s)
end Go.Ag
