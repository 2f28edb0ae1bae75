/- AGo, plain laws: paths. -/
import Derived.Test.YtbiajjcolfhioaaDoorAgStr
import Derived.Lib.Join
set_option linter.all false
namespace Go.Ag

/-! ### a text cut byte by byte -/
def splitStep (c : UInt8) (q : List Str × Str) (b : UInt8) : List Str × Str := if b == c then (q.1 ++ [q.2], []) else (q.1, q.2 ++ [b])
def splitR (c : UInt8) (s : Str) : List Str := let q := s.foldl (splitStep c) ([], []); q.1 ++ [q.2]
theorem splitR_aux (c : UInt8) : ∀ (s : Str) (o : List Str) (a : Str), ∃ h t, splitC c s = h :: t ∧ (s.foldl (splitStep c) (o, a)).1 ++ [(s.foldl (splitStep c) (o, a)).2] = o ++ (a ++ h) :: t
  | [], o, a => ⟨[], [], rfl, by simp⟩
  | b :: s, o, a => by
    by_cases hb : b = c
    · obtain ⟨h, t, h1, h2⟩ := splitR_aux c s (o ++ [a]) []
      refine ⟨[], h :: t, by simp [splitC, hb, h1], ?_⟩
      simp only [List.foldl_cons, splitStep, hb, beq_self_eq_true, if_true]
      rw [h2]; simp
    · obtain ⟨h, t, h1, h2⟩ := splitR_aux c s o (a ++ [b])
      refine ⟨b :: h, t, by simp [splitC, hb, h1], ?_⟩
      have : (b == c) = false := by simpa using hb
      simp only [List.foldl_cons, splitStep, this, Bool.false_eq_true, if_false]
      rw [h2]; simp
theorem splitR_eq (c : UInt8) (s : Str) : splitR c s = splitC c s := by
  obtain ⟨h, t, h1, h2⟩ := splitR_aux c s [] []
  rw [h1]; simpa [splitR] using h2

/-! ### the parts of a path, byte by byte -/
def partsStep (q : List Str × Str) (b : UInt8) : List Str × Str := if !(b == 47) then (q.1, q.2 ++ [b]) else if !(q.2 == []) then (q.1 ++ [q.2], []) else (q.1, [])
def partsR (s : Str) : List Str := let q := s.foldl partsStep ([], []); if !(q.2 == []) then q.1 ++ [q.2] else q.1
def parts (s : Str) : List Str := (splitC 47 s).filter fun p => !(p == [])
theorem partsR_aux : ∀ (s : Str) (o : List Str) (a : Str), s.foldl partsStep (o.filter (fun p => !(p == [])), a) = ((s.foldl (splitStep 47) (o, a)).1.filter (fun p => !(p == [])), (s.foldl (splitStep 47) (o, a)).2)
  | [], o, a => rfl
  | b :: s, o, a => by
    simp only [List.foldl_cons]
    by_cases hb : b = 47
    · subst hb
      have := partsR_aux s (o ++ [a]) []
      simp only [partsStep, splitStep, beq_self_eq_true, Bool.not_true, Bool.false_eq_true, if_false, if_true]
      rw [← this]
      by_cases ha : a = []
      · subst ha; simp
      · have h2 : (a == []) = false := by simpa using ha
        have e : [a].filter (fun p : Str => !(p == [])) = [a] := by rw [List.filter_cons, h2]; rfl
        rw [List.filter_append, e, h2]
        rfl
    · have h2 : (b == 47) = false := by simpa using hb
      simp only [partsStep, splitStep, h2, Bool.not_false, if_true, Bool.false_eq_true, if_false]
      exact partsR_aux s o (a ++ [b])
theorem partsR_eq (s : Str) : partsR s = parts s := by
  have h := partsR_aux s [] []
  rw [List.filter_nil] at h
  rw [parts, ← splitR_eq, partsR, splitR, h]
  simp only [List.filter_append, List.filter_cons, List.filter_nil]
  split <;> simp_all

/-! ### clean -/
def cleanStep (left : List Str) (p : Str) : List Str := if p == [46] then left else if p == [46, 46] then left.take (max left.length 1 - 1) else left ++ [p]
def cleanStepR (left : List Str) (p : Str) : List Str := if p == [46, 46] then (if left.length > 0 then left.take (left.length - 1) else left) else if !(p == [46]) then left ++ [p] else left
theorem cleanStepR_eq (left : List Str) (p : Str) : cleanStepR left p = cleanStep left p := by
  unfold cleanStepR cleanStep
  by_cases h1 : p = [46]
  · subst h1; simp
  · by_cases h2 : p = [46, 46]
    · subst h2
      by_cases h3 : left = []
      · subst h3; simp
      · have : left.length > 0 := List.length_pos_iff.2 h3
        simp only [this, if_true]
        simp
        omega
    · simp [h1, h2]
def joined (l : List Str) : Str := (l.map fun x => 47 :: x).flatten
theorem join_joined : ∀ (l : List Str), l ≠ [] → 47 :: Go.Lib.join l [47] = joined l
  | [], h => absurd rfl h
  | x :: l, _ => by
    rw [Go.Lib.join_cons]
    simp [joined, Go.Lib.joinTail]
def joinedR (l : List Str) : Str := if l.length == 0 then [47] else joined l
theorem joinedR_eq (l : List Str) : joinedR l = 47 :: Go.Lib.join l [47] := by
  cases l with
  | nil => rfl
  | cons x l => rw [join_joined _ (by simp)]; rfl
def cleanL (s : Str) : List Str := (parts s).foldl cleanStep []
end Go.Ag
