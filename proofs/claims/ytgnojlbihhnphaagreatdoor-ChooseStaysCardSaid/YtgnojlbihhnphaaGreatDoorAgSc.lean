import Derived.Test.YtgnojlbihhnphaaGreatDoorAgSb
import Derived.Lib.Split
import Derived.Lib.IndexBytes
import Derived.Lib.IndexLaws
import Derived.Lib.Join
import Derived.ProofKit
import Derived.OpenShut
import Derived.Carry
import Derived.ChangeMaps5
import Derived.Deep.DeepHandedRow
import Derived.Deep.DeepLaidRun
import Derived.Lib.LaidU8
import Derived.SevenTiedAt
import Derived.DataReads
import Derived.ChangeArms
import Derived.Test.YtgnojlbihhnphaaGreatDoorCards
import Derived.Test.YtgnojlbihhnphaaGreatDoorTie
import Derived.Test.YtgnojlbihhnphaaGreatDoorShelf
import Derived.Test.YtgnojlbihhnphaaGreatDoorProg
import Derived.KernelRfl
import Derived.Lib.Strings
set_option linter.all false
/- AGo, plain laws: strings in pieces. -/
namespace Go.Ag
abbrev Str := List UInt8

/-- A text cut at each byte c. -/
def splitC (c : UInt8) : Str → List Str
  | [] => [[]]
  | b :: l => if b = c then [] :: splitC c l else match splitC c l with
    | [] => [[b]]
    | x :: xs => (b :: x) :: xs

theorem splitC_ne (c : UInt8) : ∀ s, splitC c s ≠ []
  | [] => by simp [splitC]
  | b :: l => by
    unfold splitC
    split
    · simp
    · split <;> simp
theorem splitC_len (c : UInt8) : ∀ s : Str, (splitC c s).length ≤ s.length + 1
  | [] => by simp [splitC]
  | b :: l => by
    have ih := splitC_len c l
    unfold splitC
    split
    · simp; omega
    · split
      · simp
      · rename_i h; rw [h] at ih; simp at ih ⊢; omega
theorem splitC_miss (c : UInt8) : ∀ s : Str, Go.Lib.indexByte s c = -1 → splitC c s = [s]
  | [], _ => rfl
  | b :: l, h => by
    unfold Go.Lib.indexByte at h
    split at h
    · simp at h
    · rename_i hb
      split at h
      · rename_i hm
        rw [splitC, if_neg (by simpa using hb), splitC_miss c l (by simpa using hm)]
      · have := Go.Lib.indexByte_ge l c; omega
theorem splitC_hit (c : UInt8) : ∀ (s : Str) (i : Nat), Go.Lib.indexByte s c = i → splitC c s = s.take i :: splitC c (s.drop (i + 1))
  | [], i, h => by simp [Go.Lib.indexByte] at h
  | b :: l, i, h => by
    unfold Go.Lib.indexByte at h
    split at h
    · rename_i hb
      have : i = 0 := by omega
      subst this
      rw [splitC, if_pos (by simpa using hb)]
      rfl
    · rename_i hb
      split at h
      · omega
      · rename_i hm
        have h1 := Go.Lib.indexByte_ge l c
        have h2 : Go.Lib.indexByte l c ≠ -1 := by simpa using hm
        obtain ⟨k, rfl⟩ : ∃ k, i = k + 1 := ⟨i - 1, by omega⟩
        rw [splitC, if_neg (by simpa using hb), splitC_hit c l k (by omega)]
        rfl
theorem split_eq (c : UInt8) : ∀ (n : Nat) (s : Str), s.length ≤ n → Go.Lib.splitK [c] 0 (Go.Lib.count s [c]) s = splitC c s ∧ (splitC c s).length = Go.Lib.count s [c] + 1 := by
  intro n
  induction n with
  | zero =>
    intro s hs
    have : s = [] := List.length_eq_zero_iff.1 (by omega)
    subst this
    have h1 : Go.Lib.index ([] : Str) [c] = -1 := by rw [Go.Lib.index_one]; rfl
    rw [Go.Lib.count_miss h1]
    exact ⟨rfl, rfl⟩
  | succ n ih =>
    intro s hs
    by_cases h : Go.Lib.indexByte s c = -1
    · have h1 : Go.Lib.index s [c] = -1 := by rw [Go.Lib.index_one]; exact h
      rw [Go.Lib.count_miss h1, splitC_miss c s h]
      exact ⟨rfl, rfl⟩
    · have hge := Go.Lib.indexByte_ge s c
      obtain ⟨i, hi⟩ : ∃ i : Nat, Go.Lib.indexByte s c = i := ⟨(Go.Lib.indexByte s c).toNat, by omega⟩
      have h1 : Go.Lib.index s [c] = i := by rw [Go.Lib.index_one]; exact hi
      have hlt : i < s.length := (List.getElem?_eq_some_iff.1 (Go.Lib.indexByte_some hi).1).1
      obtain ⟨g1, g2⟩ := ih (s.drop (i + 1)) (by simp; omega)
      rw [Go.Lib.count_hit (by simp) h1, splitC_hit c s i hi, Nat.add_comm 1, Go.Lib.splitK]
      simp only [h1, List.length_singleton] at *
      rw [if_neg (by simp)]
      simp only [Int.toNat_natCast, Nat.add_zero]
      exact ⟨by rw [g1], by simp [g2]⟩
end Go.Ag
/- AGo, plain laws: paths. -/
namespace Go.Ag

/-! ### a text cut byte by byte -/
def splitStep (c : UInt8) (q : List Str × Str) (b : UInt8) : List Str × Str := if b == c then (q.1 ++ [q.2], []) else (q.1, q.2 ++ [b])
def splitR (c : UInt8) (s : Str) : List Str := let q := s.foldl (splitStep c) ([], []); q.1 ++ [q.2]
theorem splitR_aux (c : UInt8) : ∀ (s : Str) (o : List Str) (a : Str), ∃ h t, splitC c s = h :: t ∧ (s.foldl (splitStep c) (o, a)).1 ++ [(s.foldl (splitStep c) (o, a)).2] = o ++ (a ++ h) :: t
  | [], o, a => ⟨[], [], rfl, by simp⟩
  | b :: s, o, a => by
    by_cases hb : b = c
    · obtain ⟨h, t, h1, h2⟩ := splitR_aux c s (o ++ [a]) []
      refine ⟨[], h :: t, by simp [splitC, hb, h1], ?_⟩
      simp only [List.foldl_cons, splitStep, hb, beq_self_eq_true, if_true]
      rw [h2]; simp
    · obtain ⟨h, t, h1, h2⟩ := splitR_aux c s o (a ++ [b])
      refine ⟨b :: h, t, by simp [splitC, hb, h1], ?_⟩
      have : (b == c) = false := by simpa using hb
      simp only [List.foldl_cons, splitStep, this, Bool.false_eq_true, if_false]
      rw [h2]; simp
theorem splitR_eq (c : UInt8) (s : Str) : splitR c s = splitC c s := by
  obtain ⟨h, t, h1, h2⟩ := splitR_aux c s [] []
  rw [h1]; simpa [splitR] using h2

/-! ### the parts of a path, byte by byte -/
def partsStep (q : List Str × Str) (b : UInt8) : List Str × Str := if !(b == 47) then (q.1, q.2 ++ [b]) else if !(q.2 == []) then (q.1 ++ [q.2], []) else (q.1, [])
def partsR (s : Str) : List Str := let q := s.foldl partsStep ([], []); if !(q.2 == []) then q.1 ++ [q.2] else q.1
def parts (s : Str) : List Str := (splitC 47 s).filter fun p => !(p == [])
theorem partsR_aux : ∀ (s : Str) (o : List Str) (a : Str), s.foldl partsStep (o.filter (fun p => !(p == [])), a) = ((s.foldl (splitStep 47) (o, a)).1.filter (fun p => !(p == [])), (s.foldl (splitStep 47) (o, a)).2)
  | [], o, a => rfl
  | b :: s, o, a => by
    simp only [List.foldl_cons]
    by_cases hb : b = 47
    · subst hb
      have := partsR_aux s (o ++ [a]) []
      simp only [partsStep, splitStep, beq_self_eq_true, Bool.not_true, Bool.false_eq_true, if_false, if_true]
      rw [← this]
      by_cases ha : a = []
      · subst ha; simp
      · have h2 : (a == []) = false := by simpa using ha
        have e : [a].filter (fun p : Str => !(p == [])) = [a] := by rw [List.filter_cons, h2]; rfl
        rw [List.filter_append, e, h2]
        rfl
    · have h2 : (b == 47) = false := by simpa using hb
      simp only [partsStep, splitStep, h2, Bool.not_false, if_true, Bool.false_eq_true, if_false]
      exact partsR_aux s o (a ++ [b])
theorem partsR_eq (s : Str) : partsR s = parts s := by
  have h := partsR_aux s [] []
  rw [List.filter_nil] at h
  rw [parts, ← splitR_eq, partsR, splitR, h]
  simp only [List.filter_append, List.filter_cons, List.filter_nil]
  split <;> simp_all

/-! ### clean -/
def cleanStep (left : List Str) (p : Str) : List Str := if p == [46] then left else if p == [46, 46] then left.take (max left.length 1 - 1) else left ++ [p]
def cleanStepR (left : List Str) (p : Str) : List Str := if p == [46, 46] then (if left.length > 0 then left.take (left.length - 1) else left) else if !(p == [46]) then left ++ [p] else left
theorem cleanStepR_eq (left : List Str) (p : Str) : cleanStepR left p = cleanStep left p := by
  unfold cleanStepR cleanStep
  by_cases h1 : p = [46]
  · subst h1; simp
  · by_cases h2 : p = [46, 46]
    · subst h2
      by_cases h3 : left = []
      · subst h3; simp
      · have : left.length > 0 := List.length_pos_iff.2 h3
        simp only [this, if_true]
        simp
        omega
    · simp [h1, h2]
def joined (l : List Str) : Str := (l.map fun x => 47 :: x).flatten
theorem join_joined : ∀ (l : List Str), l ≠ [] → 47 :: Go.Lib.join l [47] = joined l
  | [], h => absurd rfl h
  | x :: l, _ => by
    rw [Go.Lib.join_cons]
    simp [joined, Go.Lib.joinTail]
def joinedR (l : List Str) : Str := if l.length == 0 then [47] else joined l
theorem joinedR_eq (l : List Str) : joinedR l = 47 :: Go.Lib.join l [47] := by
  cases l with
  | nil => rfl
  | cons x l => rw [join_joined _ (by simp)]; rfl
def cleanL (s : Str) : List Str := (parts s).foldl cleanStep []
end Go.Ag
/- AGo, plain laws: selections as a text. -/
namespace Go.Ag

theorem splitC_sep (c : UInt8) : ∀ (l r : Str), c ∉ l → splitC c (l ++ c :: r) = l :: splitC c r
  | [], r, _ => by simp [splitC]
  | b :: l, r, h => by
    have hb : b ≠ c := fun e => h (by simp [e])
    rw [List.cons_append, splitC, if_neg hb, splitC_sep c l r (fun e => h (by simp [e]))]
theorem splitC_no (c : UInt8) : ∀ (l : Str), c ∉ l → splitC c l = [l]
  | [], _ => rfl
  | b :: l, h => by
    have hb : b ≠ c := fun e => h (by simp [e])
    rw [splitC, if_neg hb, splitC_no c l (fun e => h (by simp [e]))]
theorem splitC_not (c : UInt8) : ∀ (s : Str), ∀ l ∈ splitC c s, c ∉ l
  | [], l, h => by simp [splitC] at h; subst h; simp
  | b :: s, l, h => by
    rw [splitC] at h
    have ih := splitC_not c s
    split at h
    · rcases List.mem_cons.1 h with rfl | h
      · simp
      · exact ih l h
    · rename_i hb
      revert h ih
      cases splitC c s with
      | nil => intro ih h; simp at h; subst h; simpa using fun e => hb e.symm
      | cons x xs =>
        intro ih h
        rcases List.mem_cons.1 h with rfl | h
        · intro e
          rcases List.mem_cons.1 e with e | e
          · exact hb e.symm
          · exact ih x (by simp) e
        · exact ih l (by simp [h])
/-- Its pieces, each with the byte behind it. -/
def lined (c : UInt8) (l : List Str) : Str := (l.map fun x => x ++ [c]).flatten
theorem lined_split (c : UInt8) : ∀ s : Str, lined c (splitC c s) = s ++ [c]
  | [] => rfl
  | b :: s => by
    have ih := lined_split c s
    rw [splitC]
    split
    · rename_i hb; subst hb; simpa [lined] using ih
    · revert ih
      cases h : splitC c s with
      | nil => exact absurd h (splitC_ne c s)
      | cons x xs => intro ih; simpa [lined] using ih
theorem split_lined (c : UInt8) : ∀ l : List Str, (∀ x ∈ l, c ∉ x) → splitC c (lined c l) = l ++ [[]]
  | [], _ => rfl
  | x :: l, h => by
    have e : lined c (x :: l) = x ++ c :: lined c l := by simp [lined]
    rw [e, splitC_sep c x _ (h x (by simp)), split_lined c l (fun y hy => h y (by simp [hy]))]
    rfl
theorem splitC_end (c : UInt8) (t : Str) : splitC c (t ++ [c]) = splitC c t ++ [[]] := by
  rw [← splitR_eq, ← splitR_eq]; simp [splitR, splitStep]
theorem splitC_end_ne (c b : UInt8) (t : Str) (h : b ≠ c) : ∃ l x, splitC c (t ++ [b]) = l ++ [x] ∧ x ≠ [] := by
  have h2 : (b == c) = false := by simpa using h
  rw [← splitR_eq]
  exact ⟨_, _, rfl, by simp [splitStep, h2]⟩

/-! ### lines -/
def linesP (s : Str) : Option (List Str) := if s == [] then some [] else if !Go.Lib.hasSuffix s [10] then none else some (splitC 10 (s.take (s.length - 1)))
def linesR (s : Str) : List Str × Bool := ((splitC 10 s).take ((splitC 10 s).length - 1), (splitC 10 s).getD ((splitC 10 s).length - 1) [] == [])
theorem snoc_cases {α : Type} (s : List α) : s = [] ∨ ∃ t b, s = t ++ [b] := by
  rcases List.eq_nil_or_concat s with h | ⟨t, b, h⟩
  · exact .inl h
  · exact .inr ⟨t, b, by simpa using h⟩
theorem hasSuffix_snoc (t : Str) (b c : UInt8) : Go.Lib.hasSuffix (t ++ [b]) [c] = (b == c) := by
  rw [Bool.eq_iff_iff]
  simp [Go.Lib.hasSuffix, List.isSuffixOf, List.isPrefixOf]
  exact eq_comm
theorem lines_eq (s : Str) : match linesP s with
    | some l => linesR s = (l, true) ∧ s = lined 10 l ∧ ∀ x ∈ l, (10 : UInt8) ∉ x
    | none => (linesR s).2 = false := by
  rcases snoc_cases s with rfl | ⟨t, b, rfl⟩
  · simp [linesP, linesR, lined, splitC]
  · have h0 : (t ++ [b] == []) = false := by simp
    by_cases hb : b = 10
    · subst hb
      simp only [linesP, h0, hasSuffix_snoc, beq_self_eq_true, Bool.not_true, Bool.false_eq_true, if_false, List.length_append, List.length_singleton, Nat.add_sub_cancel, List.take_left']
      refine ⟨?_, (lined_split 10 t).symm, splitC_not 10 t⟩
      simp [linesR, splitC_end]
    · have h1 : (b == 10) = false := by simpa using hb
      simp only [linesP, h0, hasSuffix_snoc, h1, Bool.not_false, Bool.false_eq_true, if_false, if_true]
      obtain ⟨l, x, h2, h3⟩ := splitC_end_ne 10 b t hb
      simp [linesR, h2, h3]

/-! ### selections -/
abbrev Sel := Str × Bool × Str
def wManual : Str := [109, 97, 110, 117, 97, 108]
def wAuto : Str := [97, 117, 116, 111]
def modeW (b : Bool) : Str := if b then wManual else wAuto
def selBody (x : Sel) : Str := x.1 ++ 32 :: (modeW x.2.1 ++ 32 :: x.2.2)
def selLine (x : Sel) : Str := selBody x ++ [10]
def printS (ok : Sel → Bool) (l : List Sel) : Str × Int := if l.length > 64 then ([], 22) else if l.all ok then ((l.map selLine).flatten, 0) else ([], 1)
def selP (l : Str) : Option Sel := if !((splitC 32 l).length == 3) || !((splitC 32 l).getD 1 [] == modeW ((splitC 32 l).getD 1 [] == wManual)) then none else some ((splitC 32 l).getD 0 [], (splitC 32 l).getD 1 [] == wManual, (splitC 32 l).getD 2 [])
def wordsL (l : Str) : List Str := (splitC 32 l).filter fun p => !(p == [])
def selR (l : Str) : Option Sel := if !((wordsL l).length == 3) then none else some ((wordsL l).getD 0 [], (wordsL l).getD 1 [] == wManual, (wordsL l).getD 2 [])
def parseP (ok : Sel → Bool) (s : Str) : Option (List Sel) := match linesP s with
  | none => none
  | some ls => match ls.mapM selP with
    | none => none
    | some out => if (printS ok out).2 != 0 then none else some out
def parseR (ok : Sel → Bool) (s : Str) : Option (List Sel) := match (linesR s).1.mapM selR with
  | none => none
  | some out => if !(linesR s).2 || (printS ok out).2 != 0 || (printS ok out).1 != s then none else some out

def good (s : Str) : Prop := s ≠ [] ∧ (32 : UInt8) ∉ s ∧ (10 : UInt8) ∉ s
theorem mode_good (b : Bool) : good (modeW b) := by cases b <;> simp [good, modeW, wManual, wAuto]
theorem mode_back (b : Bool) : (modeW b == wManual) = b := by cases b <;> rfl
theorem body_no10 {x : Sel} (h1 : good x.1) (h2 : good x.2.2) : (10 : UInt8) ∉ selBody x := by
  have h3 := (mode_good x.2.1).2.2
  simp [selBody, h1.2.2, h2.2.2, h3]
theorem body_split {x : Sel} (h1 : good x.1) (h2 : good x.2.2) : splitC 32 (selBody x) = [x.1, modeW x.2.1, x.2.2] := by
  rw [selBody, splitC_sep _ _ _ h1.2.1, splitC_sep _ _ _ (mode_good _).2.1, splitC_no _ _ h2.2.1]
theorem selP_body {x : Sel} (h1 : good x.1) (h2 : good x.2.2) : selP (selBody x) = some x := by
  simp only [selP, body_split h1 h2]
  simp [mode_back]
theorem selP_some {l : Str} {x : Sel} (h : selP l = some x) : l = selBody x ∧ splitC 32 l = [x.1, modeW x.2.1, x.2.2] := by
  unfold selP at h
  split at h
  · cases h
  · rename_i hc
    simp only [Bool.or_eq_true, not_or, Bool.not_eq_true', Bool.not_eq_false, Bool.not_eq_true, Bool.not_eq_eq_eq_not, Bool.not_false, beq_iff_eq] at hc
    obtain ⟨h3, h4⟩ := hc
    match hs : splitC 32 l, h3 with
    | [a, b, c], _ =>
      rw [hs] at h h4
      simp at h h4
      subst h
      have hl := lined_split 32 l
      rw [hs] at hl
      refine ⟨?_, ?_⟩
      · have : l ++ [32] = (a ++ 32 :: (b ++ 32 :: c)) ++ [32] := by rw [← hl]; simp [lined]
        have := List.append_cancel_right this
        rw [this]
        simp only [selBody]
        rw [← h4]
      · rw [← h4]
theorem mapM_body {f : Str → Option Sel} : ∀ {ls : List Str} {out : List Sel}, ls.mapM f = some out → (∀ l ∈ ls, ∀ x, f l = some x → l = selBody x) → lined 10 ls = (out.map selLine).flatten
  | [], out, h, _ => by simp at h; subst h; rfl
  | a :: l, out, h, hf => by
    simp only [List.mapM_cons, Option.bind_eq_bind, Option.pure_def, Option.bind_eq_some_iff, Option.some.injEq] at h
    obtain ⟨b, hb, bs, hbs, rfl⟩ := h
    have ih := mapM_body hbs (fun l hl => hf l (by simp [hl]))
    have e := hf a (by simp) b hb
    simp only [lined] at ih
    simp only [lined, List.map_cons, List.flatten_cons, ih, selLine, e]
theorem mapM_bodies : ∀ {out : List Sel}, (∀ x ∈ out, good x.1 ∧ good x.2.2) → (out.map selBody).mapM selP = some out
  | [], _ => rfl
  | x :: out, h => by
    have h1 := h x (by simp)
    have ih := mapM_bodies (out := out) (fun y hy => h y (List.mem_cons_of_mem _ hy))
    simp [List.mapM_cons, selP_body h1.1 h1.2, ih]
theorem mapM_congr {f g : Str → Option Sel} : ∀ {ls : List Str} {out : List Sel}, ls.mapM f = some out → (∀ l ∈ ls, ∀ x ∈ out, f l = some x → g l = some x) → ls.mapM g = some out
  | [], out, h, _ => by simp at h; subst h; rfl
  | a :: l, out, h, hf => by
    simp only [List.mapM_cons, Option.bind_eq_bind, Option.pure_def, Option.bind_eq_some_iff, Option.some.injEq] at h
    obtain ⟨b, hb, bs, hbs, rfl⟩ := h
    have ih := mapM_congr hbs (fun l hl x hx => hf l (by simp [hl]) x (by simp [hx]))
    simp only [List.mapM_cons, hf a (by simp) b (by simp) hb, ih]
    rfl
theorem print_ok {ok : Sel → Bool} {l : List Sel} (h : (printS ok l).2 = 0) : printS ok l = ((l.map selLine).flatten, 0) ∧ ∀ x ∈ l, ok x = true := by
  unfold printS at h ⊢
  split at h
  · simp at h
  · rename_i h1
    split at h
    · rename_i h2
      rw [if_neg h1, if_pos h2]
      exact ⟨rfl, by simpa using h2⟩
    · simp at h
theorem lined_inj {l m : List Str} (h1 : ∀ x ∈ l, (10 : UInt8) ∉ x) (h2 : ∀ x ∈ m, (10 : UInt8) ∉ x) (h : lined 10 l = lined 10 m) : l = m := by
  have := congrArg (splitC 10) h
  rw [split_lined _ _ h1, split_lined _ _ h2] at this
  exact List.append_cancel_right this

theorem parse_law (ok : Sel → Bool) (hok : ∀ x, ok x = true → good x.1 ∧ good x.2.2) (s : Str) :
    parseP ok s = parseR ok s ∧ ∀ out, parseP ok s = some out → printS ok out = (s, 0) := by
  have hl := lines_eq s
  have hP : ∀ out, parseP ok s = some out → printS ok out = (s, 0) ∧ parseR ok s = some out := by
    intro out h
    unfold parseP at h
    cases h1 : linesP s with
    | none => rw [h1] at h; cases h
    | some ls =>
      rw [h1] at h hl
      simp only at h hl
      cases h2 : ls.mapM selP with
      | none => rw [h2] at h; cases h
      | some o =>
        rw [h2] at h
        simp only [bne_iff_ne, ne_eq, ite_not] at h
        split at h
        · rename_i h3
          cases h
          obtain ⟨h4, h5⟩ := print_ok h3
          obtain ⟨g1, g2, g3⟩ := hl
          have e := mapM_body h2 (fun l _ x hx => (selP_some hx).1)
          have e2 : printS ok out = (s, 0) := by rw [h4, ← e, ← g2]
          refine ⟨e2, ?_⟩
          have e3 : ls.mapM selR = some out := mapM_congr h2 (fun l _ x hx hs => by
            obtain ⟨k1, k2⟩ := hok x (h5 x hx)
            have k3 := (selP_some hs).2
            have k4 : wordsL l = [x.1, modeW x.2.1, x.2.2] := by
              have := (mode_good x.2.1).1
              simp [wordsL, k3, k1.1, k2.1, this]
            simp only [selR, k4]
            simp [mode_back])
          simp [parseR, g1, e3, e2]
        · cases h
  have hR : ∀ out, parseR ok s = some out → parseP ok s = some out := by
    intro out h
    unfold parseR at h
    cases h2 : (linesR s).1.mapM selR with
    | none => rw [h2] at h; cases h
    | some o =>
      rw [h2] at h
      simp only at h
      split at h
      · cases h
      · rename_i hc
        cases h
        simp only [Bool.or_eq_true, not_or, Bool.not_eq_true, Bool.not_eq_false', bne_eq_false_iff_eq, Bool.not_eq_eq_eq_not, Bool.not_false, bne_iff_ne, ne_eq, Decidable.not_not] at hc
        obtain ⟨⟨c1, c2⟩, c3⟩ := hc
        cases h1 : linesP s with
        | none => rw [h1] at hl; simp only at hl; rw [hl] at c1; exact absurd rfl c1
        | some ls =>
          rw [h1] at hl
          simp only at hl
          obtain ⟨g1, g2, g3⟩ := hl
          rw [g1] at h2
          obtain ⟨h4, h5⟩ := print_ok c2
          have e : lined 10 ls = lined 10 (out.map selBody) := by
            rw [← g2, ← c3, h4]
            simp [lined, selLine, Function.comp_def]; rfl
          have e2 : ls = out.map selBody := lined_inj g3 (fun x hx => by
            obtain ⟨y, hy, rfl⟩ := List.mem_map.1 hx
            obtain ⟨k1, k2⟩ := hok y (h5 y hy)
            exact body_no10 k1 k2) e
          have e3 : ls.mapM selP = some out := by rw [e2]; exact mapM_bodies (fun x hx => hok x (h5 x hx))
          simp [parseP, h1, e3, c2]
  refine ⟨?_, fun out h => (hP out h).1⟩
  cases h : parseP ok s with
  | some out => exact (hP out h).2.symm
  | none =>
    cases h2 : parseR ok s with
    | none => rfl
    | some out => rw [hR out h2] at h; cases h
theorem print_back (ok : Sel → Bool) (hok : ∀ x, ok x = true → good x.1 ∧ good x.2.2) {l : List Sel} (h : (printS ok l).2 = 0) : parseP ok (printS ok l).1 = some l := by
  obtain ⟨h4, h5⟩ := print_ok h
  have e : (printS ok l).1 = lined 10 (l.map selBody) := by rw [h4]; simp [lined, selLine, Function.comp_def]; rfl
  have hb : ∀ x ∈ l.map selBody, (10 : UInt8) ∉ x := fun x hx => by
    obtain ⟨y, hy, rfl⟩ := List.mem_map.1 hx
    obtain ⟨k1, k2⟩ := hok y (h5 y hy)
    exact body_no10 k1 k2
  have hl := lines_eq (printS ok l).1
  unfold parseP
  cases h1 : linesP (printS ok l).1 with
  | none =>
    rw [h1] at hl
    simp only at hl
    rw [e] at hl
    simp [linesR, split_lined _ _ hb] at hl
  | some ls =>
    rw [h1] at hl
    simp only at hl
    obtain ⟨g1, g2, g3⟩ := hl
    have e2 : ls = l.map selBody := lined_inj g3 hb (by rw [← g2, e])
    have e3 : ls.mapM selP = some l := by rw [e2]; exact mapM_bodies (fun x hx => hok x (h5 x hx))
    simp [e3, h]
end Go.Ag
/- AGo, plain answers: names and paths. -/
namespace Go.Ag
open Go

def strs (l : List Str) : V := .list 1 (l.map fun s => [.str s])

def wordB (c : UInt8) : Bool := (decide ((c.toNat : Int) ≥ 97) && decide ((c.toNat : Int) ≤ 122)) || (decide ((c.toNat : Int) ≥ 48) && decide ((c.toNat : Int) ≤ 57))
def markB (c : UInt8) : Bool := ((c.toNat : Int) == 43) || ((c.toNat : Int) == 45) || ((c.toNat : Int) == 46)
def nameAt (s : Str) (i : Nat) : Bool := wordB (s.getD i 0) || (!((i : Int) == 0) && markB (s.getD i 0))
def nameOk (s : Str) : Bool := !((s.length : Int) == 0) && !decide ((s.length : Int) > 60) && (List.range s.length).all (nameAt s)
def dullAt (s : Str) (i : Nat) : Bool := decide (((s.getD i 0).toNat : Int) < 33) || decide (((s.getD i 0).toNat : Int) > 126)
def plainOk (s : Str) : Bool := (List.range s.length).all (fun i => !dullAt s i) && Lib.hasPrefix s [47]
def cleanOut (s : Str) : Str := 47 :: Lib.join (cleanL s) [47]
def clean (s : Str) : Str × Int := if plainOk s then (if (cleanOut s).length > 200 then ([], 8) else (cleanOut s, 0)) else ([], 1)
def pathRight (s : Str) : Bool := (clean s).2 == 0 && (clean s).1 == s
def selOk (x : Sel) : Bool := nameOk x.1 && pathRight x.2.2

/-! ### the document's -/
def smallB (c : UInt8) : Bool := decide ((c.toNat : Int) ≥ 97) && decide ((c.toNat : Int) ≤ 122)
def digitB (c : UInt8) : Bool := decide ((c.toNat : Int) ≥ 48) && decide ((c.toNat : Int) ≤ 57)
def nameBadR (s : Str) (i : Nat) : Bool := (!smallB (s.getD i 0) && !digitB (s.getD i 0) && !markB (s.getD i 0)) || (markB (s.getD i 0) && ((i : Int) == 0))
def nameOkR (s : Str) : Bool := (List.range s.length).all (fun i => !nameBadR s i) && (decide ((s.length : Int) ≥ 1) && decide ((s.length : Int) ≤ 60))
theorem nameOkR_eq (s : Str) : nameOkR s = nameOk s := by
  have h : (fun i => !nameBadR s i) = nameAt s := by
    funext i
    have hw : wordB (s.getD i 0) = (smallB (s.getD i 0) || digitB (s.getD i 0)) := rfl
    have hm : markB (s.getD i 0) = true → smallB (s.getD i 0) = false ∧ digitB (s.getD i 0) = false := by
      intro hm
      simp only [markB, Bool.or_eq_true, beq_iff_eq] at hm
      simp only [smallB, digitB, Bool.and_eq_false_iff, decide_eq_false_iff_not]
      omega
    simp only [nameBadR, nameAt, hw]
    cases h1 : smallB (s.getD i 0) <;> cases h2 : digitB (s.getD i 0) <;> cases h3 : markB (s.getD i 0) <;> cases h4 : ((i : Int) == 0) <;> simp_all
  rw [nameOkR, nameOk, h, Bool.and_comm]
  congr 1
  have h1 : decide ((s.length : Int) ≥ 1) = !((s.length : Int) == 0) := by
    rw [Bool.eq_iff_iff]; simp only [decide_eq_true_eq, Bool.not_eq_true', beq_eq_false_iff_ne, ne_eq]; omega
  have h2 : decide ((s.length : Int) ≤ 60) = !decide ((s.length : Int) > 60) := by
    rw [Bool.eq_iff_iff]; simp
  rw [h1, h2]
theorem all_at {s : Str} {p : Str → Nat → Bool} (h : (List.range s.length).all (p s) = true) {b : UInt8} (hb : b ∈ s) : ∃ i, p s i = true ∧ s.getD i 0 = b := by
  obtain ⟨i, hi, rfl⟩ := List.getElem_of_mem hb
  simp only [List.all_eq_true, List.mem_range] at h
  exact ⟨i, h i hi, by simp [List.getD_eq_getElem?_getD, hi]⟩
theorem name_good {s : Str} (h : nameOk s = true) : good s := by
  simp only [nameOk, Bool.and_eq_true] at h
  obtain ⟨⟨h1, h2⟩, h3⟩ := h
  have key : ∀ b ∈ s, b ≠ 32 ∧ b ≠ 10 := by
    intro b hb
    obtain ⟨i, h4, rfl⟩ := all_at (p := nameAt) h3 hb
    simp only [nameAt, wordB, markB, Bool.or_eq_true, Bool.and_eq_true, decide_eq_true_eq, beq_iff_eq] at h4
    constructor <;> intro e <;> rw [e] at h4 <;> simp at h4
  refine ⟨?_, fun e => (key _ e).1 rfl, fun e => (key _ e).2 rfl⟩
  intro e; subst e; simp at h1
theorem plain_good {s : Str} (h : plainOk s = true) : good s := by
  simp only [plainOk, Bool.and_eq_true] at h
  obtain ⟨h3, h1⟩ := h
  have key : ∀ b ∈ s, b ≠ 32 ∧ b ≠ 10 := by
    intro b hb
    obtain ⟨i, h4, rfl⟩ := all_at (p := fun s i => !dullAt s i) h3 hb
    simp only [dullAt, Bool.not_eq_true', Bool.or_eq_false_iff, decide_eq_false_iff_not] at h4
    constructor <;> intro e <;> rw [e] at h4 <;> simp at h4
  refine ⟨?_, fun e => (key _ e).1 rfl, fun e => (key _ e).2 rfl⟩
  intro e; subst e; simp [Lib.hasPrefix] at h1
theorem right_plain {s : Str} (h : pathRight s = true) : plainOk s = true := by
  cases hp : plainOk s with
  | true => rfl
  | false => simp [pathRight, clean, hp] at h
theorem sel_good (x : Sel) (h : selOk x = true) : good x.1 ∧ good x.2.2 := by
  simp only [selOk, Bool.and_eq_true] at h
  exact ⟨name_good h.1, plain_good (right_plain h.2)⟩

/-! ### lengths -/
def tot (l : List Str) : Nat := (lined 47 l).length
theorem tot_cons (x : Str) (l : List Str) : tot (x :: l) = x.length + 1 + tot l := by simp [tot, lined]; omega
theorem tot_append (a b : List Str) : tot (a ++ b) = tot a + tot b := by simp [tot, lined]
theorem tot_len : ∀ l : List Str, l.length ≤ tot l
  | [] => Nat.zero_le _
  | x :: l => by have := tot_len l; rw [tot_cons, List.length_cons]; omega
theorem tot_take (l : List Str) (k : Nat) : tot (l.take k) ≤ tot l := by
  have := tot_append (l.take k) (l.drop k)
  rw [List.take_append_drop] at this; omega
theorem tot_filter (p : Str → Bool) : ∀ l : List Str, tot (l.filter p) ≤ tot l
  | [] => Nat.le_refl _
  | x :: l => by
    have := tot_filter p l
    rw [List.filter_cons]
    split
    · rw [tot_cons, tot_cons]; omega
    · rw [tot_cons]; omega
theorem tot_parts (s : Str) : tot (parts s) ≤ s.length + 1 := by
  refine Nat.le_trans (tot_filter _ _) ?_
  rw [tot, lined_split]; simp
theorem tot_step (left : List Str) (p : Str) : tot (cleanStep left p) ≤ tot left + (p.length + 1) := by
  unfold cleanStep
  split
  · omega
  · split
    · have := tot_take left (max left.length 1 - 1); omega
    · rw [tot_append, tot_cons]; simp [tot, lined]
theorem tot_fold : ∀ (l left : List Str), tot (l.foldl cleanStep left) ≤ tot left + tot l
  | [], left => by simp [tot, lined]
  | p :: l, left => by
    have h1 := tot_fold l (cleanStep left p)
    have h2 := tot_step left p
    rw [List.foldl_cons, tot_cons]; omega
theorem tot_clean (s : Str) (i : Nat) : tot (((parts s).take i).foldl cleanStep []) ≤ s.length + 1 := by
  have h1 := tot_fold ((parts s).take i) []
  have h2 := tot_take (parts s) i
  have h3 := tot_parts s
  have h4 : tot [] = 0 := rfl
  omega
theorem tot_cleanL (s : Str) : tot (cleanL s) ≤ s.length + 1 := by
  have h1 := tot_fold (parts s) []
  have h3 := tot_parts s
  have h4 : tot [] = 0 := rfl
  rw [cleanL]
  omega
theorem joined_tot : ∀ l : List Str, (joined l).length = tot l := by
  intro l
  induction l with
  | nil => rfl
  | cons x l ih => rw [tot_cons, ← ih]; simp [joined]; omega
theorem join_tot (l : List Str) : (Lib.join l [47]).length ≤ tot l := by
  cases l with
  | nil => exact Nat.zero_le _
  | cons x l =>
    have h : (47 :: Lib.join (x :: l) [47]).length = (joined (x :: l)).length := by rw [join_joined _ (by simp)]
    have h2 : ∀ l : List Str, (joined l).length = tot l := by
      intro l
      induction l with
      | nil => rfl
      | cons x l ih => rw [tot_cons, ← ih]; simp [joined]; omega
    rw [h2] at h
    simp only [List.length_cons] at h
    omega
theorem parts_len (s : Str) : (parts s).length ≤ s.length + 1 := Nat.le_trans (tot_len _) (tot_parts s)
end Go.Ag
/- AGo, part 20: more ends of calls. -/
namespace Go.Ag
open Go Go.RowKit

theorem Fin.le {E : Env} {n : Nat} {l : List (Nat × D)} {H : List Ob} {s : Tmp} {K : D → List Ob → Prop} (d : D) (hs : s < n) (hd : D.le (look l s) d) (h : K d H) : Fin E (fr n l) H [s] K :=
  Fin.ent (Ent.weakFr (l' := [(s, d)]) ⟨hd, trivial⟩) (Fin.is d hs (by simp only [look_cons, ↓reduceIte, if_true]) h)
theorem Fin.le2 {E : Env} {n : Nat} {l : List (Nat × D)} {H : List Ob} {s t : Tmp} {K : D → List Ob → Prop} (d e : D) (hs : s < n) (ht : t < n) (hst : s ≠ t) (hd : D.le (look l s) d) (he : D.le (look l t) e) (h : K (.tup [d, e]) H) : Fin E (fr n l) H [s, t] K :=
  Fin.ent (Ent.weakFr (l' := [(s, d), (t, e)]) ⟨hd, he, trivial⟩) (Fin.is2 d e hs ht (by simp only [look_cons, ↓reduceIte, if_true]) (by simp only [look_cons, hst.symm, ↓reduceIte, if_true]) h)
theorem Fin.gcle {E : Env} {n : Nat} {l : List (Nat × D)} {L : List Ob} {s : Tmp} {K : D → List Ob → Prop} (d : D) (hE : E.Closed) (hs : s < n) (hd : D.le (look l s) d) (hl : D.lt E.H0.length d) (h : K d E.H0) : Fin E (fr n l) (E.H0 ++ L) [s] K :=
  Fin.ent (Ent.weakFr (l' := [(s, d)]) ⟨hd, trivial⟩) (Fin.gc d hE hs (by simp only [look_cons, ↓reduceIte, if_true]) hl h)
theorem Fin.gcle2 {E : Env} {n : Nat} {l : List (Nat × D)} {L : List Ob} {s t : Tmp} {K : D → List Ob → Prop} (d e : D) (hE : E.Closed) (hs : s < n) (ht : t < n) (hst : s ≠ t) (hd : D.le (look l s) d) (he : D.le (look l t) e) (hl : D.lt E.H0.length d) (hm : D.lt E.H0.length e) (h : K (.tup [d, e]) E.H0) : Fin E (fr n l) (E.H0 ++ L) [s, t] K :=
  Fin.ent (Ent.weakFr (l' := [(s, d), (t, e)]) ⟨hd, he, trivial⟩) (Fin.gc2 d e hE hs ht hst (by simp only [look_cons, ↓reduceIte, if_true]) (by simp only [look_cons, hst.symm, ↓reduceIte, if_true]) hl hm h)

theorem Fin.acs {E : Env} {n m sz : Nat} {l : List (Nat × D)} {L : List Ob} {s : Tmp} {ys : List (List V)} {d : D} {K : D → List Ob → Prop} (hE : E.Closed) (hA : Acs E m sz ys d L) (hs : s < n) (hd : look l s = d) (h : K (.v (.list sz ys)) E.H0) : Fin E (fr n l) (E.H0 ++ L) [s] K :=
  Fin.ent (Ent.acs s [] hE hA hd trivial trivial) (Fin.is _ hs (by simp only [look_cons, ↓reduceIte, if_true]) h)

/-! ### plain -/
theorem byteEq (b : UInt8) (n : Nat) (h : n < 256) : ((b.toNat : Int) == (n : Int)) = (b == UInt8.ofNat n) := by
  rw [Bool.eq_iff_iff, beq_iff_eq, beq_iff_eq]
  constructor
  · intro e
    have e : b.toNat = n := Int.ofNat.inj e
    rw [← e]; simp
  · rintro rfl
    simp; omega
theorem len3 {α : Type} : ∀ {l : List α}, l.length = 3 → ∃ a b c, l = [a, b, c]
  | [a, b, c], _ => ⟨a, b, c, rfl⟩
theorem mem_lined (c : UInt8) : ∀ {l : List Str} {x : Str}, x ∈ l → x.length + 1 ≤ (lined c l).length
  | [], x, h => by cases h
  | y :: l, x, h => by
    have e : (lined c (y :: l)).length = y.length + 1 + (lined c l).length := by simp [lined]; omega
    rw [e]
    rcases List.mem_cons.1 h with rfl | h
    · omega
    · have := mem_lined c h; omega
theorem split_mem {c : UInt8} {s x : Str} (h : x ∈ splitC c s) : x.length ≤ s.length := by
  have h1 := mem_lined c h
  rw [lined_split] at h1; simp at h1; omega
theorem lines_mem {s : Str} {l : List Str} (h : linesP s = some l) : (∀ x ∈ l, x.length ≤ s.length) ∧ l.length ≤ s.length := by
  have h1 := lines_eq s
  rw [h] at h1
  obtain ⟨_, h2, _⟩ := h1
  refine ⟨fun x hx => by have := mem_lined 10 hx; rw [← h2] at this; omega, ?_⟩
  have : ∀ l : List Str, l.length ≤ (lined 10 l).length := by
    intro l
    induction l with
    | nil => exact Nat.zero_le _
    | cons x l ih => simp only [lined, List.map_cons, List.flatten_cons, List.length_append, List.length_cons] at ih ⊢; omega
  rw [h2]; exact this l
theorem mapM_snoc {α β : Type} {f : α → Option β} (a : List α) (x : α) : (a ++ [x]).mapM f = (a.mapM f).bind fun r => (f x).bind fun y => some (r ++ [y]) := by
  rw [List.mapM_append]
  cases a.mapM f <;> cases h : f x <;> simp [h]
theorem mapM_take {α β : Type} {f : α → Option β} {l : List α} {i : Nat} {x : α} {r : List β} (hx : l[i]? = some x) (h : (l.take i).mapM f = some r) : (l.take (i + 1)).mapM f = (f x).bind fun y => some (r ++ [y]) := by
  rw [List.take_add_one, hx, Option.toList_some, mapM_snoc, h]; rfl
theorem mapM_none {α β : Type} {f : α → Option β} {l : List α} (i : Nat) (h : (l.take i).mapM f = none) : l.mapM f = none := by
  rw [← List.take_append_drop i l, List.mapM_append, h]; rfl
theorem mapM_len {α β : Type} {f : α → Option β} : ∀ {l : List α} {r : List β}, l.mapM f = some r → r.length = l.length
  | [], r, h => by simp at h; subst h; rfl
  | a :: l, r, h => by
    simp only [List.mapM_cons, Option.bind_eq_bind, Option.pure_def, Option.bind_eq_some_iff, Option.some.injEq] at h
    obtain ⟨b, hb, bs, hbs, rfl⟩ := h
    simp [mapM_len hbs]
theorem mapM_all {α β : Type} {f : α → Option β} (p : β → Prop) : ∀ {l : List α} {r : List β}, l.mapM f = some r → (∀ x ∈ l, ∀ y, f x = some y → p y) → ∀ y ∈ r, p y
  | [], r, h, _ => by simp at h; subst h; simp
  | a :: l, r, h, hp => by
    simp only [List.mapM_cons, Option.bind_eq_bind, Option.pure_def, Option.bind_eq_some_iff, Option.some.injEq] at h
    obtain ⟨b, hb, bs, hbs, rfl⟩ := h
    intro y hy
    rcases List.mem_cons.1 hy with rfl | hy
    · exact hp a (by simp) _ hb
    · exact mapM_all p hbs (fun x hx => hp x (by simp [hx])) y hy
theorem selP_len {l : Str} {x : Sel} (h : selP l = some x) : x.1.length ≤ l.length ∧ x.2.2.length ≤ l.length := by
  have h1 := (selP_some h).1
  rw [h1]; simp [selBody]; omega
end Go.Ag
/- AGo, part 25: results that lie in a box. -/
namespace Go.Ag
open Go Go.RowKit

def retA (P : Program) (ts : List D) (H : List Ob) : List ResultVar → (List D → Prop) → Prop
  | [], K => K []
  | .tmp s :: rs, K => retA P ts H rs fun ds => K (ts.getD s (.tup []) :: ds)
  | .cell ad t :: rs, K => ∃ b o, ts.getD ad (.tup []) = .ptr b o ∧ aLoad P t (.ptr b o) H fun d => retA P ts H rs fun ds => K (d :: ds)
def oneD : List D → D
  | [d] => d
  | ds => .tup ds
theorem resVal_run {E : Env} {M : Mem} {μ : Mu} {H : List Ob} {w : World} {ts : List D} {a : Array Value} (h : R E M μ H w) (ht : RelL M μ ts a.toList) :
    ∀ (rs : List ResultVar) (K : List D → Prop), retA E.P ts H rs K →
      ∃ vs ds, (rs.mapM (fun x => match x with | ResultVar.tmp t => (pure (a.getD t undef) : Sem Value) | ResultVar.cell ad t => (do loadVar t (← asAddr (a.getD ad undef)) : Sem Value))).run E.P w = Result.ok vs w ∧ RelL M μ ds vs ∧ K ds
  | [], K, k => ⟨[], [], by simp, by simp [RelL], k⟩
  | .tmp s :: rs, K, k => by
    obtain ⟨vs, ds, h1, h2, h3⟩ := resVal_run h ht rs _ k
    refine ⟨a.getD s undef :: vs, _, ?_, ?_, h3⟩
    · simp only [List.mapM_cons, Sem.run_bind, Sem.run_pure, Result.andThen_ok, h1]
    · rw [RelL.cons_iff]; exact ⟨getD_rel ht s, h2⟩
  | .cell ad t :: rs, K, k => by
    obtain ⟨b, o, hb, k⟩ := k
    have hr := getD_rel ht ad
    rw [hb] at hr
    obtain ⟨v, d, g1, g2, g3⟩ := aLoad_sound h hr k
    obtain ⟨vs, ds, h1, h2, h3⟩ := resVal_run h ht rs _ g3
    simp only [Rel] at hr
    obtain ⟨p, hp, _, hy⟩ := hr
    rw [hy] at g1
    refine ⟨v :: vs, d :: ds, ?_, by rw [RelL.cons_iff]; exact ⟨g2, h2⟩, h3⟩
    have g1' : (loadVar t ⟨p.blk, o, none⟩).run E.P w = .ok v w := by
      simpa only [Instr.loadAt, Instr.sureAddr, Sem.run_bind, Sem.run_pure, Result.andThen_ok] using g1
    have hA : asAddr (a.getD ad undef) = pure ⟨p.blk, o, none⟩ := by rw [hy]; rfl
    simp only [List.mapM_cons, hA, Sem.run_bind, Sem.run_pure, Result.andThen_ok, g1', h1]
theorem RelL.cons {M : Mem} {μ : Mu} {d : D} {ds : List D} {vs : List Value} : RelL M μ (d :: ds) vs = ∃ v vs', vs = v :: vs' ∧ Rel M μ d v ∧ RelL M μ ds vs' := by simp only [RelL]
theorem args_fr {E : Env} {n : Nat} {args : List D} {H : List Ob} (hl : args.length ≤ n) : Ent E (args ++ List.replicate (n - args.length) (D.tup [])) H (fr n (args0 0 args)) H := by
  refine Ent.weak ?_
  have hlen : (args ++ List.replicate (n - args.length) (D.tup [])).length = n := by simp; omega
  have e : args ++ List.replicate (n - args.length) (D.tup []) = (List.range n).map fun i => (args ++ List.replicate (n - args.length) (D.tup [])).getD i (.tup []) := by
    apply List.ext_getElem?
    intro i
    rw [List.getElem?_map]
    by_cases hi : i < n
    · rw [List.getElem?_range hi, List.getElem?_eq_getElem (by omega)]
      simp only [Option.map_some, List.getD_eq_getElem?_getD]
      rw [List.getElem?_eq_getElem (by omega)]; rfl
    · rw [List.getElem?_eq_none (by omega), List.getElem?_eq_none (by simp; omega)]; rfl
  rw [e]
  refine leL_map _ _ _ fun i => ?_
  by_cases hi : i < args.length
  · have h1 := look_args args 0 i args[i] (List.getElem?_eq_getElem hi)
    rw [Nat.zero_add] at h1
    rw [h1, List.getD_eq_getElem?_getD, List.getElem?_append_left hi, List.getElem?_eq_getElem hi]
    exact D.le_refl _
  · have h1 := look_args_none args 0 i (by omega)
    rw [Nat.zero_add] at h1
    rw [h1]; exact D.le_any _
def oneV : List Value → Value
  | [v] => v
  | vs => .tuple vs.toArray
theorem resAll_run {P : Program} {w : World} {fn : Func} {a : Array Value} {vs : List Value} (h : (fn.results.toList.mapM (fun x => match x with | ResultVar.tmp t => (pure (a.getD t undef) : Sem Value) | ResultVar.cell ad t => (do loadVar t (← asAddr (a.getD ad undef)) : Sem Value))).run P w = Result.ok vs w) :
    (results fn a).run P w = Result.ok (oneV vs) w := by
  have e : (fun r : Result (List Value) => (r.andThen fun a w' => Result.ok a.toArray w').andThen fun a w' => Result.ok (if h : a.size = 1 then a[0] else Value.tuple a) w') (Result.ok vs w) = Result.ok (oneV vs) w := by
    match vs with
    | [] => rfl
    | [v] => rfl
    | v :: v' :: vs => rfl
  unfold results
  rw [Array.mapM_eq_mapM_toList]
  simp only [Sem.run_bind, Sem.run_map, Sem.run_pure]
  exact (congrArg (fun r : Result (List Value) => (r.andThen fun a w' => Result.ok a.toArray w').andThen fun a w' => Result.ok (if h : a.size = 1 then a[0] else Value.tuple a) w') h).trans e
theorem rel_one {M : Mem} {μ : Mu} : ∀ {ds : List D} {vs : List Value}, RelL M μ ds vs → Rel M μ (oneD ds) (oneV vs)
  | [], vs, h => by
    simp only [RelL] at h; subst h
    simp only [oneD, oneV, Rel]
    exact ⟨[], rfl, by simp [RelL]⟩
  | [d], vs, h => by
    rw [RelL.cons] at h
    obtain ⟨v, vs, rfl, h1, h2⟩ := h
    simp only [RelL] at h2; subst h2
    exact h1
  | d :: d' :: ds, vs, h => by
    have h0 := h
    rw [RelL.cons] at h
    obtain ⟨v, vs, rfl, h1, h2⟩ := h
    rw [RelL.cons] at h2
    obtain ⟨v', vs, rfl, h3, h4⟩ := h2
    simp only [oneD, oneV, Rel]
    exact ⟨v :: v' :: vs, rfl, h0⟩

def FinR (E : Env) (ts : List D) (H : List Ob) (rs : List ResultVar) (K : D → List Ob → Prop) : Prop := retA E.P ts H rs fun ds => ∃ ds' H', Ent E ds H ds' H' ∧ K (oneD ds') H'
@[congr] theorem FinR_cg {E : Env} {ts ts' : List D} {H H' : List Ob} {s : List ResultVar} {K : D → List Ob → Prop} (h1 : ts = ts') (h2 : H = H') : FinR E ts H s K = FinR E ts' H' s K := by subst h1 h2; rfl
def OutR (E : Env) (rs : List ResultVar) (K : D → List Ob → Prop) : Exit → List D → List Ob → Prop
  | .normal, ts, H => FinR E ts H rs K
  | .ret, ts, H => FinR E ts H rs K
  | _, _, _ => False
theorem OutR_normal {E : Env} {rs : List ResultVar} {K : D → List Ob → Prop} {ts : List D} {H : List Ob} : OutR E rs K .normal ts H = FinR E ts H rs K := rfl
theorem OutR_ret {E : Env} {rs : List ResultVar} {K : D → List Ob → Prop} {ts : List D} {H : List Ob} : OutR E rs K .ret ts H = FinR E ts H rs K := rfl
theorem OutR_exit {E : Env} {rs : List ResultVar} {K : D → List Ob → Prop} {ts : List D} {H : List Ob} {i : Nat} : OutR E rs K (.exit i) ts H = False := rfl

/-- A function whose results may lie in boxes, from its body. -/
theorem ACalls.goR {P : Program} {G : Nat → Option (List V)} {f : FuncId} {args : List D} {H : List Ob} {K : D → List Ob → Prop} (fn : Func) (c : Code) (n : Nat) (rs : List ResultVar) (hf : P.funcs[f]? = some fn) (hb : fn.body = some c) (hn : fn.ntmps = n) (hc : callB P f = true) (hr : fn.results.toList = rs) (hl : args.length ≤ n)
    (h : ∀ E : Env, E.Closed → E.P = P → E.G = G → E.H0 = H → Sat E c (fr n (args0 0 args)) H (OutR E rs K)) : ACalls P G f args H K := by
  refine ACalls.ofB hc ?_
  rintro ⟨P', G', w0, M0, μ0, H0⟩ e1 e2 M μ w vs h1 h2
  simp only at e1 e2
  subst e1; subst e2
  have hcl : Env.Closed ⟨P', G', w0, M, μ, H⟩ := ⟨h1.tot, h1.dom, fun i o p ho hp => (h1.obj i o p ho hp).olt h1.dom⟩
  have hR : R ⟨P', G', w0, M, μ, H⟩ M μ H w := ⟨h1.below, h1.imm, h1.glob, h1.dom, h1.obj, h1.sep, h1.tot⟩
  have hlen := h2.length
  have hs := h ⟨P', G', w0, M, μ, H⟩ hcl rfl rfl rfl
  replace hs := sat_ent (args_fr hl) hs
  refine calls_of_wp hf hb (wp_mono (hs M μ w ⟨vs.toArray ++ Array.replicate (fn.ntmps - vs.toArray.size) undef, []⟩ (Mem.le.refl _) (Mu.le.refl _) hR ?_ rfl) ?_)
  · simp only [Array.toList_append, List.toList_toArray, Array.toList_replicate, List.size_toArray, hlen, hn]
    refine h2.append ?_
    generalize n - args.length = k
    induction k with
    | zero => simp [RelL]
    | succ k ih => rw [List.replicate_succ, List.replicate_succ, RelL.cons_iff]; exact ⟨by simp only [Rel, RelL]; exact ⟨[], rfl, rfl⟩, ih⟩
  · rintro e a' w' ⟨M', μ', ts', H', g1, g2, g3, g4, g5, g6⟩
    have key : (e = .normal ∨ e = .ret) ∧ FinR ⟨P', G', w0, M, μ, H⟩ ts' H' rs K := by
      cases e with
      | normal => exact ⟨.inl rfl, g6⟩
      | ret => exact ⟨.inr rfl, g6⟩
      | _ => exact g6.elim
    obtain ⟨ge, gf⟩ := key
    obtain ⟨vals, ds, k1, k2, ds', H2, k3, k4⟩ := resVal_run g3 g4 rs _ gf
    obtain ⟨M2, μ2, m1, m2, m3, m4⟩ := k3 M' μ' w' vals g1 g2 g3 k2
    rw [← hr] at k1
    have hfin : ∃ v, (results fn a'.tmps).run P' w' = .ok v w' ∧ ∃ v_1 d M' μ' H', Ending.returned v = .returned v_1 ∧ M.le M' ∧ μ.le μ' ∧ R ⟨P', G', w0, M0, μ0, H0⟩ M' μ' H' w' ∧ Rel M' μ' d v_1 ∧ K d H' :=
      ⟨_, resAll_run k1, _, _, M2, μ2, H2, rfl, m1, m2, ⟨m3.below, m3.imm, m3.glob, m3.dom, m3.obj, m3.sep, m3.tot⟩, rel_one m4, k4⟩
    rcases ge with rfl | rfl
    · exact ⟨g5, hfin⟩
    · exact ⟨g5, hfin⟩

/-- One result, a struct in a box of one's own, told whole. -/
theorem FinR.box {E : Env} {n : Nat} {l : List (Nat × D)} {L : List Ob} {ad : Tmp} {t : TypeId} {K : D → List Ob → Prop} {sz : Nat} (k : Nat) (cs : List V) (hE : E.Closed) (hs : ad < n) (hd : look l ad = .ptr (E.H0.length + k) 0)
    (hL : L[k]? = some (.box (cs.map .v))) (ht : (tk E.P t).row = some sz) (hc : cs.length = sz) (h : K (.agg (cs.map .v)) E.H0) : FinR E (fr n l) (E.H0 ++ L) [.cell ad t] K := by
  unfold FinR
  simp only [retA]
  refine ⟨E.H0.length + k, 0, by rw [getD_fr hs, hd], ?_⟩
  have hg : (E.H0 ++ L)[E.H0.length + k]? = some (.box (cs.map .v)) := by rw [hp_get]; exact hL
  simp only [aLoad, ht, hg]
  refine ⟨by simp [hc], [.agg (cs.map .v)], E.H0, ?_, ?_⟩
  · have e : (((cs.map D.v).drop 0).take sz) = cs.map .v := by rw [List.drop_zero, ← hc]; exact take_len_map _ _
    rw [e]
    have hlt : ∀ cs : List V, D.ltL E.H0.length (cs.map .v) := ltL_v _
    have g := Ent.gcFr (n := 1) (l := [(0, D.agg (cs.map .v))]) [] L hE ⟨by simp only [D.lt]; exact hlt cs, trivial⟩ trivial
    rw [List.append_nil] at g
    exact g
  · exact h

/-- Through a piece of code whose end is told by one thing more. -/
def ViaS {α : Type} (E : Env) (P : α → Prop) (ts' : α → List D) (H' : List Ob) : Exit → List D → List Ob → Prop
  | .normal, ts, H => ∃ a, P a ∧ Ent E ts H (ts' a) H'
  | _, _, _ => False
theorem ViaS_normal {α : Type} {E : Env} {P : α → Prop} {ts' : α → List D} {H' : List Ob} {ts : List D} {H : List Ob} : ViaS E P ts' H' .normal ts H = ∃ a, P a ∧ Ent E ts H (ts' a) H' := rfl
theorem sat_some {α : Type} {E : Env} {x y : Code} {ts : List D} {H : List Ob} {Q : Exit → List D → List Ob → Prop} (P : α → Prop) (ts' : α → List D) (H' : List Ob) (h1 : Sat E x ts H (ViaS E P ts' H')) (h2 : ∀ a, P a → Sat E y (ts' a) H' Q) : Sat E x ts H (Th (fun ts H => Sat E y ts H Q) Q) :=
  h1.mono fun e ts1 H1 h => by
    cases e with
    | normal =>
      obtain ⟨a, hp, he⟩ := h
      exact sat_ent he (h2 a hp)
    | _ => exact h.elim
end Go.Ag
/- AGo, part 22: short names, for simp alone. -/
namespace Go.Ag
open Go Go.RowKit
set_option linter.defProp false

theorem lo : (((((((type_of% @Ex_and) ∧ ((type_of% @Ex_eq) ∧ (type_of% @Ex_eq'))) ∧ ((type_of% @ev_tmp) ∧ ((type_of% @ev_const) ∧ (type_of% @ev_func)))) ∧ (((type_of% @ev_glob) ∧ ((type_of% @putD_some) ∧ (type_of% @putD_none))) ∧ (((type_of% @look_cons) ∧ (type_of% @look_nil)) ∧ ((type_of% @if_true.{1}) ∧ (type_of% @if_true.{0}))))) ∧ ((((type_of% @if_false.{1}) ∧ ((type_of% @if_false.{0}) ∧ (type_of% @Th_normal))) ∧ ((type_of% @Th_ret) ∧ ((type_of% @Th_exit) ∧ (type_of% @Bl_normal)))) ∧ (((type_of% @Bl_ret) ∧ ((type_of% @Bl_exit) ∧ (type_of% @Out_normal))) ∧ (((type_of% @Out_ret) ∧ (type_of% @Out_exit)) ∧ ((type_of% @List.flatten_cons.{0}) ∧ (type_of% @List.flatten_nil.{0})))))) ∧ (((((type_of% @hp_get0) ∧ ((type_of% @hp_get) ∧ (type_of% @hp_set0))) ∧ ((type_of% @hp_set) ∧ ((type_of% @hp_len) ∧ (type_of% @hp_push)))) ∧ (((type_of% @List.cons_append.{0}) ∧ ((type_of% @List.nil_append.{0}) ∧ (type_of% @List.append_nil.{0}))) ∧ (((type_of% @List.length_nil.{0}) ∧ (type_of% @List.length_cons.{0})) ∧ ((type_of% @Nat.zero_add) ∧ (type_of% @Nat.add_zero))))) ∧ ((((type_of% @Nat.le_refl) ∧ ((type_of% @List.getElem?_cons_zero.{0}) ∧ (type_of% @List.getElem?_cons_succ.{0}))) ∧ (((type_of% @List.getElem?_nil.{0}) ∧ (type_of% @List.set_cons_zero.{0})) ∧ ((type_of% @List.set_cons_succ.{0}) ∧ (type_of% @List.take_succ_cons.{0})))) ∧ (((type_of% @List.take_zero.{0}) ∧ ((type_of% @List.drop_succ_cons.{0}) ∧ (type_of% @List.drop_zero.{0}))) ∧ (((type_of% @List.take_nil.{0}) ∧ (type_of% @List.drop_nil.{0})) ∧ ((type_of% @List.map_cons.{0, 0}) ∧ (type_of% @List.map_nil.{0, 0}))))))) ∧ ((((((type_of% @List.all_cons.{0}) ∧ ((type_of% @List.all_nil.{0}) ∧ (type_of% @Bool.and_true))) ∧ ((type_of% @Bool.true_and) ∧ ((type_of% @Bool.and_self) ∧ (type_of% @Option.bind_some.{0, 0})))) ∧ (((type_of% @Option.bind_none.{0, 0}) ∧ ((type_of% @Option.map_some.{0, 0}) ∧ (type_of% @Option.map_none.{0, 0}))) ∧ (((type_of% @true_and) ∧ (type_of% @and_true)) ∧ ((type_of% @ne_eq.{1}) ∧ (type_of% @ne_eq.{0}))))) ∧ ((((type_of% @not_false_eq_true) ∧ ((type_of% @not_true_eq_false) ∧ (type_of% @and_self))) ∧ ((type_of% @Nat.add_eq) ∧ ((type_of% @List.getD_cons_zero.{0}) ∧ (type_of% @List.getD_cons_succ.{0})))) ∧ (((type_of% @beq_self_eq_true.{0}) ∧ ((type_of% @List.toList_toArray.{0}) ∧ (type_of% @Int.toNat_natCast))) ∧ (((type_of% @List.getD_eq_getElem?_getD.{0}) ∧ (type_of% @List.getElem?_map.{0, 0})) ∧ ((type_of% @Option.getD_some.{0}) ∧ (type_of% @Int.natCast_nonneg)))))) ∧ (((((type_of% @List.length_map.{0, 0}) ∧ ((type_of% @Int.ofNat_lt) ∧ (type_of% @Int.ofNat_le))) ∧ ((type_of% @lit_le) ∧ ((type_of% @lit_lt) ∧ (type_of% @lit_ge)))) ∧ (((type_of% @lit_gt) ∧ ((type_of% @lit_beq) ∧ (type_of% @nat_beq))) ∧ (((type_of% @nat_ge) ∧ (type_of% @nat_gt)) ∧ ((type_of% @take_len_map) ∧ (type_of% @take_len))))) ∧ ((((type_of% @Via_normal) ∧ ((type_of% @fr_set) ∧ (type_of% @fr_get))) ∧ (((type_of% @List.getElem?_toArray.{0}) ∧ (type_of% @Bool.not_true)) ∧ ((type_of% @Bool.not_false) ∧ (type_of% @forall_const.{1})))) ∧ (((type_of% @forall_const.{0}) ∧ ((type_of% @true_implies) ∧ (type_of% @false_implies))) ∧ (((type_of% @Bool.true_eq_false) ∧ (type_of% @Bool.false_eq_true)) ∧ ((type_of% @List.length_append.{0}) ∧ (type_of% @List.append_eq_nil_iff.{0})))))))) := ⟨⟨⟨⟨⟨⟨@Ex_and, ⟨@Ex_eq, @Ex_eq'⟩⟩, ⟨@ev_tmp, ⟨@ev_const, @ev_func⟩⟩⟩, ⟨⟨@ev_glob, ⟨@putD_some, @putD_none⟩⟩, ⟨⟨@look_cons, @look_nil⟩, ⟨@if_true.{1}, @if_true.{0}⟩⟩⟩⟩, ⟨⟨⟨@if_false.{1}, ⟨@if_false.{0}, @Th_normal⟩⟩, ⟨@Th_ret, ⟨@Th_exit, @Bl_normal⟩⟩⟩, ⟨⟨@Bl_ret, ⟨@Bl_exit, @Out_normal⟩⟩, ⟨⟨@Out_ret, @Out_exit⟩, ⟨@List.flatten_cons.{0}, @List.flatten_nil.{0}⟩⟩⟩⟩⟩, ⟨⟨⟨⟨@hp_get0, ⟨@hp_get, @hp_set0⟩⟩, ⟨@hp_set, ⟨@hp_len, @hp_push⟩⟩⟩, ⟨⟨@List.cons_append.{0}, ⟨@List.nil_append.{0}, @List.append_nil.{0}⟩⟩, ⟨⟨@List.length_nil.{0}, @List.length_cons.{0}⟩, ⟨@Nat.zero_add, @Nat.add_zero⟩⟩⟩⟩, ⟨⟨⟨@Nat.le_refl, ⟨@List.getElem?_cons_zero.{0}, @List.getElem?_cons_succ.{0}⟩⟩, ⟨⟨@List.getElem?_nil.{0}, @List.set_cons_zero.{0}⟩, ⟨@List.set_cons_succ.{0}, @List.take_succ_cons.{0}⟩⟩⟩, ⟨⟨@List.take_zero.{0}, ⟨@List.drop_succ_cons.{0}, @List.drop_zero.{0}⟩⟩, ⟨⟨@List.take_nil.{0}, @List.drop_nil.{0}⟩, ⟨@List.map_cons.{0, 0}, @List.map_nil.{0, 0}⟩⟩⟩⟩⟩⟩, ⟨⟨⟨⟨⟨@List.all_cons.{0}, ⟨@List.all_nil.{0}, @Bool.and_true⟩⟩, ⟨@Bool.true_and, ⟨@Bool.and_self, @Option.bind_some.{0, 0}⟩⟩⟩, ⟨⟨@Option.bind_none.{0, 0}, ⟨@Option.map_some.{0, 0}, @Option.map_none.{0, 0}⟩⟩, ⟨⟨@true_and, @and_true⟩, ⟨@ne_eq.{1}, @ne_eq.{0}⟩⟩⟩⟩, ⟨⟨⟨@not_false_eq_true, ⟨@not_true_eq_false, @and_self⟩⟩, ⟨@Nat.add_eq, ⟨@List.getD_cons_zero.{0}, @List.getD_cons_succ.{0}⟩⟩⟩, ⟨⟨@beq_self_eq_true.{0}, ⟨@List.toList_toArray.{0}, @Int.toNat_natCast⟩⟩, ⟨⟨@List.getD_eq_getElem?_getD.{0}, @List.getElem?_map.{0, 0}⟩, ⟨@Option.getD_some.{0}, @Int.natCast_nonneg⟩⟩⟩⟩⟩, ⟨⟨⟨⟨@List.length_map.{0, 0}, ⟨@Int.ofNat_lt, @Int.ofNat_le⟩⟩, ⟨@lit_le, ⟨@lit_lt, @lit_ge⟩⟩⟩, ⟨⟨@lit_gt, ⟨@lit_beq, @nat_beq⟩⟩, ⟨⟨@nat_ge, @nat_gt⟩, ⟨@take_len_map, @take_len⟩⟩⟩⟩, ⟨⟨⟨@Via_normal, ⟨@fr_set, @fr_get⟩⟩, ⟨⟨@List.getElem?_toArray.{0}, @Bool.not_true⟩, ⟨@Bool.not_false, @forall_const.{1}⟩⟩⟩, ⟨⟨@forall_const.{0}, ⟨@true_implies, @false_implies⟩⟩, ⟨⟨@Bool.true_eq_false, @Bool.false_eq_true⟩, ⟨@List.length_append.{0}, @List.append_eq_nil_iff.{0}⟩⟩⟩⟩⟩⟩⟩
theorem ld : (((((type_of% @ofConst.eq_def) ∧ ((type_of% @ofC.eq_def) ∧ (type_of% @aLoad.eq_def))) ∧ (((type_of% @aAlloc.eq_def) ∧ (type_of% @aBox.eq_def)) ∧ ((type_of% @aStore.eq_def) ∧ (type_of% @aFieldAddr.eq_def)))) ∧ (((type_of% @aIndexAddr.eq_def) ∧ ((type_of% @aIndex.eq_def) ∧ (type_of% @aSlice.eq_def))) ∧ (((type_of% @aEq.eq_def) ∧ (type_of% @aBin.eq_def)) ∧ ((type_of% @aUn.eq_def) ∧ (type_of% @aConv.eq_def))))) ∧ ((((type_of% @aBuild.eq_def) ∧ ((type_of% @aBuildSlice.eq_def) ∧ (type_of% @aSrc.eq_def))) ∧ (((type_of% @aAppend.eq_def) ∧ (type_of% @aLen.eq_def)) ∧ ((type_of% @aMax.eq_def) ∧ (type_of% @aMin.eq_def)))) ∧ (((type_of% @aMakeSlice.eq_def) ∧ ((type_of% @aMakeMap.eq_def) ∧ (type_of% @TK.row.eq_def))) ∧ (((type_of% @D.cell.eq_def) ∧ (type_of% @vOk.eq_def)) ∧ ((type_of% @bnd.eq_def) ∧ (type_of% @gval.eq_def)))))) := ⟨⟨⟨⟨@ofConst.eq_def, ⟨@ofC.eq_def, @aLoad.eq_def⟩⟩, ⟨⟨@aAlloc.eq_def, @aBox.eq_def⟩, ⟨@aStore.eq_def, @aFieldAddr.eq_def⟩⟩⟩, ⟨⟨@aIndexAddr.eq_def, ⟨@aIndex.eq_def, @aSlice.eq_def⟩⟩, ⟨⟨@aEq.eq_def, @aBin.eq_def⟩, ⟨@aUn.eq_def, @aConv.eq_def⟩⟩⟩⟩, ⟨⟨⟨@aBuild.eq_def, ⟨@aBuildSlice.eq_def, @aSrc.eq_def⟩⟩, ⟨⟨@aAppend.eq_def, @aLen.eq_def⟩, ⟨@aMax.eq_def, @aMin.eq_def⟩⟩⟩, ⟨⟨@aMakeSlice.eq_def, ⟨@aMakeMap.eq_def, @TK.row.eq_def⟩⟩, ⟨⟨@D.cell.eq_def, @vOk.eq_def⟩, ⟨@bnd.eq_def, @gval.eq_def⟩⟩⟩⟩⟩
theorem lt : ((((type_of% @Th_normal) ∧ ((type_of% @Th_ret) ∧ (type_of% @Th_exit))) ∧ (((type_of% @Bl_normal) ∧ (type_of% @Bl_ret)) ∧ ((type_of% @Bl_exit) ∧ (type_of% @Out_normal)))) ∧ (((type_of% @Out_ret) ∧ ((type_of% @Out_exit) ∧ (type_of% @OutR_normal))) ∧ (((type_of% @OutR_ret) ∧ (type_of% @OutR_exit)) ∧ ((type_of% @Via_normal) ∧ (type_of% @ViaS_normal))))) := ⟨⟨⟨@Th_normal, ⟨@Th_ret, @Th_exit⟩⟩, ⟨⟨@Bl_normal, @Bl_ret⟩, ⟨@Bl_exit, @Out_normal⟩⟩⟩, ⟨⟨@Out_ret, ⟨@Out_exit, @OutR_normal⟩⟩, ⟨⟨@OutR_ret, @OutR_exit⟩, ⟨@Via_normal, @ViaS_normal⟩⟩⟩⟩
theorem lp : ((type_of% @putD_some) ∧ (type_of% @putD_none)) := ⟨@putD_some, @putD_none⟩
theorem ln : (((type_of% @List.length_map.{0, 0}) ∧ (type_of% @List.length_take.{0})) ∧ ((type_of% @List.length_append.{0}) ∧ (type_of% @List.length_drop.{0}))) := ⟨⟨@List.length_map.{0, 0}, @List.length_take.{0}⟩, ⟨@List.length_append.{0}, @List.length_drop.{0}⟩⟩
theorem le : (((type_of% @leAll_cons) ∧ (type_of% @leAll_nil)) ∧ ((type_of% @look_cons) ∧ (type_of% @look_nil))) := ⟨⟨@leAll_cons, @leAll_nil⟩, ⟨@look_cons, @look_nil⟩⟩
def wa := @sat_seq'
def wb := @sat_plain
def wo := @sat_block
def we := @st_op
def wf := @sm_hv
def wg := @sm_op
def wh := @sq_op
def wi := @st_nil
def wj := @sq_nil
def wk := @sm_nil
def wl := @sat_skip
def wm := @sat_ret
def wn := @sat_exit
def wr := @sat_region
def Xg := @st_go
def Yg := @sq_go
def Zg := @sm_go
def Xn := @st_not
def Yn := @sq_not
def Zn := @sm_not
def Xo := @st_out
def Yo := @sq_out
def Zo := @sm_out
def Xs := @st_split
def Ys := @sq_split
def Zs := @sm_split
theorem wc {E : Env} {ts : List D} {H : List Ob} {Q : Exit → List D → List Ob → Prop} {id : Nat} {l : List Oper} (hg : l.all (fun o => o.guard.isNone) = true) (hv : l.any heavyB = true) (hm : E.P.follows .mixedOrders = true)
    (h : hops E anyS .any l.toArray l ts H fun ts' H' => Q .normal ts' H') (hB : mixB l = true := by kernel_rfl) : Sat E (.region id l.toArray true) ts H Q := sat_mix hm hB h
theorem wd {E : Env} {ts : List D} {H : List Ob} {Q : Exit → List D → List Ob → Prop} {id : Nat} {l : List Oper} (hg : l.all (fun o => o.guard.isNone) = true) (hm : E.P.follows .mixedOrders = true)
    (h : qops E l.toArray H l ts fun ts' => Q .normal ts' H) (hB : Region.lexB .any l.toArray = true := by kernel_rfl) : Sat E (.region id l.toArray true) ts H Q := sat_quiet hm hB h
theorem wp {E : Env} {ts : List D} {H : List Ob} {Q : Exit → List D → List Ob → Prop} {id : Nat} {l : List Oper} (hv : l.any heavyB = true) (hm : E.P.follows .mixedOrders = true)
    (h : hops E anyS .any l.toArray l ts H fun ts' H' => Q .normal ts' H') (hB : mixB l = true := by kernel_rfl) : Sat E (.region id l.toArray true) ts H Q := sat_mix hm hB h
theorem wq {E : Env} {ts : List D} {H : List Ob} {Q : Exit → List D → List Ob → Prop} {id : Nat} {l : List Oper} (hm : E.P.follows .mixedOrders = true)
    (h : qops E l.toArray H l ts fun ts' => Q .normal ts' H) (hB : Region.lexB .any l.toArray = true := by kernel_rfl) : Sat E (.region id l.toArray true) ts H Q := sat_quiet hm hB h
section
variable {E : Env} {o : Oper} {ts : List D} {H : List Ob}
theorem wx {K : D → List Ob → Prop} (h : aop E o ts H K) : aop E o ts H K := h
theorem wy {K : D → Prop} (h : Ex (fun d => aop E o ts H fun d' H' => d' = d ∧ H' = H) K) : Ex (fun d => aop E o ts H fun d' H' => d' = d ∧ H' = H) K := h
theorem wz {K : D → Prop} (h : Ex (fun d => ∀ H, aop E o ts H fun d' H' => d' = d ∧ H' = H) K) : Ex (fun d => ∀ H, aop E o ts H fun d' H' => d' = d ∧ H' = H) K := h
end
end Go.Ag
/- AGo, part 23: from a call that is told abstractly to the row's own words. -/
namespace Go.Ag
open Go Go.RowKit

/-- All that is there when the call begins never turns. -/
def memOf (W : World) : Mem := fun b o => W.cell? ⟨b, o, none⟩
theorem ACalls.row {P : Program} {G : Nat → Option (List V)} {f : FuncId} {args : List D} {vs : Array Value} {K : D → List Ob → Prop} {W : World} (h : ACalls P G f args [] K) (hG : ∀ g cs, G g = some cs → RelRow (memOf W) g 0 cs) (hv : RelL (memOf W) (fun _ => none) args vs.toList) (hc : callB P f = true := by rfl) :
    Calls P f vs W fun e W' => ∃ v d M' μ' H', e = .returned v ∧ Below W.heap.size W W' ∧ Rel M' μ' d v ∧ K d H' := by
  have hR : R ⟨P, G, W, memOf W, fun _ => none, []⟩ (memOf W) (fun _ => none) [] W :=
    ⟨Below.refl _ _, fun _ _ _ h => h, hG, fun _ _ h => (by cases h), fun _ _ _ h => (by simp at h), fun _ _ _ _ _ _ _ h => (by simp at h), fun _ h => (by simp at h)⟩
  have := h ⟨P, G, W, memOf W, fun _ => none, []⟩ rfl rfl (memOf W) (fun _ => none) W vs.toList hR hv
  rw [show vs.toList.toArray = vs by simp] at this
  rcases this with ⟨_, this⟩ | ⟨hf, _⟩
  rotate_left
  · rw [hc] at hf; cases hf
  refine this.mono ?_
  rintro e W' ⟨v, d, M', μ', H', h1, _, _, h4, h5, h6⟩
  exact ⟨v, d, M', μ', H', h1, h4.below, h5, h6⟩
end Go.Ag
/- AGo, part 24: what the row reads off an argument, by value. -/
namespace Go.Ag
open Go Go.RowKit

def RelVs (M : Mem) : List V → List Value → Prop
  | [], [] => True
  | x :: xs, y :: ys => RelV M x y ∧ RelVs M xs ys
  | _, _ => False
theorem RelVs.append {M : Mem} : ∀ {a b : List V} {x y : List Value}, RelVs M a x → RelVs M b y → RelVs M (a ++ b) (x ++ y)
  | [], _, [], _, _, h => h
  | _ :: _, _, _ :: _, _, h1, h2 => ⟨h1.1, RelVs.append h1.2 h2⟩
theorem RelVs.length {M : Mem} : ∀ {a : List V} {x : List Value}, RelVs M a x → a.length = x.length
  | [], [], _ => rfl
  | _ :: _, _ :: _, h => by simp [RelVs.length h.2]
theorem RelVs.get {M : Mem} : ∀ {a : List V} {x : List Value}, RelVs M a x → ∀ (i : Nat) (d : V), a[i]? = some d → ∃ y, x[i]? = some y ∧ RelV M d y
  | [], [], _, i, d, h => by simp at h
  | v :: _, y :: _, hr, 0, d, h => by simp at h; subst h; exact ⟨y, rfl, hr.1⟩
  | v :: _, y :: _, hr, i + 1, d, h => by simpa using RelVs.get hr.2 i d (by simpa using h)

/-- Every reading of a thing of type t is of this kind. -/
def Reads (P : Program) (t : TypeId) (sz : Nat) (S : List V → Prop) : Prop :=
  P.cellsOf t = sz ∧ ∀ {H : Type} (enc : TypeId × Value → H) (w : World) (spare : Nat → Bool) (held : Bool) (fuel : Nat) (cs : List Value) (x : DataW H × List MemPlace),
    DataW.trod enc P w 0 spare held fuel t cs = some x → ∃ row, S row ∧ row.length = sz ∧ RelVs (memOf w) row cs
theorem Reads.mono {P : Program} {t : TypeId} {sz : Nat} {S S' : List V → Prop} (h : Reads P t sz S) (k : ∀ r, S r → S' r) : Reads P t sz S' :=
  ⟨h.1, fun enc w spare held fuel cs x hx => by obtain ⟨r, h1, h2, h3⟩ := h.2 enc w spare held fuel cs x hx; exact ⟨r, k r h1, h2, h3⟩⟩

theorem reads_string {P : Program} {t : TypeId} (ht : P.underlying t = some .string) (hc : P.cellsOf t = 1) : Reads P t 1 (fun r => ∃ s : List UInt8, r = [.str s] ∧ s.length ≤ 9223372036854775807) :=
  ⟨hc, fun enc w spare held fuel cs x hx => by
    obtain ⟨s, rfl, _, h⟩ := DataW.trod_string ht hx
    refine ⟨[.str s.data.toList], ⟨_, rfl, Nat.le_trans (Nat.le_of_eq rfl : s.data.toList.length ≤ s.size) (Nat.le_trans h (by decide))⟩, rfl, ?_⟩
    simp only [RelVs, RelV]
    exact ⟨trivial, trivial⟩⟩
theorem reads_bool {P : Program} {t : TypeId} (ht : P.underlying t = some .bool) (hc : P.cellsOf t = 1) : Reads P t 1 (fun r => ∃ b : Bool, r = [.bool b]) :=
  ⟨hc, fun enc w spare held fuel cs x hx => by
    obtain ⟨b, rfl, _⟩ := DataW.trod_bool ht hx
    refine ⟨[.bool b], ⟨_, rfl⟩, rfl, ?_⟩
    simp only [RelVs, RelV]
    exact ⟨trivial, trivial⟩⟩
theorem reads_int {P : Program} {t : TypeId} {k : IntKind} (ht : P.underlying t = some (.int k)) (hc : P.cellsOf t = 1) : Reads P t 1 (fun r => ∃ n : Int, r = [.int k n] ∧ (Lit.int k n).wf = true) :=
  ⟨hc, fun enc w spare held fuel cs x hx => by
    obtain ⟨n, rfl, _, h⟩ := DataW.trod_int ht hx
    refine ⟨[.int k n], ⟨_, rfl, h⟩, rfl, ?_⟩
    simp only [RelVs, RelV]
    exact ⟨trivial, trivial⟩⟩

theorem relRows_of {M : Mem} {sz b : Nat} : ∀ (xs : List (List V)) (o : Nat), (∀ i x, xs[i]? = some x → x.length = sz ∧ RelRow M b (o + i * sz) x) → RelRows M sz b o xs
  | [], o, _ => by simp [RelRows]
  | x :: xs, o, h => by
    have h0 := h 0 x rfl
    simp only [Nat.zero_mul, Nat.add_zero] at h0
    refine ⟨h0.1, h0.2, relRows_of xs (o + sz) fun i y hy => ?_⟩
    have := h (i + 1) y (by simpa using hy)
    rwa [Nat.add_mul, Nat.one_mul, Nat.add_comm (i * sz), ← Nat.add_assoc] at this
theorem relRow_of_cells {M : Mem} {b o : Nat} {row : List V} {cs : List Value} (hr : RelVs M row cs) (hc : ∀ i, i < cs.length → M b (o + i) = cs[i]?) : RelRow M b o row :=
  RelRow.of_get fun j d hj => by
    obtain ⟨y, h1, h2⟩ := hr.get j d hj
    have hl : j < cs.length := (List.getElem?_eq_some_iff.1 h1).1
    exact ⟨y, by rw [hc j hl, h1], h2⟩

theorem list_choose {α β : Type} {n : Nat} {f : Nat → Option α} {Q : α → β → Prop} (h : ∀ i, i < n → ∃ a b, f i = some a ∧ Q a b) : ∃ l : List β, l.length = n ∧ ∀ i b, l[i]? = some b → ∃ a, f i = some a ∧ Q a b := by
  induction n with
  | zero => exact ⟨[], rfl, fun i b h => by simp at h⟩
  | succ n ih =>
    obtain ⟨l, h1, h2⟩ := ih fun i hi => h i (by omega)
    obtain ⟨a, b, h3, h4⟩ := h n (by omega)
    refine ⟨l ++ [b], by simp [h1], fun i c hc => ?_⟩
    by_cases hi : i < n
    · rw [List.getElem?_append_left (by omega)] at hc; exact h2 i c hc
    · rw [List.getElem?_append_right (by omega)] at hc
      have : i = n := by
        have := (List.getElem?_eq_some_iff.1 hc).1
        simp at this; omega
      subst this
      simp [h1] at hc
      subst hc
      exact ⟨a, h3, h4⟩

theorem reads_slice {P : Program} {t e : TypeId} {sz : Nat} {S : List V → Prop} (ht : P.underlying t = some (.slice e)) (hc : P.cellsOf t = 1) (he : Reads P e sz S) (hz : 0 < sz) :
    Reads P t 1 (fun r => ∃ xs : List (List V), r = [.list sz xs] ∧ (∀ x ∈ xs, S x) ∧ xs.length ≤ 9223372036854775807) :=
  ⟨hc, fun {H} enc w spare held fuel cs x hx => by
    obtain ⟨hsz, hrd⟩ := he
    rcases DataW.trod_slice ht hx with ⟨rfl, _⟩ | ⟨a, len, cap, elems, rest, n, _, rfl, _, hb, hlc, hcm, hel, hel2, _, _⟩
    · refine ⟨[.list sz []], ⟨[], rfl, by simp, Nat.zero_le _⟩, rfl, ?_⟩
      simp only [RelVs, RelV]
      exact ⟨⟨none, 0, rfl, Nat.le_refl _, .inl trivial⟩, trivial⟩
    · rw [hsz] at hel2
      have key : ∀ i, i < len → ∃ (cs : List Value) (row : List V), w.cells? 0 (a.add (i * sz)) sz = some cs ∧ S row ∧ row.length = sz ∧ RelVs (memOf w) row cs := fun i hi => by
        have h1 := hel2 i hi
        obtain ⟨y, hy⟩ : ∃ y, elems[i]? = some y := ⟨_, List.getElem?_eq_getElem (by omega)⟩
        rw [hy] at h1
        obtain ⟨cs, h2, h3⟩ := Option.bind_eq_some_iff.1 h1
        obtain ⟨row, k1, k2, k3⟩ := hrd enc w spare held n cs y h3
        exact ⟨cs, row, h2, k1, k2, k3⟩
      obtain ⟨xs, hl, hxs⟩ := list_choose (f := fun i => w.cells? 0 (a.add (i * sz)) sz) (Q := fun cs row => S row ∧ row.length = sz ∧ RelVs (memOf w) row cs) key
      refine ⟨[.list sz xs], ⟨xs, rfl, fun x hx => ?_, ?_⟩, rfl, ?_⟩
      · obtain ⟨i, hi, rfl⟩ := List.getElem_of_mem hx
        obtain ⟨_, _, h, _⟩ := hxs i _ (List.getElem?_eq_getElem hi)
        exact h
      · have : maxLen ≤ 9223372036854775807 := by decide
        omega
      · simp only [RelVs, RelV]
        refine ⟨⟨some a, cap, by rw [hl], by omega, ?_⟩, trivial⟩
        rcases xs with _ | ⟨x0, xs⟩
        · exact .inl rfl
        · right
          obtain ⟨cs0, h1, _, h3, h4⟩ := hxs 0 x0 rfl
          have hspot : a.spot = none := by
            have h5 := (World.cells?_some h1).2.2 0 hz
            have h6 : cs0[0]? ≠ none := by
              have := (World.cells?_some h1).2.1
              rw [List.getElem?_eq_getElem (by omega)]; simp
            obtain ⟨v, hv⟩ := Option.ne_none_iff_exists'.1 h6
            rw [hv] at h5
            simpa [Addr.add] using World.cell?_spot h5
          obtain ⟨b, off, spot⟩ := a
          simp only at hspot
          subst hspot
          refine ⟨b, off, rfl, relRows_of _ _ fun i x hx => ?_⟩
          obtain ⟨cs, k1, _, k3, k4⟩ := hxs i x hx
          obtain ⟨_, g2, g3⟩ := World.cells?_some k1
          refine ⟨k3, relRow_of_cells k4 fun j hj => ?_⟩
          rw [g2] at hj
          have := g3 j hj
          rw [Go.WideShapes.add_plain, Go.WideShapes.add_plain] at this
          exact this⟩

/-- The same of a struct's fields, one after another. -/
def ReadsF (P : Program) : List Field → Nat → Nat → (List V → Prop) → Prop
  | [], _, n, S => n = 0 ∧ S = fun r => r = []
  | f :: fs, off, n, S => ∃ sz m S1 S2, n = sz + m ∧ f.offset = off ∧ Reads P f.type sz S1 ∧ ReadsF P fs (off + sz) m S2 ∧ S = fun r => ∃ a b, r = a ++ b ∧ S1 a ∧ S2 b
theorem readsF_get {P : Program} {H : Type} (enc : TypeId × Value → H) (w : World) (spare : Nat → Bool) (held : Bool) (fuel : Nat) (cs : List Value) :
    ∀ (fs : List Field) (off n : Nat) (S : List V → Prop), ReadsF P fs off n S → (∀ f ∈ fs, ∃ x, DataW.trod enc P w 0 spare held fuel f.type ((cs.drop f.offset).take (P.cellsOf f.type)) = some x) →
      ∃ row, S row ∧ row.length = n ∧ RelVs (memOf w) row ((cs.drop off).take n)
  | [], off, n, S, h, _ => by
    obtain ⟨rfl, rfl⟩ := h
    exact ⟨[], rfl, rfl, by simp [RelVs]⟩
  | f :: fs, off, n, S, h, hx => by
    obtain ⟨sz, m, S1, S2, rfl, hoff, ⟨hsz, hr⟩, hfs, rfl⟩ := h
    obtain ⟨x, h1⟩ := hx f (by simp)
    rw [hoff, hsz] at h1
    obtain ⟨a, k1, k2, k3⟩ := hr enc w spare held fuel _ x h1
    obtain ⟨b, g1, g2, g3⟩ := readsF_get enc w spare held fuel cs fs (off + sz) m S2 hfs fun f hf => hx f (by simp [hf])
    refine ⟨a ++ b, ⟨a, b, rfl, k1, g1⟩, by simp [k2, g2], ?_⟩
    have := k3.append g3
    rwa [← List.drop_drop, ← List.take_add] at this
theorem reads_struct {P : Program} {t : TypeId} {fs : Array Field} {n : Nat} {S : List V → Prop} (ht : P.underlying t = some (.struct fs)) (hc : P.cellsOf t = n) (hf : ReadsF P fs.toList 0 n S) : Reads P t n S :=
  ⟨hc, fun {H} enc w spare held fuel cs x hx => by
    obtain ⟨xs, m, _, _, hl, hxl, hall⟩ := DataW.trod_struct ht hx
    obtain ⟨row, h1, h2, h3⟩ := readsF_get enc w spare held m cs fs.toList 0 n S hf fun f hf => by
      obtain ⟨i, hi, rfl⟩ := List.getElem_of_mem hf
      have := hall i fs.toList[i] (by simp)
      have h4 : i < fs.size := by simpa using hi
      rw [List.getElem?_eq_getElem (by omega)] at this
      exact ⟨_, this⟩
    refine ⟨row, h1, h2, ?_⟩
    rwa [List.drop_zero, List.take_of_length_le (by omega)] at h3⟩
end Go.Ag
/- AGo: arguments that come in, one at a time. -/
namespace Go.Ag
open Go Go.RowKit Go.WideShapes

theorem arg_slice {P : Program} {W : World} {t e : TypeId} {S : List V → Prop} {H : Type} {enc : TypeId × Value → H} {sp : Nat → Bool} {held : Bool} {v : Value} {d : DataW H} {ps : List MemPlace} {r : Reach} {b : Nat}
    (ht : P.underlying t = some (.slice e)) (hr : Reads P t 1 S) (hval : Value.okWide P W r b t v) (h0 : DataW.Trod enc P W 0 sp held t v d ps) : ∃ x, S [x] ∧ RelV (memOf W) x v := by
  obtain ⟨a, len, cap, rfl⟩ := okWide_slice ht hval
  obtain ⟨fuel, hf⟩ := h0
  obtain ⟨row, h1, h2, h3⟩ := hr.2 enc W sp held fuel _ _ hf
  match row, h2, h3 with
  | [x], _, h3 => exact ⟨x, h1, h3.1⟩
theorem arg_string {P : Program} {W : World} {t : TypeId} {S : List V → Prop} {H : Type} {enc : TypeId × Value → H} {sp : Nat → Bool} {held : Bool} {v : Value} {d : DataW H} {ps : List MemPlace} {r : Reach} {b : Nat}
    (ht : P.underlying t = some .string) (hr : Reads P t 1 S) (hval : Value.okWide P W r b t v) (h0 : DataW.Trod enc P W 0 sp held t v d ps) : ∃ x, S [x] ∧ RelV (memOf W) x v := by
  obtain ⟨s, rfl⟩ := okWide_string ht hval
  obtain ⟨fuel, hf⟩ := h0
  obtain ⟨row, h1, h2, h3⟩ := hr.2 enc W sp held fuel _ _ hf
  match row, h2, h3 with
  | [x], _, h3 => exact ⟨x, h1, h3.1⟩
theorem arg_int {P : Program} {W : World} {t : TypeId} {k : IntKind} {S : List V → Prop} {H : Type} {enc : TypeId × Value → H} {sp : Nat → Bool} {held : Bool} {v : Value} {d : DataW H} {ps : List MemPlace} {r : Reach} {b : Nat}
    (ht : P.underlying t = some (.int k)) (hr : Reads P t 1 S) (hval : Value.okWide P W r b t v) (h0 : DataW.Trod enc P W 0 sp held t v d ps) : ∃ x, S [x] ∧ RelV (memOf W) x v := by
  obtain ⟨n, rfl⟩ := okWide_int ht hval
  obtain ⟨fuel, hf⟩ := h0
  obtain ⟨row, h1, h2, h3⟩ := hr.2 enc W sp held fuel _ _ hf
  match row, h2, h3 with
  | [x], _, h3 => exact ⟨x, h1, h3.1⟩
theorem arg_bool {P : Program} {W : World} {t : TypeId} {S : List V → Prop} {H : Type} {enc : TypeId × Value → H} {sp : Nat → Bool} {held : Bool} {v : Value} {d : DataW H} {ps : List MemPlace} {r : Reach} {b : Nat}
    (ht : P.underlying t = some .bool) (hr : Reads P t 1 S) (hval : Value.okWide P W r b t v) (h0 : DataW.Trod enc P W 0 sp held t v d ps) : ∃ x, S [x] ∧ RelV (memOf W) x v := by
  obtain ⟨n, rfl⟩ := okWide_bool ht hval
  obtain ⟨fuel, hf⟩ := h0
  obtain ⟨row, h1, h2, h3⟩ := hr.2 enc W sp held fuel _ _ hf
  match row, h2, h3 with
  | [x], _, h3 => exact ⟨x, h1, h3.1⟩
theorem relVs_relL {M : Mem} {μ : Mu} : ∀ {a : List V} {x : List Value}, RelVs M a x → RelL M μ (a.map .v) x
  | [], [], _ => by simp [RelL]
  | d :: _, y :: _, h => by
    rw [List.map_cons, RelL.cons]
    exact ⟨y, _, rfl, by simp only [Rel]; exact h.1, relVs_relL h.2⟩
theorem arg_struct {P : Program} {W : World} {t : TypeId} {fs : Array Field} {n : Nat} {S : List V → Prop} {H : Type} {enc : TypeId × Value → H} {sp : Nat → Bool} {held : Bool} {v : Value} {d : DataW H} {ps : List MemPlace} {r : Reach} {b : Nat}
    (ht : P.underlying t = some (.struct fs)) (hr : Reads P t n S) (hval : Value.okWide P W r b t v) (h0 : DataW.Trod enc P W 0 sp held t v d ps) : ∃ row, S row ∧ ∀ μ, Rel (memOf W) μ (.agg (row.map .v)) v := by
  obtain ⟨cs, rfl, _⟩ := okWide_struct ht hval
  obtain ⟨fuel, hf⟩ := h0
  obtain ⟨row, h1, h2, h3⟩ := hr.2 enc W sp held fuel _ _ hf
  refine ⟨row, h1, fun μ => ?_⟩
  simp only [Rel]
  exact ⟨cs.toList, by simp, relVs_relL h3⟩
theorem rel_v {M : Mem} {μ : Mu} {x : V} {v : Value} (h : RelV M x v) : Rel M μ (.v x) v := by simp only [Rel]; exact h
end Go.Ag
/- AGo: what all rows  share. -/
namespace Go.Ag
open Go Go.RowKit Go.Proofs Go.Proofs.YtgnojlbihhnphaaGreatDoor
namespace rowD

theorem own : ownKnob Tryz.prog.godebug = none := by kernel_rfl
theorem laidOut : laidOutB Tryz.prog = true := by kernel_rfl

def gOf (m : Int) : Nat → Option (List V) := fun g => if g = 0 then some [.int .i64 m] else none
theorem gOf_rel {W : World} {m : Int} (h : W.cell? ⟨0, 0, none⟩ = some (.int .i64 m)) : ∀ g cs, gOf m g = some cs → RelRow (memOf W) g 0 cs := by
  intro g cs hg
  unfold gOf at hg
  split at hg
  · rename_i e; subst e; cases hg
    exact RelRow.of_get fun j d hj => by
      cases j with
      | zero =>
        simp at hj; subst hj
        exact ⟨_, h, rfl⟩
      | succ j => simp at hj
  · cases hg
theorem maxLen_cell {W : World} (h : W.ShapedOpen Tryz.prog) : ∃ m, W.cell? ⟨0, 0, none⟩ = some (.int .i64 m) := Tryz.laysM143.s1_3 W h

/-- A world for the witness: the settled one, the two tables holding what the text lays. -/
noncomputable def laidWorld (os : Os) : World :=
  let w0 := World.holding Tryz.prog os ⟨#[], #[], []⟩
  let put (h : Array Obj) (g : Nat) (cs : Array Value) : Array Obj := h.modify g fun
    | .cells _ t frozen => .cells cs t frozen
    | o => o
  let h1 := put w0.heap 1 (Lib.firstTab.map fun z => Value.int .u8 z).toArray
  let h2 := put h1 2 ((List.range 16).flatMap fun i => [Value.int .u8 (Lib.accLo i), Value.int .u8 (Lib.accHi i)]).toArray
  { w0 with heap := h2 }
theorem laid_met (os : Os) (args : Array Value) : laidMet Tryz.prog [("unicode/utf8.acceptRanges", Rows.laid_unicode_utf8_acceptRanges), ("unicode/utf8.first", Rows.laid_unicode_utf8_first)] ((laidWorld os).forCall (fun _ _ => 0) ⟨#[], args, []⟩).memory :=
  laidMet_of_run3 10 (by kernel_rfl) (by kernel_rfl) (by kernel_rfl)
end rowD
end Go.Ag
/- AGo, part 35: regions that draw their order, where what changes the heap waits for what loads. -/
namespace Go.Ag
open Go Go.RowKit

section
variable {E : Env} {all : Array Oper} {md : Region.Mode}

/-- An operation waits for operation i, or for one that does. -/
def waitN (md : Region.Mode) (all : Array Oper) (i : Nat) : Nat → Oper → Bool
  | 0, _ => false
  | n + 1, o => o.after.any fun e => Region.binds md e && (e.on == i || (match all[e.on]? with
    | some m => waitN md all i n m
    | none => false))
def waitB (md : Region.Mode) (all : Array Oper) (o : Oper) (i : Nat) : Bool := waitN md all i 6 o
/-- What is listed has what it waits for listed. -/
def Cl (md : Region.Mode) (all : Array Oper) (listed : Array Bool) : Prop := ∀ k o, all[k]? = some o → listed.getD k true = true → ∀ e ∈ o.after, Region.binds md e = true → listed.getD e.on false = true
/-- Each operation to come that changes the heap waits for operation i. -/
def stayB (md : Region.Mode) (all : Array Oper) (listed : Array Bool) (i : Nat) : Bool :=
  (List.range all.size).all fun k => listed.getD k true || (match all[k]? with
    | some o => !heavyB o || waitB md all o i
    | none => true)
theorem stayB_iff {listed : Array Bool} {i : Nat} : stayB md all listed i = true ↔ ∀ k o, all[k]? = some o → listed.getD k true = false → heavyB o = true → waitB md all o i = true := by
  simp only [stayB, List.all_eq_true, List.mem_range]
  constructor
  · intro h k o ho hk hv
    have h1 := h k (Array.getElem?_eq_some_iff.1 ho).1
    simp only [ho, hk, hv, Bool.false_or, Bool.not_true] at h1
    exact h1
  · intro h k hk
    cases hl : listed.getD k true with
    | true => rfl
    | false =>
      cases ho : all[k]? with
      | none => rfl
      | some o =>
        simp only [Bool.false_or]
        cases hv : heavyB o with
        | false => rfl
        | true => simp only [Bool.not_true, Bool.false_or]; exact h k o ho hl hv
theorem listed_mono {listed : Array Bool} {j k : Nat} (h : (listed.setIfInBounds j true).getD k true = false) : listed.getD k true = false := by
  by_cases e : j = k
  · subst e
    by_cases hl : j < listed.size
    · simp [Array.getD_eq_getD_getElem?, hl] at h
    · simp [Array.getD_eq_getD_getElem?, hl] at h
  · rwa [getD_set_ne true e] at h
theorem wait_listed {listed : Array Bool} {i : Nat} (hcl : Cl md all listed) (up : ∀ k, listed.getD k false = true → listed.getD k true = true) : ∀ (n : Nat) (o : Oper), (∀ e ∈ o.after, Region.binds md e = true → listed.getD e.on false = true) → waitN md all i n o = true → listed.getD i false = true
  | 0, _, _, h => by simp [waitN] at h
  | n + 1, o, hall, h => by
    unfold waitN at h
    rw [Array.any_eq_true] at h
    obtain ⟨k, hk, h⟩ := h
    simp only [Bool.and_eq_true, Bool.or_eq_true, beq_iff_eq] at h
    have hl := hall _ (Array.getElem_mem hk) h.1
    rcases h.2 with h2 | h2
    · rw [h2] at hl; exact hl
    · cases hm : all[o.after[k].on]? with
      | none => simp [hm] at h2
      | some om =>
        simp only [hm] at h2
        exact wait_listed hcl up n om (hcl _ om hm (up _ hl)) h2
theorem getD_up {listed : Array Bool} {k : Nat} (h : listed.getD k false = true) : listed.getD k true = true := by
  cases hc : listed.getD k true with
  | true => rfl
  | false => rw [getD_both hc] at h; cases h
theorem getD_down {listed : Array Bool} {j k : Nat} (h : listed.getD k false = true) : (listed.setIfInBounds j true).getD k false = true := by
  by_cases e : j = k
  · subst e
    by_cases hl : j < listed.size
    · simp [Array.getD_eq_getD_getElem?, hl]
    · simp [Array.getD_eq_getD_getElem?, hl] at h
  · rwa [getD_set_ne false e]
theorem Cl.set {listed : Array Bool} {j : Nat} {oj : Oper} (h : Cl md all listed) (hj : all[j]? = some oj) (hall : ∀ e ∈ oj.after, Region.binds md e = true → listed.getD e.on false = true) : Cl md all (listed.setIfInBounds j true) := by
  intro k o ho hk e he hb
  by_cases ej : j = k
  · subst ej; rw [hj] at ho; cases ho; exact getD_down (hall e he hb)
  · rw [getD_set_ne true ej] at hk
    exact getD_down (h k o ho hk e he hb)
theorem stayB_mono {listed : Array Bool} {i j : Nat} (h : stayB md all listed i = true) : stayB md all (listed.setIfInBounds j true) i = true :=
  stayB_iff.2 fun k o ho hk hv => stayB_iff.1 h k o ho (listed_mono hk) hv
theorem stayB_light {listed : Array Bool} {i j : Nat} {oi : Oper} (hi : all[i]? = some oi) (hl : heavyB oi = false) : stayB md all (listed.setIfInBounds i true) j = stayB md all listed j := by
  refine Bool.eq_iff_iff.2 ⟨fun h => stayB_iff.2 fun k o ho hk hv => ?_, stayB_mono⟩
  by_cases e : i = k
  · subst e; rw [hi] at ho; cases ho; rw [hl] at hv; cases hv
  · exact stayB_iff.1 h k o ho (by rw [getD_set_ne true e]; exact hk) hv
def Sy (md : Region.Mode) (all : Array Oper) (listed : Array Bool) (i : Nat) (H H' : List Ob) : Prop := stayB md all listed i = true → H' = H
theorem Yf.weak {S S' : List Ob → Prop} {o : Oper} {d : D} {ts : List D} (k : ∀ H, S' H → S H) (h : Yf E S all o d ts) : Yf E S' all o d ts := by
  unfold Yf at *
  split
  · rename_i hg; simp only [hg] at h; exact fun H hs => h H (k H hs)
  · rename_i g want hg
    simp only [hg] at h
    split
    · rename_i b hb
      simp only [hb] at h
      split
      · rename_i e; rw [if_pos e] at h; exact fun H hs => h H (k H hs)
      · rename_i e; rw [if_neg e] at h; exact h
    · rename_i hb; simp only [hb] at h; exact h
    · rename_i hb; simp only [hb] at h

def yOp (E : Env) (md : Region.Mode) (all : Array Oper) (listed : Array Bool) (i : Nat) (K : List D → List Ob → Prop) (ts : List D) (H : List Ob) : Prop :=
  match all[i]? with
  | none => K ts H
  | some o => if heavyB o then o.guard = none ∧ aop E o ts H fun d H' => K (putD ts o.dst d) H' else ∃ d, Yf E (Sy md all listed i H) all o d ts ∧ K (putD ts o.dst d) H
theorem yOp_mono {listed : Array Bool} {i : Nat} {K K' : List D → List Ob → Prop} {ts : List D} {H : List Ob} (h : ∀ ts H, K ts H → K' ts H) (hh : yOp E md all listed i K ts H) : yOp E md all listed i K' ts H := by
  unfold yOp at *
  split
  · rename_i ho; simp only [ho] at hh; exact h _ _ hh
  · rename_i o ho
    simp only [ho] at hh
    split
    · rename_i hv
      rw [if_pos hv] at hh
      exact ⟨hh.1, aop_mono (fun d H1 k => h _ _ k) hh.2⟩
    · rename_i hv
      rw [if_neg hv] at hh
      obtain ⟨d, h1, h2⟩ := hh
      exact ⟨d, h1, h _ _ h2⟩
theorem wpOp_of_y {M : Mem} {μ : Mu} {H : List Ob} {w : World} {a : Act} {ts : List D} {listed : Array Bool} {i : Nat} {K : List D → List Ob → Prop} {next : Act → World → Prop} {Qx : Exit → Act → World → Prop}
    (h : R E M μ H w) (ht : RelL M μ ts a.tmps.toList) (hd : a.defers = []) (hq : yOp E md all listed i K ts H)
    (hn : ∀ M' μ' ts' H' w' a', M.le M' → μ.le μ' → R E M' μ' H' w' → RelL M' μ' ts' a'.tmps.toList → a'.defers = [] → K ts' H' → next a' w') : wpOp E.P all Qx i next a w := by
  unfold yOp at hq
  cases ho : all[i]? with
  | none =>
    simp only [ho] at hq
    unfold wpOp; simp only [ho]
    exact hn M μ ts H w a (.refl _) (.refl _) h ht hd hq
  | some o =>
    simp only [ho] at hq
    split at hq
    · obtain ⟨hg, hq⟩ := hq
      unfold wpOp; simp only [ho]
      simp only [Region.wanted, hg, if_true]
      exact .inl (aop_sound h ht hq fun d v M' μ' H' w' h1 h2 h3 h4 h5 => hn M' μ' _ H' w' _ h1 h2 h3 (rel_put (RelL.mono h1 h2 ht) o.dst h4) (by rw [put_defers]; exact hd) h5)
    · obtain ⟨d, hy, hk⟩ := hq
      refine wpOp_of_q (K := fun ts' => K ts' H) h ht hd ?_ (fun M' μ' ts' w' a' h1 h2 h3 h4 h5 hk => hn M' μ' ts' H w' a' h1 h2 h3 h4 h5 hk)
      unfold qOp
      simp only [ho]
      exact ⟨d, hy.yd (fun _ => rfl), hk⟩
theorem yOp_put {listed : Array Bool} {i j : Nat} {oi oj : Oper} {v : D} (hj : all[j]? = some oj) (hap : oi.apart all oj = true) (hst : heavyB oj = true → stayB md all listed i = false) {K : List D → List Ob → Prop} {ts : List D} {H : List Ob} (hy : Yf E (Sy md all listed i H) all oi v ts) (h : yOp E md all listed j K (putD ts oi.dst v) H) :
    yOp E md all listed j (fun ts' H' => Yf E (Sy md all (listed.setIfInBounds j true) i H') all oi v ts' ∧ K (putD ts' oi.dst v) H') ts H := by
  obtain ⟨h1, h2, h3⟩ := Oper.apart_spec hap
  unfold yOp at *
  simp only [hj] at *
  split
  · rename_i hv
    rw [if_pos hv] at h
    refine ⟨h.1, ?_⟩
    have h0 : ∀ s, oi.dst = some s → ∀ x ∈ oj.op.operands.toList, x ≠ .tmp s := fun s hs x hx ex => by
      refine h1 s hs ?_
      subst ex
      simp only [Oper.looksAt, List.mem_append, List.mem_filterMap]
      exact .inl ⟨_, hx, rfl⟩
    have h2' := h.2
    rw [aop_congr fun x hx => ev_putD fun s hs => h0 s hs x hx] at h2'
    refine aop_mono (fun d H1 k => ⟨?_, ?_⟩) h2'
    · rw [Yf_putD h3]
      exact hy.weak fun H' _ e => by rw [hst hv] at e; cases e
    · rw [putD_comm (fun s hs => h2 s hs)] at k
      exact k
  · rename_i hv
    rw [if_neg hv] at h
    obtain ⟨d, g1, g2⟩ := h
    rw [Yf_putD h1] at g1
    refine ⟨d, g1, ?_, ?_⟩
    · rw [Yf_putD h3]
      exact hy.weak fun H' hs e => hs (stayB_mono e)
    · rw [putD_comm (fun s hs => h2 s hs)] at g2
      exact g2

def yAny (E : Env) (md : Region.Mode) (all : Array Oper) (L : List D → List Ob → Prop) : Nat → Array Bool → List D → List Ob → Prop
  | 0, listed, ts, H => Region.ready md all listed = [] ∧ L ts H
  | f + 1, listed, ts, H => Region.ready md all listed ≠ [] ∧ ∀ i ∈ Region.ready md all listed, yOp E md all listed i (yAny E md all L f (listed.setIfInBounds i true)) ts H
theorem wpAny_of_y {L : List D → List Ob → Prop} {Q' : Exit → Act → World → Prop} {M0 : Mem} {μ0 : Mu}
    (hL : ∀ ts H M μ w a, M0.le M → μ0.le μ → R E M μ H w → RelL M μ ts a.tmps.toList → a.defers = [] → L ts H → Q' .normal a w) :
    ∀ (f : Nat) (listed : Array Bool) (ts : List D) (H : List Ob) (M : Mem) (μ : Mu) (w : World) (a : Act), M0.le M → μ0.le μ → R E M μ H w → RelL M μ ts a.tmps.toList → a.defers = [] → yAny E md all L f listed ts H → wpAny E.P md all Q' f listed a w
  | 0, listed, ts, H, M, μ, w, a, h1, h2, h3, h4, h5, h => ⟨h.1, hL _ _ _ _ _ _ h1 h2 h3 h4 h5 h.2⟩
  | f + 1, listed, ts, H, M, μ, w, a, h1, h2, h3, h4, h5, h =>
    ⟨fun h0 => absurd h0 h.1, fun i hi => wpOp_of_y h3 h4 h5 (h.2 i hi) fun M' μ' ts' H' w' a' g1 g2 g3 g4 g5 g7 => wpAny_of_y hL f _ ts' H' M' μ' w' a' (h1.trans g1) (h2.trans g2) g3 g4 g5 g7⟩
theorem yAny_first {i : Nat} {oi : Oper} {v : D} {L : List D → List Ob → Prop} (hi : all[i]? = some oi) (hlt : heavyB oi = false) :
    ∀ (f : Nat) (listed : Array Bool) (ts : List D) (H : List Ob), Cl md all listed →
      (∀ j oj, all[j]? = some oj → j ≠ i → listed.getD j true = false → (∀ e ∈ oj.after, Region.binds md e = true → e.on ≠ i) → oi.apart all oj = true) →
      i ∈ Region.ready md all listed → Yf E (Sy md all listed i H) all oi v ts →
      yAny E md all L f (listed.setIfInBounds i true) (putD ts oi.dst v) H → yAny E md all L (f + 1) listed ts H := by
  have self : ∀ {listed : Array Bool} {ts : List D} {H : List Ob} {K : List D → List Ob → Prop}, Yf E (Sy md all listed i H) all oi v ts → K (putD ts oi.dst v) H → yOp E md all listed i K ts H := fun hy hk => by
    unfold yOp; simp only [hi, hlt, Bool.false_eq_true, if_false]; exact ⟨v, hy, hk⟩
  intro f
  induction f with
  | zero =>
    intro listed ts H _ _ hr hy Hh
    refine ⟨fun h => (by rw [h] at hr; cases hr), fun j hj => ?_⟩
    by_cases hji : j = i
    · subst hji; exact self hy Hh
    · have := ready_mono hj hji
      rw [Hh.1] at this; cases this
  | succ f ih =>
    intro listed ts H hcl hfree hr hy Hh
    have hun := (mem_ready.1 hr).1
    refine ⟨fun h => (by rw [h] at hr; cases hr), fun j hj => ?_⟩
    by_cases hji : j = i
    · subst hji; exact self hy Hh
    · have h1 := Hh.2 j (ready_mono hj hji)
      obtain ⟨hjun, oj, hoj, hall⟩ := mem_ready.1 hj
      have hnot : ∀ e ∈ oj.after, Region.binds md e = true → e.on ≠ i := fun e he hb heq => by
        have h1 := hall e he hb
        rw [heq, getD_both hun] at h1
        cases h1
      have h1' : yOp E md all listed j (yAny E md all L f ((listed.setIfInBounds i true).setIfInBounds j true)) (putD ts oi.dst v) H := by
        have e : Sy md all (listed.setIfInBounds i true) j = Sy md all listed j := by
          funext A B; unfold Sy; rw [stayB_light hi hlt]
        unfold yOp at h1 ⊢
        rw [e] at h1
        exact h1
      have hst : heavyB oj = true → stayB md all listed i = false := fun hv => by
        rw [Bool.eq_false_iff]
        intro hs
        have := stayB_iff.1 hs j oj hoj hjun hv
        have hw := wait_listed hcl (fun k hk => getD_up hk) 6 oj hall this
        rw [getD_both hun] at hw
        cases hw
      have h2 := yOp_put hoj (hfree j oj hoj hji hjun hnot) hst hy h1'
      have hfree' : ∀ k ok, all[k]? = some ok → k ≠ i → (listed.setIfInBounds j true).getD k true = false →
          (∀ e ∈ ok.after, Region.binds md e = true → e.on ≠ i) → oi.apart all ok = true := fun k ok hk hki hun hno => hfree k ok hk hki (listed_mono hun) hno
      refine yOp_mono (fun ts' H' h3 => ih (listed.setIfInBounds j true) ts' H' (hcl.set hoj hall) hfree' (ready_mono hr (Ne.symm hji)) h3.1 ?_) h2
      rw [Array.setIfInBounds_comm _ _ hji]
      exact h3.2

def stayL (md : Region.Mode) (all : Array Oper) (k : Nat) (os : List Oper) : Bool := os.all fun o => !heavyB o || waitB md all o k
/-- The operations, in the text's order. -/
def yops (E : Env) (md : Region.Mode) (all : Array Oper) : Nat → List Oper → List D → List Ob → (List D → List Ob → Prop) → Prop
  | _, [], ts, H, Q => Q ts H
  | k, o :: os, ts, H, Q => o.guard = none ∧ if heavyB o then aop E o ts H fun d H' => yops E md all (k + 1) os (putD ts o.dst d) H' Q else
      Ex (fun d => ∀ H', (stayL md all k os = true → H' = H) → aop E o ts H' fun d' H'' => d' = d ∧ H'' = H') (fun d => yops E md all (k + 1) os (putD ts o.dst d) H Q)
theorem yAny_lex {L : List D → List Ob → Prop} :
    ∀ (l : List Oper) (k : Nat) (listed : Array Bool) (ts : List D) (H : List Ob), (∀ j, l[j]? = all[k + j]?) → (∀ m, m < k → listed.getD m true = true) → Cl md all listed →
    mixFrom md all l k listed = true → yops E md all k l ts H L → yAny E md all L l.length listed ts H
  | [], k, listed, ts, H, _, _, _, hB, h => ⟨by simpa [mixFrom] using hB, h⟩
  | o :: l, k, listed, ts, H, hl, hm, hC, hB, h => by
    have h0 : all[k]? = some o := by simpa using (hl 0).symm
    have hl' : ∀ j, l[j]? = all[k + 1 + j]? := fun j => by have := hl (j + 1); simpa [Nat.add_assoc, Nat.add_comm 1 j] using this
    have hm' : ∀ m, m < k + 1 → (listed.setIfInBounds k true).getD m true = true := fun m hmk => by
      cases hc : (listed.setIfInBounds k true).getD m true with
      | true => rfl
      | false =>
        have h1 := listed_mono hc
        by_cases e : m = k
        · subst e
          by_cases hl : m < listed.size
          · simp [Array.getD_eq_getD_getElem?, hl] at hc
          · simp [Array.getD_eq_getD_getElem?, hl] at hc
        · rw [hm m (by omega)] at h1; cases h1
    simp only [mixFrom, Bool.and_eq_true] at hB
    obtain ⟨⟨hr, hf⟩, hB'⟩ := hB
    have hr : k ∈ Region.ready md all listed := by simpa using hr
    have hC' : Cl md all (listed.setIfInBounds k true) := by
      obtain ⟨_, o', ho', hall⟩ := mem_ready.1 hr
      exact hC.set ho' hall
    unfold yops at h
    obtain ⟨hg, h⟩ := h
    cases hv : heavyB o with
    | false =>
      rw [hv] at hf
      simp only [hv, Bool.false_eq_true, if_false] at h
      obtain ⟨d, hy, hK⟩ := h
      refine yAny_first h0 hv l.length listed ts H hC (Region.free_spec h0 (by simpa using hf)) hr (v := d) ?_ (yAny_lex l (k + 1) _ _ _ hl' hm' hC' hB' hK)
      unfold Yf
      simp only [hg]
      intro H' hs
      refine hy H' fun e => hs (stayB_iff.2 fun m om hom hmu hmv => ?_)
      have hmk : ¬ m < k := fun hlt => by rw [hm m hlt] at hmu; cases hmu
      have hne : m ≠ k := fun e => by subst e; rw [h0] at hom; cases hom; rw [hv] at hmv; cases hmv
      obtain ⟨j, rfl⟩ : ∃ j, m = k + 1 + j := ⟨m - (k + 1), by omega⟩
      rw [← hl' j] at hom
      have := List.all_eq_true.1 e om (List.mem_of_getElem? hom)
      rw [hmv] at this
      simpa using this
    | true =>
      rw [hv] at hf
      simp only [if_true, Bool.and_eq_true, beq_iff_eq] at hf
      simp only [hv, if_true] at h
      refine ⟨fun e => (by rw [e] at hr; cases hr), fun j hj => ?_⟩
      rw [hf.2] at hj
      have : j = k := by simpa using hj
      subst this
      unfold yOp
      simp only [h0, hv, if_true]
      exact ⟨hg, aop_mono (fun d H1 k => yAny_lex l _ _ _ _ hl' hm' hC' hB' k) h⟩
end

theorem sat_stay {E : Env} {ts : List D} {H : List Ob} {Q : Exit → List D → List Ob → Prop} {id : Nat} {l : List Oper} (hm : E.P.follows .mixedOrders = true)
    (h : yops E .any l.toArray 0 l ts H fun ts' H' => Q .normal ts' H') (hB : mixB l = true := by kernel_rfl) : Sat E (.region id l.toArray true) ts H Q := by
  intro M μ w a h1 h2 h3 h4 h5
  simp only [mixB, Bool.and_eq_true] at hB
  refine wp_region_any hm ?_
  have hq := yAny_lex (E := E) (md := .any) (all := l.toArray) l 0 (Array.replicate l.length false) ts H (fun j => by simp) (fun m hm => absurd hm (Nat.not_lt_zero _)) (fun k o ho hk => by
    have hkl : k < l.length := by have := (Array.getElem?_eq_some_iff.1 ho).1; simpa using this
    simp [Array.getD_eq_getD_getElem?, hkl] at hk) hB.2 h
  have := wpAny_of_y (E := E) (md := .any) (all := l.toArray) (M0 := M) (μ0 := μ)
    (Q' := fun e a' w' => ∃ M' μ' ts' H', E.M0.le M' ∧ E.μ0.le μ' ∧ R E M' μ' H' w' ∧ RelL M' μ' ts' a'.tmps.toList ∧ a'.defers = [] ∧ Q e ts' H')
    (fun ts' H' M' μ' w' a' g1 g2 g3 g4 g5 hL => ⟨M', μ', ts', H', h1.trans g1, h2.trans g2, g3, g4, g5, hL⟩)
    l.length (Array.replicate l.length false) ts H M μ w.drew a (.refl _) (.refl _) h3.drew h4 h5 hq
  simpa using this

section
variable {E : Env} {os : List Oper} {ts : List D} {H : List Ob} {Q : List D → List Ob → Prop} {o : Oper} {k : Nat} {all : Array Oper}
theorem yk (h : Q ts H) : yops E .any all k [] ts H Q := h
/-- What may come at any time. -/
theorem yg (hv : heavyB o = false) (hg : o.guard = none) (h : ∀ K : D → Prop, (∀ d, yops E .any all (k + 1) os (putD ts o.dst d) H Q → K d) → Ex (fun d => ∀ H, aop E o ts H fun d' H' => d' = d ∧ H' = H) K) : yops E .any all k (o :: os) ts H Q := by
  unfold yops
  rw [hv]
  obtain ⟨d, h1, h2⟩ := h _ fun _ h => h
  exact ⟨hg, d, fun H' _ => h1 H', h2⟩
/-- What looks into the heap. -/
def lookB (o : Oper) : Bool := match o.op with
  | .load _ _ => true
  | .indexAddr _ _ _ => true
  | _ => false
/-- What all that changes the heap waits for. -/
theorem yz (_ : lookB o = true) (hv : heavyB o = false) (hg : o.guard = none) (hs : stayL .any all k os = true) (h : ∀ K : D → Prop, (∀ d, yops E .any all (k + 1) os (putD ts o.dst d) H Q → K d) → Ex (fun d => aop E o ts H fun d' H' => d' = d ∧ H' = H) K) : yops E .any all k (o :: os) ts H Q := by
  unfold yops
  rw [hv]
  obtain ⟨d, h1, h2⟩ := h _ fun _ h => h
  exact ⟨hg, d, fun H' e => by rw [e hs]; exact h1, h2⟩
theorem yh (hv : heavyB o = true) (hg : o.guard = none) (h : ∀ K : D → List Ob → Prop, (∀ d H', yops E .any all (k + 1) os (putD ts o.dst d) H' Q → K d H') → aop E o ts H K) : yops E .any all k (o :: os) ts H Q := by
  unfold yops
  rw [hv]
  exact ⟨hg, h _ fun _ _ h => h⟩
end
end Go.Ag
/- AGo, part 36: a walk's steps, told once. -/
namespace Go.Ag
open Go Go.RowKit
set_option linter.all false

/-! ### a walk's steps, told once: what is left of the goal is k -/
theorem c2 {p0 p1 : Prop} (a0 : p0) (a1 : p1) : p0 ∧ p1 := ⟨a0, a1⟩
theorem c3 {p0 p1 p2 : Prop} (a0 : p0) (a1 : p1) (a2 : p2) : p0 ∧ p1 ∧ p2 := ⟨a0, a1, a2⟩
theorem c4 {p0 p1 p2 p3 : Prop} (a0 : p0) (a1 : p1) (a2 : p2) (a3 : p3) : p0 ∧ p1 ∧ p2 ∧ p3 := ⟨a0, a1, a2, a3⟩
theorem c5 {p0 p1 p2 p3 p4 : Prop} (a0 : p0) (a1 : p1) (a2 : p2) (a3 : p3) (a4 : p4) : p0 ∧ p1 ∧ p2 ∧ p3 ∧ p4 := ⟨a0, a1, a2, a3, a4⟩
theorem c6 {p0 p1 p2 p3 p4 p5 : Prop} (a0 : p0) (a1 : p1) (a2 : p2) (a3 : p3) (a4 : p4) (a5 : p5) : p0 ∧ p1 ∧ p2 ∧ p3 ∧ p4 ∧ p5 := ⟨a0, a1, a2, a3, a4, a5⟩
theorem c7 {p0 p1 p2 p3 p4 p5 p6 : Prop} (a0 : p0) (a1 : p1) (a2 : p2) (a3 : p3) (a4 : p4) (a5 : p5) (a6 : p6) : p0 ∧ p1 ∧ p2 ∧ p3 ∧ p4 ∧ p5 ∧ p6 := ⟨a0, a1, a2, a3, a4, a5, a6⟩
theorem c8 {p0 p1 p2 p3 p4 p5 p6 p7 : Prop} (a0 : p0) (a1 : p1) (a2 : p2) (a3 : p3) (a4 : p4) (a5 : p5) (a6 : p6) (a7 : p7) : p0 ∧ p1 ∧ p2 ∧ p3 ∧ p4 ∧ p5 ∧ p6 ∧ p7 := ⟨a0, a1, a2, a3, a4, a5, a6, a7⟩
theorem c9 {p0 p1 p2 p3 p4 p5 p6 p7 p8 : Prop} (a0 : p0) (a1 : p1) (a2 : p2) (a3 : p3) (a4 : p4) (a5 : p5) (a6 : p6) (a7 : p7) (a8 : p8) : p0 ∧ p1 ∧ p2 ∧ p3 ∧ p4 ∧ p5 ∧ p6 ∧ p7 ∧ p8 := ⟨a0, a1, a2, a3, a4, a5, a6, a7, a8⟩
theorem c10 {p0 p1 p2 p3 p4 p5 p6 p7 p8 p9 : Prop} (a0 : p0) (a1 : p1) (a2 : p2) (a3 : p3) (a4 : p4) (a5 : p5) (a6 : p6) (a7 : p7) (a8 : p8) (a9 : p9) : p0 ∧ p1 ∧ p2 ∧ p3 ∧ p4 ∧ p5 ∧ p6 ∧ p7 ∧ p8 ∧ p9 := ⟨a0, a1, a2, a3, a4, a5, a6, a7, a8, a9⟩
theorem c11 {p0 p1 p2 p3 p4 p5 p6 p7 p8 p9 p10 : Prop} (a0 : p0) (a1 : p1) (a2 : p2) (a3 : p3) (a4 : p4) (a5 : p5) (a6 : p6) (a7 : p7) (a8 : p8) (a9 : p9) (a10 : p10) : p0 ∧ p1 ∧ p2 ∧ p3 ∧ p4 ∧ p5 ∧ p6 ∧ p7 ∧ p8 ∧ p9 ∧ p10 := ⟨a0, a1, a2, a3, a4, a5, a6, a7, a8, a9, a10⟩
theorem c12 {p0 p1 p2 p3 p4 p5 p6 p7 p8 p9 p10 p11 : Prop} (a0 : p0) (a1 : p1) (a2 : p2) (a3 : p3) (a4 : p4) (a5 : p5) (a6 : p6) (a7 : p7) (a8 : p8) (a9 : p9) (a10 : p10) (a11 : p11) : p0 ∧ p1 ∧ p2 ∧ p3 ∧ p4 ∧ p5 ∧ p6 ∧ p7 ∧ p8 ∧ p9 ∧ p10 ∧ p11 := ⟨a0, a1, a2, a3, a4, a5, a6, a7, a8, a9, a10, a11⟩
theorem c13 {p0 p1 p2 p3 p4 p5 p6 p7 p8 p9 p10 p11 p12 : Prop} (a0 : p0) (a1 : p1) (a2 : p2) (a3 : p3) (a4 : p4) (a5 : p5) (a6 : p6) (a7 : p7) (a8 : p8) (a9 : p9) (a10 : p10) (a11 : p11) (a12 : p12) : p0 ∧ p1 ∧ p2 ∧ p3 ∧ p4 ∧ p5 ∧ p6 ∧ p7 ∧ p8 ∧ p9 ∧ p10 ∧ p11 ∧ p12 := ⟨a0, a1, a2, a3, a4, a5, a6, a7, a8, a9, a10, a11, a12⟩
theorem c14 {p0 p1 p2 p3 p4 p5 p6 p7 p8 p9 p10 p11 p12 p13 : Prop} (a0 : p0) (a1 : p1) (a2 : p2) (a3 : p3) (a4 : p4) (a5 : p5) (a6 : p6) (a7 : p7) (a8 : p8) (a9 : p9) (a10 : p10) (a11 : p11) (a12 : p12) (a13 : p13) : p0 ∧ p1 ∧ p2 ∧ p3 ∧ p4 ∧ p5 ∧ p6 ∧ p7 ∧ p8 ∧ p9 ∧ p10 ∧ p11 ∧ p12 ∧ p13 := ⟨a0, a1, a2, a3, a4, a5, a6, a7, a8, a9, a10, a11, a12, a13⟩
theorem c15 {p0 p1 p2 p3 p4 p5 p6 p7 p8 p9 p10 p11 p12 p13 p14 : Prop} (a0 : p0) (a1 : p1) (a2 : p2) (a3 : p3) (a4 : p4) (a5 : p5) (a6 : p6) (a7 : p7) (a8 : p8) (a9 : p9) (a10 : p10) (a11 : p11) (a12 : p12) (a13 : p13) (a14 : p14) : p0 ∧ p1 ∧ p2 ∧ p3 ∧ p4 ∧ p5 ∧ p6 ∧ p7 ∧ p8 ∧ p9 ∧ p10 ∧ p11 ∧ p12 ∧ p13 ∧ p14 := ⟨a0, a1, a2, a3, a4, a5, a6, a7, a8, a9, a10, a11, a12, a13, a14⟩
theorem c16 {p0 p1 p2 p3 p4 p5 p6 p7 p8 p9 p10 p11 p12 p13 p14 p15 : Prop} (a0 : p0) (a1 : p1) (a2 : p2) (a3 : p3) (a4 : p4) (a5 : p5) (a6 : p6) (a7 : p7) (a8 : p8) (a9 : p9) (a10 : p10) (a11 : p11) (a12 : p12) (a13 : p13) (a14 : p14) (a15 : p15) : p0 ∧ p1 ∧ p2 ∧ p3 ∧ p4 ∧ p5 ∧ p6 ∧ p7 ∧ p8 ∧ p9 ∧ p10 ∧ p11 ∧ p12 ∧ p13 ∧ p14 ∧ p15 := ⟨a0, a1, a2, a3, a4, a5, a6, a7, a8, a9, a10, a11, a12, a13, a14, a15⟩
theorem c17 {p0 p1 p2 p3 p4 p5 p6 p7 p8 p9 p10 p11 p12 p13 p14 p15 p16 : Prop} (a0 : p0) (a1 : p1) (a2 : p2) (a3 : p3) (a4 : p4) (a5 : p5) (a6 : p6) (a7 : p7) (a8 : p8) (a9 : p9) (a10 : p10) (a11 : p11) (a12 : p12) (a13 : p13) (a14 : p14) (a15 : p15) (a16 : p16) : p0 ∧ p1 ∧ p2 ∧ p3 ∧ p4 ∧ p5 ∧ p6 ∧ p7 ∧ p8 ∧ p9 ∧ p10 ∧ p11 ∧ p12 ∧ p13 ∧ p14 ∧ p15 ∧ p16 := ⟨a0, a1, a2, a3, a4, a5, a6, a7, a8, a9, a10, a11, a12, a13, a14, a15, a16⟩
theorem c18 {p0 p1 p2 p3 p4 p5 p6 p7 p8 p9 p10 p11 p12 p13 p14 p15 p16 p17 : Prop} (a0 : p0) (a1 : p1) (a2 : p2) (a3 : p3) (a4 : p4) (a5 : p5) (a6 : p6) (a7 : p7) (a8 : p8) (a9 : p9) (a10 : p10) (a11 : p11) (a12 : p12) (a13 : p13) (a14 : p14) (a15 : p15) (a16 : p16) (a17 : p17) : p0 ∧ p1 ∧ p2 ∧ p3 ∧ p4 ∧ p5 ∧ p6 ∧ p7 ∧ p8 ∧ p9 ∧ p10 ∧ p11 ∧ p12 ∧ p13 ∧ p14 ∧ p15 ∧ p16 ∧ p17 := ⟨a0, a1, a2, a3, a4, a5, a6, a7, a8, a9, a10, a11, a12, a13, a14, a15, a16, a17⟩
theorem c19 {p0 p1 p2 p3 p4 p5 p6 p7 p8 p9 p10 p11 p12 p13 p14 p15 p16 p17 p18 : Prop} (a0 : p0) (a1 : p1) (a2 : p2) (a3 : p3) (a4 : p4) (a5 : p5) (a6 : p6) (a7 : p7) (a8 : p8) (a9 : p9) (a10 : p10) (a11 : p11) (a12 : p12) (a13 : p13) (a14 : p14) (a15 : p15) (a16 : p16) (a17 : p17) (a18 : p18) : p0 ∧ p1 ∧ p2 ∧ p3 ∧ p4 ∧ p5 ∧ p6 ∧ p7 ∧ p8 ∧ p9 ∧ p10 ∧ p11 ∧ p12 ∧ p13 ∧ p14 ∧ p15 ∧ p16 ∧ p17 ∧ p18 := ⟨a0, a1, a2, a3, a4, a5, a6, a7, a8, a9, a10, a11, a12, a13, a14, a15, a16, a17, a18⟩
theorem c20 {p0 p1 p2 p3 p4 p5 p6 p7 p8 p9 p10 p11 p12 p13 p14 p15 p16 p17 p18 p19 : Prop} (a0 : p0) (a1 : p1) (a2 : p2) (a3 : p3) (a4 : p4) (a5 : p5) (a6 : p6) (a7 : p7) (a8 : p8) (a9 : p9) (a10 : p10) (a11 : p11) (a12 : p12) (a13 : p13) (a14 : p14) (a15 : p15) (a16 : p16) (a17 : p17) (a18 : p18) (a19 : p19) : p0 ∧ p1 ∧ p2 ∧ p3 ∧ p4 ∧ p5 ∧ p6 ∧ p7 ∧ p8 ∧ p9 ∧ p10 ∧ p11 ∧ p12 ∧ p13 ∧ p14 ∧ p15 ∧ p16 ∧ p17 ∧ p18 ∧ p19 := ⟨a0, a1, a2, a3, a4, a5, a6, a7, a8, a9, a10, a11, a12, a13, a14, a15, a16, a17, a18, a19⟩
structure Bx (p : Prop) : Prop where
  out : p
theorem W0 {U R G : Prop} (u : U) (k : R) (h : U → Bx R → G := by intro u k; (try with_reducible intro K hK); (repeat (first | refine wa ?_ | refine wb rfl ?_ | refine wc rfl rfl hM ?_ | refine wd rfl hM ?_ | ((first | refine we rfl fun K hK => ?_ | refine wf rfl rfl fun K hK => ?_ | refine wg rfl rfl fun K hK => ?_ | refine wh rfl fun K hK => ?_); (simp only [lo, ld, ↓aop, ↓aCall, hP, hG, Nat.reduceLT, ↓reduceIte, Nat.reduceEqDiff, Nat.reduceAdd, Nat.reduceMul, Nat.reduceLeDiff, reduceCtorEq, D.cs, D.plain, fillD, chop, List.replicate, u]; repeat (with_reducible refine And.intro ?_ ?_; focus (first | decide | omega | (simp only [ln]; omega)))); try ((first | refine hK _ _ ?_ | refine hK _ ?_); clear hK K; simp only [lp])) | ((first | refine wi ?_ | refine wj ?_ | refine wk ?_ | refine wl ?_ | refine wm ?_ | refine wn ?_); simp only [lt, ↓reduceIte, Nat.reduceEqDiff]) | refine wo ?_)); first | exact k.out | (revert hK; revert K; exact k.out)) : G := h u ⟨k⟩
theorem Q0 {U R G : Prop} (u : U) (k : R) (h : U → Bx R → G := by intro u k; (try with_reducible intro K hK); (repeat (first | refine wa ?_ | refine wb rfl ?_ | ((first | refine we rfl fun K hK => ?_ | refine wf rfl rfl fun K hK => ?_ | refine wg rfl rfl fun K hK => ?_ | refine wh rfl fun K hK => ?_); (simp only [lo, ld, ↓aop, ↓aCall, hP, hG, Nat.reduceLT, ↓reduceIte, Nat.reduceEqDiff, Nat.reduceAdd, Nat.reduceMul, Nat.reduceLeDiff, reduceCtorEq, D.cs, D.plain, fillD, chop, List.replicate, u]; repeat (with_reducible refine And.intro ?_ ?_; focus (first | decide | omega | (simp only [ln]; omega)))); try ((first | refine hK _ _ ?_ | refine hK _ ?_); clear hK K; simp only [lp])) | ((first | refine wi ?_ | refine wj ?_ | refine wk ?_ | refine wl ?_ | refine wm ?_ | refine wn ?_); simp only [lt, ↓reduceIte, Nat.reduceEqDiff]) | refine wo ?_)); first | exact k.out | (revert hK; revert K; exact k.out)) : G := h u ⟨k⟩
theorem S0 {U R G : Prop} (u : U) (k : R) (h : U → Bx R → G := by intro u k; (try with_reducible intro K hK); (repeat (first | refine wa ?_ | (((refine yz rfl rfl rfl ?_ fun K hK => ?_); (focus (kernel_rfl; done))); (simp only [lo, ld, ↓aop, ↓aCall, hP, hG, Nat.reduceLT, ↓reduceIte, Nat.reduceEqDiff, Nat.reduceAdd, Nat.reduceMul, Nat.reduceLeDiff, reduceCtorEq, D.cs, D.plain, fillD, chop, List.replicate, u]; repeat (with_reducible refine And.intro ?_ ?_; focus (first | decide | omega | (simp only [ln]; omega)))); try ((first | refine hK _ _ ?_ | refine hK _ ?_); clear hK K; simp only [lp])) | ((first | refine yg rfl rfl fun K hK => ?_ | refine yh rfl rfl fun K hK => ?_); (simp only [lo, ld, ↓aop, ↓aCall, hP, hG, Nat.reduceLT, ↓reduceIte, Nat.reduceEqDiff, Nat.reduceAdd, Nat.reduceMul, Nat.reduceLeDiff, reduceCtorEq, D.cs, D.plain, fillD, chop, List.replicate, u]; repeat (with_reducible refine And.intro ?_ ?_; focus (first | decide | omega | (simp only [ln]; omega)))); try ((first | refine hK _ _ ?_ | refine hK _ ?_); clear hK K; simp only [lp])) | (refine yk ?_; simp only [lt, ↓reduceIte, Nat.reduceEqDiff]))); first | exact k.out | (revert hK; revert K; exact k.out)) : G := h u ⟨k⟩
theorem G0 {U R G : Prop} (u : U) (k : R) (h : U → Bx R → G := by intro u k; (try with_reducible intro K hK); (first | ((first | refine wx ?_ | refine wy ?_ | refine wz ?_); (simp only [lo, ld, ↓aop, ↓aCall, hP, hG, Nat.reduceLT, ↓reduceIte, Nat.reduceEqDiff, Nat.reduceAdd, Nat.reduceMul, Nat.reduceLeDiff, reduceCtorEq, D.cs, D.plain, fillD, chop, List.replicate, u]; repeat (with_reducible refine And.intro ?_ ?_; focus (first | decide | omega | (simp only [ln]; omega)))); try ((first | refine hK _ _ ?_ | refine hK _ ?_); clear hK K; simp only [lp])) | refine we rfl fun K hK => ?_ | refine wf rfl rfl fun K hK => ?_ | refine wg rfl rfl fun K hK => ?_ | refine wh rfl fun K hK => ?_ | ((first | refine Xg rfl rfl (by decide) ?_ fun K hK => ?_ | refine Yg rfl rfl (by decide) ?_ fun K hK => ?_ | refine Zg rfl rfl rfl (by decide) ?_ fun K hK => ?_); (focus (simp only [look_cons, ↓reduceIte, Nat.reduceEqDiff, Bool.not_true, Bool.not_false]; done))) | ((first | refine Xn rfl rfl (by decide) ?_ ?_ | refine Yn rfl rfl (by decide) ?_ ?_ | refine Zn rfl rfl rfl (by decide) ?_ ?_); (focus (simp only [look_cons, ↓reduceIte, Nat.reduceEqDiff, Bool.not_true, Bool.not_false]; done)); simp only [lp]) | ((first | refine Xo rfl rfl (by decide) ?_ ?_ | refine Yo rfl rfl (by decide) ?_ ?_ | refine Zo rfl rfl rfl (by decide) ?_ ?_); (focus (simp only [look_cons, ↓reduceIte, Nat.reduceEqDiff, Bool.not_true, Bool.not_false]; done)); simp only [lp]) | ((first | refine wi ?_ | refine wj ?_ | refine wk ?_); simp only [lt, ↓reduceIte, Nat.reduceEqDiff])); (repeat (first | ((first | refine wx ?_ | refine wy ?_ | refine wz ?_); (simp only [lo, ld, ↓aop, ↓aCall, hP, hG, Nat.reduceLT, ↓reduceIte, Nat.reduceEqDiff, Nat.reduceAdd, Nat.reduceMul, Nat.reduceLeDiff, reduceCtorEq, D.cs, D.plain, fillD, chop, List.replicate, u]; repeat (with_reducible refine And.intro ?_ ?_; focus (first | decide | omega | (simp only [ln]; omega)))); try ((first | refine hK _ _ ?_ | refine hK _ ?_); clear hK K; simp only [lp])) | refine we rfl fun K hK => ?_ | refine wf rfl rfl fun K hK => ?_ | refine wg rfl rfl fun K hK => ?_ | refine wh rfl fun K hK => ?_ | ((first | refine Xg rfl rfl (by decide) ?_ fun K hK => ?_ | refine Yg rfl rfl (by decide) ?_ fun K hK => ?_ | refine Zg rfl rfl rfl (by decide) ?_ fun K hK => ?_); (focus (simp only [look_cons, ↓reduceIte, Nat.reduceEqDiff, Bool.not_true, Bool.not_false]; done))) | ((first | refine Xn rfl rfl (by decide) ?_ ?_ | refine Yn rfl rfl (by decide) ?_ ?_ | refine Zn rfl rfl rfl (by decide) ?_ ?_); (focus (simp only [look_cons, ↓reduceIte, Nat.reduceEqDiff, Bool.not_true, Bool.not_false]; done)); simp only [lp]) | ((first | refine Xo rfl rfl (by decide) ?_ ?_ | refine Yo rfl rfl (by decide) ?_ ?_ | refine Zo rfl rfl rfl (by decide) ?_ ?_); (focus (simp only [look_cons, ↓reduceIte, Nat.reduceEqDiff, Bool.not_true, Bool.not_false]; done)); simp only [lp]) | ((first | refine wi ?_ | refine wj ?_ | refine wk ?_); simp only [lt, ↓reduceIte, Nat.reduceEqDiff]))); first | exact k.out | (revert hK; revert K; exact k.out)) : G := h u ⟨k⟩
end Go.Ag
/- Facts on the types of a program, printed by types.py. -/
namespace Go.Ag
open Go Go.Proofs
theorem tk_0 : tk Tryz.prog 0 = .sc := by kernel_rfl
theorem ze_0 : zerosB Tryz.prog 0 = some [.any] := by kernel_rfl
theorem sz_0 : szB Tryz.prog 0 = 1 := by kernel_rfl
theorem tk_1 : tk Tryz.prog 1 = .sc := by kernel_rfl
theorem ze_1 : zerosB Tryz.prog 1 = some [.nilf] := by kernel_rfl
theorem sz_1 : szB Tryz.prog 1 = 1 := by kernel_rfl
theorem tk_2 : tk Tryz.prog 2 = (.it .i64) := by kernel_rfl
theorem ze_2 : zerosB Tryz.prog 2 = some [(.v (.int .i64 0))] := by kernel_rfl
theorem sz_2 : szB Tryz.prog 2 = 1 := by kernel_rfl
theorem tk_3 : tk Tryz.prog 3 = (.it .i64) := by kernel_rfl
theorem ze_3 : zerosB Tryz.prog 3 = some [(.v (.int .i64 0))] := by kernel_rfl
theorem sz_3 : szB Tryz.prog 3 = 1 := by kernel_rfl
theorem tk_4 : tk Tryz.prog 4 = .bl := by kernel_rfl
theorem ze_4 : zerosB Tryz.prog 4 = some [(.v (.bool false))] := by kernel_rfl
theorem sz_4 : szB Tryz.prog 4 = 1 := by kernel_rfl
theorem tk_5 : tk Tryz.prog 5 = (.it .u8) := by kernel_rfl
theorem ze_5 : zerosB Tryz.prog 5 = some [(.v (.int .u8 0))] := by kernel_rfl
theorem sz_5 : szB Tryz.prog 5 = 1 := by kernel_rfl
theorem tk_6 : tk Tryz.prog 6 = (.it .u8) := by kernel_rfl
theorem ze_6 : zerosB Tryz.prog 6 = some [(.v (.int .u8 0))] := by kernel_rfl
theorem sz_6 : szB Tryz.prog 6 = 1 := by kernel_rfl
theorem tk_7 : tk Tryz.prog 7 = (.st 4 [(0, 1), (1, 1), (2, 1), (3, 1)]) := by kernel_rfl
theorem ze_7 : zerosB Tryz.prog 7 = some [(.v (.int .i64 0)), (.v (.int .i64 0)), (.v (.bool false)), (.v (.int .u8 0))] := by kernel_rfl
theorem sz_7 : szB Tryz.prog 7 = 4 := by kernel_rfl
theorem kn_7 : knownB Tryz.prog 7 = true := by kernel_rfl
theorem tk_8 : tk Tryz.prog 8 = (.st 4 [(0, 1), (1, 1), (2, 1), (3, 1)]) := by kernel_rfl
theorem ze_8 : zerosB Tryz.prog 8 = some [(.v (.int .i64 0)), (.v (.int .i64 0)), (.v (.bool false)), (.v (.int .u8 0))] := by kernel_rfl
theorem sz_8 : szB Tryz.prog 8 = 4 := by kernel_rfl
theorem kn_8 : knownB Tryz.prog 8 = true := by kernel_rfl
theorem tk_9 : tk Tryz.prog 9 = .str := by kernel_rfl
theorem ze_9 : zerosB Tryz.prog 9 = some [(.v (.str []))] := by kernel_rfl
theorem sz_9 : szB Tryz.prog 9 = 1 := by kernel_rfl
theorem tk_10 : tk Tryz.prog 10 = .str := by kernel_rfl
theorem ze_10 : zerosB Tryz.prog 10 = some [(.v (.str []))] := by kernel_rfl
theorem sz_10 : szB Tryz.prog 10 = 1 := by kernel_rfl
theorem tk_11 : tk Tryz.prog 11 = .str := by kernel_rfl
theorem ze_11 : zerosB Tryz.prog 11 = some [(.v (.str []))] := by kernel_rfl
theorem sz_11 : szB Tryz.prog 11 = 1 := by kernel_rfl
theorem tk_12 : tk Tryz.prog 12 = (.it .u64) := by kernel_rfl
theorem ze_12 : zerosB Tryz.prog 12 = some [(.v (.int .u64 0))] := by kernel_rfl
theorem sz_12 : szB Tryz.prog 12 = 1 := by kernel_rfl
theorem tk_13 : tk Tryz.prog 13 = (.st 2 [(0, 1), (1, 1)]) := by kernel_rfl
theorem ze_13 : zerosB Tryz.prog 13 = some [(.v (.str [])), (.v (.int .u64 0))] := by kernel_rfl
theorem sz_13 : szB Tryz.prog 13 = 2 := by kernel_rfl
theorem kn_13 : knownB Tryz.prog 13 = true := by kernel_rfl
theorem tk_14 : tk Tryz.prog 14 = (.st 2 [(0, 1), (1, 1)]) := by kernel_rfl
theorem ze_14 : zerosB Tryz.prog 14 = some [(.v (.str [])), (.v (.int .u64 0))] := by kernel_rfl
theorem sz_14 : szB Tryz.prog 14 = 2 := by kernel_rfl
theorem kn_14 : knownB Tryz.prog 14 = true := by kernel_rfl
theorem tk_15 : tk Tryz.prog 15 = .pt := by kernel_rfl
theorem ze_15 : zerosB Tryz.prog 15 = some [.nilp] := by kernel_rfl
theorem sz_15 : szB Tryz.prog 15 = 1 := by kernel_rfl
theorem tk_16 : tk Tryz.prog 16 = .pt := by kernel_rfl
theorem ze_16 : zerosB Tryz.prog 16 = some [.nilp] := by kernel_rfl
theorem sz_16 : szB Tryz.prog 16 = 1 := by kernel_rfl
theorem tk_17 : tk Tryz.prog 17 = .pt := by kernel_rfl
theorem ze_17 : zerosB Tryz.prog 17 = some [.nilp] := by kernel_rfl
theorem sz_17 : szB Tryz.prog 17 = 1 := by kernel_rfl
theorem tk_18 : tk Tryz.prog 18 = (.st 1 [(0, 1)]) := by kernel_rfl
theorem ze_18 : zerosB Tryz.prog 18 = some [.nilp] := by kernel_rfl
theorem sz_18 : szB Tryz.prog 18 = 1 := by kernel_rfl
theorem kn_18 : knownB Tryz.prog 18 = true := by kernel_rfl
theorem tk_19 : tk Tryz.prog 19 = (.st 1 [(0, 1)]) := by kernel_rfl
theorem ze_19 : zerosB Tryz.prog 19 = some [.nilp] := by kernel_rfl
theorem sz_19 : szB Tryz.prog 19 = 1 := by kernel_rfl
theorem kn_19 : knownB Tryz.prog 19 = true := by kernel_rfl
theorem tk_20 : tk Tryz.prog 20 = .sc := by kernel_rfl
theorem ze_20 : zerosB Tryz.prog 20 = some [(.v .nili)] := by kernel_rfl
theorem sz_20 : szB Tryz.prog 20 = 1 := by kernel_rfl
theorem tk_21 : tk Tryz.prog 21 = (.it .i32) := by kernel_rfl
theorem ze_21 : zerosB Tryz.prog 21 = some [(.v (.int .i32 0))] := by kernel_rfl
theorem sz_21 : szB Tryz.prog 21 = 1 := by kernel_rfl
theorem tk_22 : tk Tryz.prog 22 = (.sl 26 6 104) := by kernel_rfl
theorem ze_22 : zerosB Tryz.prog 22 = some [.nils] := by kernel_rfl
theorem sz_22 : szB Tryz.prog 22 = 1 := by kernel_rfl
theorem tk_23 : tk Tryz.prog 23 = (.sl 37 2 32) := by kernel_rfl
theorem ze_23 : zerosB Tryz.prog 23 = some [.nils] := by kernel_rfl
theorem sz_23 : szB Tryz.prog 23 = 1 := by kernel_rfl
theorem tk_24 : tk Tryz.prog 24 = (.sl 46 3 48) := by kernel_rfl
theorem ze_24 : zerosB Tryz.prog 24 = some [.nils] := by kernel_rfl
theorem sz_24 : szB Tryz.prog 24 = 1 := by kernel_rfl
theorem tk_25 : tk Tryz.prog 25 = (.st 6 [(0, 1), (1, 1), (2, 1), (3, 1), (4, 1), (5, 1)]) := by kernel_rfl
theorem ze_25 : zerosB Tryz.prog 25 = some [(.v (.str [])), (.v (.str [])), (.v (.bool false)), (.v (.str [])), .nils, .nils] := by kernel_rfl
theorem sz_25 : szB Tryz.prog 25 = 6 := by kernel_rfl
theorem kn_25 : knownB Tryz.prog 25 = true := by kernel_rfl
theorem tk_26 : tk Tryz.prog 26 = (.st 6 [(0, 1), (1, 1), (2, 1), (3, 1), (4, 1), (5, 1)]) := by kernel_rfl
theorem ze_26 : zerosB Tryz.prog 26 = some [(.v (.str [])), (.v (.str [])), (.v (.bool false)), (.v (.str [])), .nils, .nils] := by kernel_rfl
theorem sz_26 : szB Tryz.prog 26 = 6 := by kernel_rfl
theorem kn_26 : knownB Tryz.prog 26 = true := by kernel_rfl
theorem tk_27 : tk Tryz.prog 27 = .sc := by kernel_rfl
theorem ze_27 : zerosB Tryz.prog 27 = some [.nilf] := by kernel_rfl
theorem sz_27 : szB Tryz.prog 27 = 1 := by kernel_rfl
theorem tk_28 : tk Tryz.prog 28 = .sc := by kernel_rfl
theorem ze_28 : zerosB Tryz.prog 28 = some [.nilf] := by kernel_rfl
theorem sz_28 : szB Tryz.prog 28 = 1 := by kernel_rfl
theorem tk_29 : tk Tryz.prog 29 = .sc := by kernel_rfl
theorem ze_29 : zerosB Tryz.prog 29 = some [.nilf] := by kernel_rfl
theorem sz_29 : szB Tryz.prog 29 = 1 := by kernel_rfl
theorem tk_30 : tk Tryz.prog 30 = .sc := by kernel_rfl
theorem ze_30 : zerosB Tryz.prog 30 = some [.nilf] := by kernel_rfl
theorem sz_30 : szB Tryz.prog 30 = 1 := by kernel_rfl
theorem tk_31 : tk Tryz.prog 31 = .sc := by kernel_rfl
theorem ze_31 : zerosB Tryz.prog 31 = some [.nilf] := by kernel_rfl
theorem sz_31 : szB Tryz.prog 31 = 1 := by kernel_rfl
theorem tk_32 : tk Tryz.prog 32 = .sc := by kernel_rfl
theorem ze_32 : zerosB Tryz.prog 32 = some [.nilf] := by kernel_rfl
theorem sz_32 : szB Tryz.prog 32 = 1 := by kernel_rfl
theorem tk_33 : tk Tryz.prog 33 = .sc := by kernel_rfl
theorem ze_33 : zerosB Tryz.prog 33 = some [.nilf] := by kernel_rfl
theorem sz_33 : szB Tryz.prog 33 = 1 := by kernel_rfl
theorem tk_34 : tk Tryz.prog 34 = .sc := by kernel_rfl
theorem ze_34 : zerosB Tryz.prog 34 = some [.nilf] := by kernel_rfl
theorem sz_34 : szB Tryz.prog 34 = 1 := by kernel_rfl
theorem tk_35 : tk Tryz.prog 35 = .sc := by kernel_rfl
theorem ze_35 : zerosB Tryz.prog 35 = some [.nilf] := by kernel_rfl
theorem sz_35 : szB Tryz.prog 35 = 1 := by kernel_rfl
theorem tk_36 : tk Tryz.prog 36 = (.st 2 [(0, 1), (1, 1)]) := by kernel_rfl
theorem ze_36 : zerosB Tryz.prog 36 = some [(.v (.str [])), (.v (.str []))] := by kernel_rfl
theorem sz_36 : szB Tryz.prog 36 = 2 := by kernel_rfl
theorem kn_36 : knownB Tryz.prog 36 = true := by kernel_rfl
theorem tk_37 : tk Tryz.prog 37 = (.st 2 [(0, 1), (1, 1)]) := by kernel_rfl
theorem ze_37 : zerosB Tryz.prog 37 = some [(.v (.str [])), (.v (.str []))] := by kernel_rfl
theorem sz_37 : szB Tryz.prog 37 = 2 := by kernel_rfl
theorem kn_37 : knownB Tryz.prog 37 = true := by kernel_rfl
theorem tk_38 : tk Tryz.prog 38 = .sc := by kernel_rfl
theorem ze_38 : zerosB Tryz.prog 38 = some [.nilf] := by kernel_rfl
theorem sz_38 : szB Tryz.prog 38 = 1 := by kernel_rfl
theorem tk_39 : tk Tryz.prog 39 = (.sl 48 7 112) := by kernel_rfl
theorem ze_39 : zerosB Tryz.prog 39 = some [.nils] := by kernel_rfl
theorem sz_39 : szB Tryz.prog 39 = 1 := by kernel_rfl
theorem tk_40 : tk Tryz.prog 40 = .sc := by kernel_rfl
theorem ze_40 : zerosB Tryz.prog 40 = some [.nilf] := by kernel_rfl
theorem sz_40 : szB Tryz.prog 40 = 1 := by kernel_rfl
theorem tk_41 : tk Tryz.prog 41 = (.it .i64) := by kernel_rfl
theorem ze_41 : zerosB Tryz.prog 41 = some [(.v (.int .i64 0))] := by kernel_rfl
theorem sz_41 : szB Tryz.prog 41 = 1 := by kernel_rfl
theorem tk_42 : tk Tryz.prog 42 = .sc := by kernel_rfl
theorem ze_42 : zerosB Tryz.prog 42 = some [.any] := by kernel_rfl
theorem sz_42 : szB Tryz.prog 42 = 1 := by kernel_rfl
theorem tk_43 : tk Tryz.prog 43 = .sc := by kernel_rfl
theorem ze_43 : zerosB Tryz.prog 43 = some [.nilf] := by kernel_rfl
theorem sz_43 : szB Tryz.prog 43 = 1 := by kernel_rfl
theorem tk_44 : tk Tryz.prog 44 = (.sl 9 1 16) := by kernel_rfl
theorem ze_44 : zerosB Tryz.prog 44 = some [.nils] := by kernel_rfl
theorem sz_44 : szB Tryz.prog 44 = 1 := by kernel_rfl
theorem tk_45 : tk Tryz.prog 45 = (.st 3 [(0, 1), (1, 1), (2, 1)]) := by kernel_rfl
theorem ze_45 : zerosB Tryz.prog 45 = some [(.v (.str [])), (.v (.int .i64 0)), .nils] := by kernel_rfl
theorem sz_45 : szB Tryz.prog 45 = 3 := by kernel_rfl
theorem kn_45 : knownB Tryz.prog 45 = true := by kernel_rfl
theorem tk_46 : tk Tryz.prog 46 = (.st 3 [(0, 1), (1, 1), (2, 1)]) := by kernel_rfl
theorem ze_46 : zerosB Tryz.prog 46 = some [(.v (.str [])), (.v (.int .i64 0)), .nils] := by kernel_rfl
theorem sz_46 : szB Tryz.prog 46 = 3 := by kernel_rfl
theorem kn_46 : knownB Tryz.prog 46 = true := by kernel_rfl
theorem tk_47 : tk Tryz.prog 47 = (.st 7 [(0, 1), (1, 1), (2, 1), (3, 3), (6, 1)]) := by kernel_rfl
theorem ze_47 : zerosB Tryz.prog 47 = some [(.v (.int .u8 0)), (.v (.str [])), (.v (.str [])), (.v (.str [])), (.v (.int .i64 0)), .nils, .nils] := by kernel_rfl
theorem sz_47 : szB Tryz.prog 47 = 7 := by kernel_rfl
theorem kn_47 : knownB Tryz.prog 47 = true := by kernel_rfl
theorem tk_48 : tk Tryz.prog 48 = (.st 7 [(0, 1), (1, 1), (2, 1), (3, 3), (6, 1)]) := by kernel_rfl
theorem ze_48 : zerosB Tryz.prog 48 = some [(.v (.int .u8 0)), (.v (.str [])), (.v (.str [])), (.v (.str [])), (.v (.int .i64 0)), .nils, .nils] := by kernel_rfl
theorem sz_48 : szB Tryz.prog 48 = 7 := by kernel_rfl
theorem kn_48 : knownB Tryz.prog 48 = true := by kernel_rfl
theorem tk_49 : tk Tryz.prog 49 = .sc := by kernel_rfl
theorem ze_49 : zerosB Tryz.prog 49 = some [.nilf] := by kernel_rfl
theorem sz_49 : szB Tryz.prog 49 = 1 := by kernel_rfl
theorem tk_50 : tk Tryz.prog 50 = .sc := by kernel_rfl
theorem ze_50 : zerosB Tryz.prog 50 = some [.nilf] := by kernel_rfl
theorem sz_50 : szB Tryz.prog 50 = 1 := by kernel_rfl
theorem tk_51 : tk Tryz.prog 51 = .sc := by kernel_rfl
theorem ze_51 : zerosB Tryz.prog 51 = some [.nilf] := by kernel_rfl
theorem sz_51 : szB Tryz.prog 51 = 1 := by kernel_rfl
theorem tk_52 : tk Tryz.prog 52 = .sc := by kernel_rfl
theorem ze_52 : zerosB Tryz.prog 52 = some [.any] := by kernel_rfl
theorem sz_52 : szB Tryz.prog 52 = 1 := by kernel_rfl
theorem tk_53 : tk Tryz.prog 53 = .sc := by kernel_rfl
theorem ze_53 : zerosB Tryz.prog 53 = some [.nilf] := by kernel_rfl
theorem sz_53 : szB Tryz.prog 53 = 1 := by kernel_rfl
theorem tk_54 : tk Tryz.prog 54 = .sc := by kernel_rfl
theorem ze_54 : zerosB Tryz.prog 54 = some [.any] := by kernel_rfl
theorem sz_54 : szB Tryz.prog 54 = 1 := by kernel_rfl
theorem tk_55 : tk Tryz.prog 55 = .sc := by kernel_rfl
theorem ze_55 : zerosB Tryz.prog 55 = some [.nilf] := by kernel_rfl
theorem sz_55 : szB Tryz.prog 55 = 1 := by kernel_rfl
theorem tk_56 : tk Tryz.prog 56 = .sc := by kernel_rfl
theorem ze_56 : zerosB Tryz.prog 56 = some [.nilf] := by kernel_rfl
theorem sz_56 : szB Tryz.prog 56 = 1 := by kernel_rfl
theorem tk_57 : tk Tryz.prog 57 = .sc := by kernel_rfl
theorem ze_57 : zerosB Tryz.prog 57 = some [.nilf] := by kernel_rfl
theorem sz_57 : szB Tryz.prog 57 = 1 := by kernel_rfl
theorem tk_58 : tk Tryz.prog 58 = .sc := by kernel_rfl
theorem ze_58 : zerosB Tryz.prog 58 = some [.nilf] := by kernel_rfl
theorem sz_58 : szB Tryz.prog 58 = 1 := by kernel_rfl
theorem tk_59 : tk Tryz.prog 59 = .sc := by kernel_rfl
theorem ze_59 : zerosB Tryz.prog 59 = some [.nilf] := by kernel_rfl
theorem sz_59 : szB Tryz.prog 59 = 1 := by kernel_rfl
theorem tk_60 : tk Tryz.prog 60 = .sc := by kernel_rfl
theorem ze_60 : zerosB Tryz.prog 60 = some [.nilf] := by kernel_rfl
theorem sz_60 : szB Tryz.prog 60 = 1 := by kernel_rfl
theorem tk_61 : tk Tryz.prog 61 = .sc := by kernel_rfl
theorem ze_61 : zerosB Tryz.prog 61 = some [.nilf] := by kernel_rfl
theorem sz_61 : szB Tryz.prog 61 = 1 := by kernel_rfl
theorem tk_62 : tk Tryz.prog 62 = .sc := by kernel_rfl
theorem ze_62 : zerosB Tryz.prog 62 = some [.nilf] := by kernel_rfl
theorem sz_62 : szB Tryz.prog 62 = 1 := by kernel_rfl
theorem tk_63 : tk Tryz.prog 63 = .sc := by kernel_rfl
theorem ze_63 : zerosB Tryz.prog 63 = some [.nilf] := by kernel_rfl
theorem sz_63 : szB Tryz.prog 63 = 1 := by kernel_rfl
theorem tk_64 : tk Tryz.prog 64 = .sc := by kernel_rfl
theorem ze_64 : zerosB Tryz.prog 64 = some [.nilf] := by kernel_rfl
theorem sz_64 : szB Tryz.prog 64 = 1 := by kernel_rfl
theorem tk_65 : tk Tryz.prog 65 = .sc := by kernel_rfl
theorem ze_65 : zerosB Tryz.prog 65 = some [.nilf] := by kernel_rfl
theorem sz_65 : szB Tryz.prog 65 = 1 := by kernel_rfl
theorem tk_66 : tk Tryz.prog 66 = .sc := by kernel_rfl
theorem ze_66 : zerosB Tryz.prog 66 = some [.nilf] := by kernel_rfl
theorem sz_66 : szB Tryz.prog 66 = 1 := by kernel_rfl
theorem tk_67 : tk Tryz.prog 67 = .sc := by kernel_rfl
theorem ze_67 : zerosB Tryz.prog 67 = some [.nilf] := by kernel_rfl
theorem sz_67 : szB Tryz.prog 67 = 1 := by kernel_rfl
theorem tk_68 : tk Tryz.prog 68 = .sc := by kernel_rfl
theorem ze_68 : zerosB Tryz.prog 68 = some [.nilf] := by kernel_rfl
theorem sz_68 : szB Tryz.prog 68 = 1 := by kernel_rfl
theorem tk_69 : tk Tryz.prog 69 = (.mp 73 3) := by kernel_rfl
theorem ze_69 : zerosB Tryz.prog 69 = some [.nilm] := by kernel_rfl
theorem sz_69 : szB Tryz.prog 69 = 1 := by kernel_rfl
theorem tk_70 : tk Tryz.prog 70 = (.sl 73 2 24) := by kernel_rfl
theorem ze_70 : zerosB Tryz.prog 70 = some [.nils] := by kernel_rfl
theorem sz_70 : szB Tryz.prog 70 = 1 := by kernel_rfl
theorem tk_71 : tk Tryz.prog 71 = .sc := by kernel_rfl
theorem ze_71 : zerosB Tryz.prog 71 = some [.nilf] := by kernel_rfl
theorem sz_71 : szB Tryz.prog 71 = 1 := by kernel_rfl
theorem tk_72 : tk Tryz.prog 72 = (.st 2 [(0, 1), (1, 1)]) := by kernel_rfl
theorem ze_72 : zerosB Tryz.prog 72 = some [(.v (.bool false)), (.v (.str []))] := by kernel_rfl
theorem sz_72 : szB Tryz.prog 72 = 2 := by kernel_rfl
theorem kn_72 : knownB Tryz.prog 72 = true := by kernel_rfl
theorem tk_73 : tk Tryz.prog 73 = (.st 2 [(0, 1), (1, 1)]) := by kernel_rfl
theorem ze_73 : zerosB Tryz.prog 73 = some [(.v (.bool false)), (.v (.str []))] := by kernel_rfl
theorem sz_73 : szB Tryz.prog 73 = 2 := by kernel_rfl
theorem kn_73 : knownB Tryz.prog 73 = true := by kernel_rfl
theorem tk_74 : tk Tryz.prog 74 = .sc := by kernel_rfl
theorem ze_74 : zerosB Tryz.prog 74 = some [.nilf] := by kernel_rfl
theorem sz_74 : szB Tryz.prog 74 = 1 := by kernel_rfl
theorem tk_75 : tk Tryz.prog 75 = .sc := by kernel_rfl
theorem ze_75 : zerosB Tryz.prog 75 = some [.nilf] := by kernel_rfl
theorem sz_75 : szB Tryz.prog 75 = 1 := by kernel_rfl
theorem tk_76 : tk Tryz.prog 76 = .sc := by kernel_rfl
theorem ze_76 : zerosB Tryz.prog 76 = some [.nilf] := by kernel_rfl
theorem sz_76 : szB Tryz.prog 76 = 1 := by kernel_rfl
theorem tk_77 : tk Tryz.prog 77 = .sc := by kernel_rfl
theorem ze_77 : zerosB Tryz.prog 77 = some [.any] := by kernel_rfl
theorem sz_77 : szB Tryz.prog 77 = 1 := by kernel_rfl
theorem tk_78 : tk Tryz.prog 78 = .sc := by kernel_rfl
theorem ze_78 : zerosB Tryz.prog 78 = some [.nilf] := by kernel_rfl
theorem sz_78 : szB Tryz.prog 78 = 1 := by kernel_rfl
theorem tk_79 : tk Tryz.prog 79 = .sc := by kernel_rfl
theorem ze_79 : zerosB Tryz.prog 79 = some [.nilf] := by kernel_rfl
theorem sz_79 : szB Tryz.prog 79 = 1 := by kernel_rfl
theorem tk_80 : tk Tryz.prog 80 = .pt := by kernel_rfl
theorem ze_80 : zerosB Tryz.prog 80 = some [.nilp] := by kernel_rfl
theorem sz_80 : szB Tryz.prog 80 = 1 := by kernel_rfl
theorem tk_81 : tk Tryz.prog 81 = .sc := by kernel_rfl
theorem ze_81 : zerosB Tryz.prog 81 = some [.any] := by kernel_rfl
theorem sz_81 : szB Tryz.prog 81 = 1 := by kernel_rfl
theorem tk_82 : tk Tryz.prog 82 = .sc := by kernel_rfl
theorem ze_82 : zerosB Tryz.prog 82 = some [.nilf] := by kernel_rfl
theorem sz_82 : szB Tryz.prog 82 = 1 := by kernel_rfl
theorem tk_83 : tk Tryz.prog 83 = .sc := by kernel_rfl
theorem ze_83 : zerosB Tryz.prog 83 = some [.nilf] := by kernel_rfl
theorem sz_83 : szB Tryz.prog 83 = 1 := by kernel_rfl
theorem tk_84 : tk Tryz.prog 84 = .sc := by kernel_rfl
theorem ze_84 : zerosB Tryz.prog 84 = some [.nilf] := by kernel_rfl
theorem sz_84 : szB Tryz.prog 84 = 1 := by kernel_rfl
theorem tk_85 : tk Tryz.prog 85 = .sc := by kernel_rfl
theorem ze_85 : zerosB Tryz.prog 85 = some [.nilf] := by kernel_rfl
theorem sz_85 : szB Tryz.prog 85 = 1 := by kernel_rfl
theorem tk_86 : tk Tryz.prog 86 = .sc := by kernel_rfl
theorem ze_86 : zerosB Tryz.prog 86 = some [.nilf] := by kernel_rfl
theorem sz_86 : szB Tryz.prog 86 = 1 := by kernel_rfl
theorem tk_87 : tk Tryz.prog 87 = .sc := by kernel_rfl
theorem ze_87 : zerosB Tryz.prog 87 = some [.nilf] := by kernel_rfl
theorem sz_87 : szB Tryz.prog 87 = 1 := by kernel_rfl
theorem tk_88 : tk Tryz.prog 88 = .sc := by kernel_rfl
theorem ze_88 : zerosB Tryz.prog 88 = some [.nilf] := by kernel_rfl
theorem sz_88 : szB Tryz.prog 88 = 1 := by kernel_rfl
theorem tk_89 : tk Tryz.prog 89 = .sc := by kernel_rfl
theorem ze_89 : zerosB Tryz.prog 89 = some [.any] := by kernel_rfl
theorem sz_89 : szB Tryz.prog 89 = 1 := by kernel_rfl
theorem tk_90 : tk Tryz.prog 90 = .sc := by kernel_rfl
theorem ze_90 : zerosB Tryz.prog 90 = some [.nilf] := by kernel_rfl
theorem sz_90 : szB Tryz.prog 90 = 1 := by kernel_rfl
theorem tk_91 : tk Tryz.prog 91 = .sc := by kernel_rfl
theorem ze_91 : zerosB Tryz.prog 91 = some [.nilf] := by kernel_rfl
theorem sz_91 : szB Tryz.prog 91 = 1 := by kernel_rfl
theorem tk_92 : tk Tryz.prog 92 = .sc := by kernel_rfl
theorem ze_92 : zerosB Tryz.prog 92 = some [.nilf] := by kernel_rfl
theorem sz_92 : szB Tryz.prog 92 = 1 := by kernel_rfl
theorem tk_93 : tk Tryz.prog 93 = .sc := by kernel_rfl
theorem ze_93 : zerosB Tryz.prog 93 = some [.nilf] := by kernel_rfl
theorem sz_93 : szB Tryz.prog 93 = 1 := by kernel_rfl
theorem tk_94 : tk Tryz.prog 94 = .sc := by kernel_rfl
theorem ze_94 : zerosB Tryz.prog 94 = some [.nilf] := by kernel_rfl
theorem sz_94 : szB Tryz.prog 94 = 1 := by kernel_rfl
theorem tk_95 : tk Tryz.prog 95 = .sc := by kernel_rfl
theorem ze_95 : zerosB Tryz.prog 95 = some [.nilf] := by kernel_rfl
theorem sz_95 : szB Tryz.prog 95 = 1 := by kernel_rfl
theorem tk_96 : tk Tryz.prog 96 = (.it .u64) := by kernel_rfl
theorem ze_96 : zerosB Tryz.prog 96 = some [(.v (.int .u64 0))] := by kernel_rfl
theorem sz_96 : szB Tryz.prog 96 = 1 := by kernel_rfl
theorem tk_97 : tk Tryz.prog 97 = (.ar 20 1 20) := by kernel_rfl
theorem ze_97 : zerosB Tryz.prog 97 = some [(.v (.int .u8 0)), (.v (.int .u8 0)), (.v (.int .u8 0)), (.v (.int .u8 0)), (.v (.int .u8 0)), (.v (.int .u8 0)), (.v (.int .u8 0)), (.v (.int .u8 0)), (.v (.int .u8 0)), (.v (.int .u8 0)), (.v (.int .u8 0)), (.v (.int .u8 0)), (.v (.int .u8 0)), (.v (.int .u8 0)), (.v (.int .u8 0)), (.v (.int .u8 0)), (.v (.int .u8 0)), (.v (.int .u8 0)), (.v (.int .u8 0)), (.v (.int .u8 0))] := by kernel_rfl
theorem sz_97 : szB Tryz.prog 97 = 20 := by kernel_rfl
theorem kn_97 : knownB Tryz.prog 97 = true := by kernel_rfl
theorem tk_98 : tk Tryz.prog 98 = (.sl 5 1 1) := by kernel_rfl
theorem ze_98 : zerosB Tryz.prog 98 = some [.nils] := by kernel_rfl
theorem sz_98 : szB Tryz.prog 98 = 1 := by kernel_rfl
theorem tk_99 : tk Tryz.prog 99 = .pt := by kernel_rfl
theorem ze_99 : zerosB Tryz.prog 99 = some [.nilp] := by kernel_rfl
theorem sz_99 : szB Tryz.prog 99 = 1 := by kernel_rfl
theorem tk_100 : tk Tryz.prog 100 = (.st 2 [(0, 1), (1, 1)]) := by kernel_rfl
theorem ze_100 : zerosB Tryz.prog 100 = some [.nilp, .nils] := by kernel_rfl
theorem sz_100 : szB Tryz.prog 100 = 2 := by kernel_rfl
theorem kn_100 : knownB Tryz.prog 100 = true := by kernel_rfl
theorem tk_101 : tk Tryz.prog 101 = (.st 2 [(0, 1), (1, 1)]) := by kernel_rfl
theorem ze_101 : zerosB Tryz.prog 101 = some [.nilp, .nils] := by kernel_rfl
theorem sz_101 : szB Tryz.prog 101 = 2 := by kernel_rfl
theorem kn_101 : knownB Tryz.prog 101 = true := by kernel_rfl
theorem tk_102 : tk Tryz.prog 102 = .sc := by kernel_rfl
theorem ze_102 : zerosB Tryz.prog 102 = some [.nilf] := by kernel_rfl
theorem sz_102 : szB Tryz.prog 102 = 1 := by kernel_rfl
theorem tk_103 : tk Tryz.prog 103 = .sc := by kernel_rfl
theorem ze_103 : zerosB Tryz.prog 103 = some [(.v .nili)] := by kernel_rfl
theorem sz_103 : szB Tryz.prog 103 = 1 := by kernel_rfl
theorem tk_104 : tk Tryz.prog 104 = .sc := by kernel_rfl
theorem ze_104 : zerosB Tryz.prog 104 = some [(.v .nili)] := by kernel_rfl
theorem sz_104 : szB Tryz.prog 104 = 1 := by kernel_rfl
theorem tk_105 : tk Tryz.prog 105 = .sc := by kernel_rfl
theorem ze_105 : zerosB Tryz.prog 105 = some [.any] := by kernel_rfl
theorem sz_105 : szB Tryz.prog 105 = 1 := by kernel_rfl
theorem tk_106 : tk Tryz.prog 106 = .sc := by kernel_rfl
theorem ze_106 : zerosB Tryz.prog 106 = some [.nilf] := by kernel_rfl
theorem sz_106 : szB Tryz.prog 106 = 1 := by kernel_rfl
theorem tk_107 : tk Tryz.prog 107 = .sc := by kernel_rfl
theorem ze_107 : zerosB Tryz.prog 107 = some [.nilf] := by kernel_rfl
theorem sz_107 : szB Tryz.prog 107 = 1 := by kernel_rfl
theorem tk_108 : tk Tryz.prog 108 = .sc := by kernel_rfl
theorem ze_108 : zerosB Tryz.prog 108 = some [.nilf] := by kernel_rfl
theorem sz_108 : szB Tryz.prog 108 = 1 := by kernel_rfl
theorem tk_109 : tk Tryz.prog 109 = .sc := by kernel_rfl
theorem ze_109 : zerosB Tryz.prog 109 = some [.nilf] := by kernel_rfl
theorem sz_109 : szB Tryz.prog 109 = 1 := by kernel_rfl
theorem tk_110 : tk Tryz.prog 110 = .sc := by kernel_rfl
theorem ze_110 : zerosB Tryz.prog 110 = some [.nilf] := by kernel_rfl
theorem sz_110 : szB Tryz.prog 110 = 1 := by kernel_rfl
theorem tk_111 : tk Tryz.prog 111 = .sc := by kernel_rfl
theorem ze_111 : zerosB Tryz.prog 111 = some [.any] := by kernel_rfl
theorem sz_111 : szB Tryz.prog 111 = 1 := by kernel_rfl
theorem tk_112 : tk Tryz.prog 112 = .sc := by kernel_rfl
theorem ze_112 : zerosB Tryz.prog 112 = some [.nilf] := by kernel_rfl
theorem sz_112 : szB Tryz.prog 112 = 1 := by kernel_rfl
theorem tk_113 : tk Tryz.prog 113 = .sc := by kernel_rfl
theorem ze_113 : zerosB Tryz.prog 113 = some [.nilf] := by kernel_rfl
theorem sz_113 : szB Tryz.prog 113 = 1 := by kernel_rfl
theorem tk_114 : tk Tryz.prog 114 = (.sl 116 3 48) := by kernel_rfl
theorem ze_114 : zerosB Tryz.prog 114 = some [.nils] := by kernel_rfl
theorem sz_114 : szB Tryz.prog 114 = 1 := by kernel_rfl
theorem tk_115 : tk Tryz.prog 115 = (.st 3 [(0, 2), (2, 1)]) := by kernel_rfl
theorem ze_115 : zerosB Tryz.prog 115 = some [(.v (.str [])), (.v (.str [])), (.v (.str []))] := by kernel_rfl
theorem sz_115 : szB Tryz.prog 115 = 3 := by kernel_rfl
theorem kn_115 : knownB Tryz.prog 115 = true := by kernel_rfl
theorem tk_116 : tk Tryz.prog 116 = (.st 3 [(0, 2), (2, 1)]) := by kernel_rfl
theorem ze_116 : zerosB Tryz.prog 116 = some [(.v (.str [])), (.v (.str [])), (.v (.str []))] := by kernel_rfl
theorem sz_116 : szB Tryz.prog 116 = 3 := by kernel_rfl
theorem kn_116 : knownB Tryz.prog 116 = true := by kernel_rfl
theorem tk_117 : tk Tryz.prog 117 = .sc := by kernel_rfl
theorem ze_117 : zerosB Tryz.prog 117 = some [.nilf] := by kernel_rfl
theorem sz_117 : szB Tryz.prog 117 = 1 := by kernel_rfl
theorem tk_118 : tk Tryz.prog 118 = .sc := by kernel_rfl
theorem ze_118 : zerosB Tryz.prog 118 = some [.nilf] := by kernel_rfl
theorem sz_118 : szB Tryz.prog 118 = 1 := by kernel_rfl
theorem tk_119 : tk Tryz.prog 119 = .sc := by kernel_rfl
theorem ze_119 : zerosB Tryz.prog 119 = some [.nilf] := by kernel_rfl
theorem sz_119 : szB Tryz.prog 119 = 1 := by kernel_rfl
theorem tk_120 : tk Tryz.prog 120 = .sc := by kernel_rfl
theorem ze_120 : zerosB Tryz.prog 120 = some [.nilf] := by kernel_rfl
theorem sz_120 : szB Tryz.prog 120 = 1 := by kernel_rfl
theorem tk_121 : tk Tryz.prog 121 = .sc := by kernel_rfl
theorem ze_121 : zerosB Tryz.prog 121 = some [.nilf] := by kernel_rfl
theorem sz_121 : szB Tryz.prog 121 = 1 := by kernel_rfl
theorem tk_122 : tk Tryz.prog 122 = .sc := by kernel_rfl
theorem ze_122 : zerosB Tryz.prog 122 = some [.nilf] := by kernel_rfl
theorem sz_122 : szB Tryz.prog 122 = 1 := by kernel_rfl
theorem tk_123 : tk Tryz.prog 123 = .sc := by kernel_rfl
theorem ze_123 : zerosB Tryz.prog 123 = some [.nilf] := by kernel_rfl
theorem sz_123 : szB Tryz.prog 123 = 1 := by kernel_rfl
theorem tk_124 : tk Tryz.prog 124 = .sc := by kernel_rfl
theorem ze_124 : zerosB Tryz.prog 124 = some [.nilf] := by kernel_rfl
theorem sz_124 : szB Tryz.prog 124 = 1 := by kernel_rfl
theorem tk_125 : tk Tryz.prog 125 = .pt := by kernel_rfl
theorem ze_125 : zerosB Tryz.prog 125 = some [.nilp] := by kernel_rfl
theorem sz_125 : szB Tryz.prog 125 = 1 := by kernel_rfl
theorem tk_126 : tk Tryz.prog 126 = .sc := by kernel_rfl
theorem ze_126 : zerosB Tryz.prog 126 = some [.nilf] := by kernel_rfl
theorem sz_126 : szB Tryz.prog 126 = 1 := by kernel_rfl
theorem tk_127 : tk Tryz.prog 127 = .sc := by kernel_rfl
theorem ze_127 : zerosB Tryz.prog 127 = some [.nilf] := by kernel_rfl
theorem sz_127 : szB Tryz.prog 127 = 1 := by kernel_rfl
theorem tk_128 : tk Tryz.prog 128 = .sc := by kernel_rfl
theorem ze_128 : zerosB Tryz.prog 128 = some [.nilf] := by kernel_rfl
theorem sz_128 : szB Tryz.prog 128 = 1 := by kernel_rfl
theorem tk_129 : tk Tryz.prog 129 = .sc := by kernel_rfl
theorem ze_129 : zerosB Tryz.prog 129 = some [.nilf] := by kernel_rfl
theorem sz_129 : szB Tryz.prog 129 = 1 := by kernel_rfl
theorem tk_130 : tk Tryz.prog 130 = (.it .u64) := by kernel_rfl
theorem ze_130 : zerosB Tryz.prog 130 = some [(.v (.int .u64 0))] := by kernel_rfl
theorem sz_130 : szB Tryz.prog 130 = 1 := by kernel_rfl
theorem tk_131 : tk Tryz.prog 131 = .sc := by kernel_rfl
theorem ze_131 : zerosB Tryz.prog 131 = some [.nilf] := by kernel_rfl
theorem sz_131 : szB Tryz.prog 131 = 1 := by kernel_rfl
theorem tk_132 : tk Tryz.prog 132 = .sc := by kernel_rfl
theorem ze_132 : zerosB Tryz.prog 132 = some [.nilf] := by kernel_rfl
theorem sz_132 : szB Tryz.prog 132 = 1 := by kernel_rfl
theorem tk_133 : tk Tryz.prog 133 = .sc := by kernel_rfl
theorem ze_133 : zerosB Tryz.prog 133 = some [.nilf] := by kernel_rfl
theorem sz_133 : szB Tryz.prog 133 = 1 := by kernel_rfl
theorem tk_134 : tk Tryz.prog 134 = .sc := by kernel_rfl
theorem ze_134 : zerosB Tryz.prog 134 = some [.nilf] := by kernel_rfl
theorem sz_134 : szB Tryz.prog 134 = 1 := by kernel_rfl
theorem tk_135 : tk Tryz.prog 135 = .sc := by kernel_rfl
theorem ze_135 : zerosB Tryz.prog 135 = some [.nilf] := by kernel_rfl
theorem sz_135 : szB Tryz.prog 135 = 1 := by kernel_rfl
theorem tk_136 : tk Tryz.prog 136 = .sc := by kernel_rfl
theorem ze_136 : zerosB Tryz.prog 136 = some [.nilf] := by kernel_rfl
theorem sz_136 : szB Tryz.prog 136 = 1 := by kernel_rfl
theorem tk_137 : tk Tryz.prog 137 = .sc := by kernel_rfl
theorem ze_137 : zerosB Tryz.prog 137 = some [.nilf] := by kernel_rfl
theorem sz_137 : szB Tryz.prog 137 = 1 := by kernel_rfl
theorem tk_138 : tk Tryz.prog 138 = .sc := by kernel_rfl
theorem ze_138 : zerosB Tryz.prog 138 = some [.nilf] := by kernel_rfl
theorem sz_138 : szB Tryz.prog 138 = 1 := by kernel_rfl
theorem tk_139 : tk Tryz.prog 139 = .sc := by kernel_rfl
theorem ze_139 : zerosB Tryz.prog 139 = some [.nilf] := by kernel_rfl
theorem sz_139 : szB Tryz.prog 139 = 1 := by kernel_rfl
theorem tk_140 : tk Tryz.prog 140 = .sc := by kernel_rfl
theorem ze_140 : zerosB Tryz.prog 140 = some [.nilp] := by kernel_rfl
theorem sz_140 : szB Tryz.prog 140 = 1 := by kernel_rfl
theorem tk_141 : tk Tryz.prog 141 = .sc := by kernel_rfl
theorem ze_141 : zerosB Tryz.prog 141 = some [.nilf] := by kernel_rfl
theorem sz_141 : szB Tryz.prog 141 = 1 := by kernel_rfl
theorem tk_142 : tk Tryz.prog 142 = .sc := by kernel_rfl
theorem ze_142 : zerosB Tryz.prog 142 = some [.nilf] := by kernel_rfl
theorem sz_142 : szB Tryz.prog 142 = 1 := by kernel_rfl
theorem tk_143 : tk Tryz.prog 143 = .sc := by kernel_rfl
theorem ze_143 : zerosB Tryz.prog 143 = some [.nilf] := by kernel_rfl
theorem sz_143 : szB Tryz.prog 143 = 1 := by kernel_rfl
theorem tk_144 : tk Tryz.prog 144 = .sc := by kernel_rfl
theorem ze_144 : zerosB Tryz.prog 144 = some [.nilf] := by kernel_rfl
theorem sz_144 : szB Tryz.prog 144 = 1 := by kernel_rfl
theorem tk_145 : tk Tryz.prog 145 = .sc := by kernel_rfl
theorem ze_145 : zerosB Tryz.prog 145 = some [.nilf] := by kernel_rfl
theorem sz_145 : szB Tryz.prog 145 = 1 := by kernel_rfl
theorem tk_146 : tk Tryz.prog 146 = (.it .i64) := by kernel_rfl
theorem ze_146 : zerosB Tryz.prog 146 = some [(.v (.int .i64 0))] := by kernel_rfl
theorem sz_146 : szB Tryz.prog 146 = 1 := by kernel_rfl
theorem tk_147 : tk Tryz.prog 147 = .sc := by kernel_rfl
theorem ze_147 : zerosB Tryz.prog 147 = some [.any] := by kernel_rfl
theorem sz_147 : szB Tryz.prog 147 = 1 := by kernel_rfl
theorem tk_148 : tk Tryz.prog 148 = .sc := by kernel_rfl
theorem ze_148 : zerosB Tryz.prog 148 = some [.nilf] := by kernel_rfl
theorem sz_148 : szB Tryz.prog 148 = 1 := by kernel_rfl
theorem tk_149 : tk Tryz.prog 149 = .sc := by kernel_rfl
theorem ze_149 : zerosB Tryz.prog 149 = some [.nilf] := by kernel_rfl
theorem sz_149 : szB Tryz.prog 149 = 1 := by kernel_rfl
theorem tk_150 : tk Tryz.prog 150 = .sc := by kernel_rfl
theorem ze_150 : zerosB Tryz.prog 150 = some [.nilf] := by kernel_rfl
theorem sz_150 : szB Tryz.prog 150 = 1 := by kernel_rfl
theorem tk_151 : tk Tryz.prog 151 = .sc := by kernel_rfl
theorem ze_151 : zerosB Tryz.prog 151 = some [.any] := by kernel_rfl
theorem sz_151 : szB Tryz.prog 151 = 1 := by kernel_rfl
theorem tk_152 : tk Tryz.prog 152 = .sc := by kernel_rfl
theorem ze_152 : zerosB Tryz.prog 152 = some [.nilf] := by kernel_rfl
theorem sz_152 : szB Tryz.prog 152 = 1 := by kernel_rfl
theorem tk_153 : tk Tryz.prog 153 = .sc := by kernel_rfl
theorem ze_153 : zerosB Tryz.prog 153 = some [.nilf] := by kernel_rfl
theorem sz_153 : szB Tryz.prog 153 = 1 := by kernel_rfl
theorem tk_154 : tk Tryz.prog 154 = (.it .u32) := by kernel_rfl
theorem ze_154 : zerosB Tryz.prog 154 = some [(.v (.int .u32 0))] := by kernel_rfl
theorem sz_154 : szB Tryz.prog 154 = 1 := by kernel_rfl
theorem tk_155 : tk Tryz.prog 155 = .sc := by kernel_rfl
theorem ze_155 : zerosB Tryz.prog 155 = some [.nilf] := by kernel_rfl
theorem sz_155 : szB Tryz.prog 155 = 1 := by kernel_rfl
theorem tk_156 : tk Tryz.prog 156 = .sc := by kernel_rfl
theorem ze_156 : zerosB Tryz.prog 156 = some [.nilf] := by kernel_rfl
theorem sz_156 : szB Tryz.prog 156 = 1 := by kernel_rfl
theorem tk_157 : tk Tryz.prog 157 = .sc := by kernel_rfl
theorem ze_157 : zerosB Tryz.prog 157 = some [.nilf] := by kernel_rfl
theorem sz_157 : szB Tryz.prog 157 = 1 := by kernel_rfl
theorem tk_158 : tk Tryz.prog 158 = .sc := by kernel_rfl
theorem ze_158 : zerosB Tryz.prog 158 = some [.nilf] := by kernel_rfl
theorem sz_158 : szB Tryz.prog 158 = 1 := by kernel_rfl
theorem tk_159 : tk Tryz.prog 159 = .sc := by kernel_rfl
theorem ze_159 : zerosB Tryz.prog 159 = some [.nilf] := by kernel_rfl
theorem sz_159 : szB Tryz.prog 159 = 1 := by kernel_rfl
theorem tk_160 : tk Tryz.prog 160 = .sc := by kernel_rfl
theorem ze_160 : zerosB Tryz.prog 160 = some [.any] := by kernel_rfl
theorem sz_160 : szB Tryz.prog 160 = 1 := by kernel_rfl
theorem tk_161 : tk Tryz.prog 161 = .sc := by kernel_rfl
theorem ze_161 : zerosB Tryz.prog 161 = some [.nilf] := by kernel_rfl
theorem sz_161 : szB Tryz.prog 161 = 1 := by kernel_rfl
theorem tk_162 : tk Tryz.prog 162 = .sc := by kernel_rfl
theorem ze_162 : zerosB Tryz.prog 162 = some [.nilf] := by kernel_rfl
theorem sz_162 : szB Tryz.prog 162 = 1 := by kernel_rfl
theorem tk_163 : tk Tryz.prog 163 = .sc := by kernel_rfl
theorem ze_163 : zerosB Tryz.prog 163 = some [.nilf] := by kernel_rfl
theorem sz_163 : szB Tryz.prog 163 = 1 := by kernel_rfl
theorem tk_164 : tk Tryz.prog 164 = .sc := by kernel_rfl
theorem ze_164 : zerosB Tryz.prog 164 = some [.nilf] := by kernel_rfl
theorem sz_164 : szB Tryz.prog 164 = 1 := by kernel_rfl
theorem tk_165 : tk Tryz.prog 165 = (.it .u64) := by kernel_rfl
theorem ze_165 : zerosB Tryz.prog 165 = some [(.v (.int .u64 0))] := by kernel_rfl
theorem sz_165 : szB Tryz.prog 165 = 1 := by kernel_rfl
theorem tk_166 : tk Tryz.prog 166 = .sc := by kernel_rfl
theorem ze_166 : zerosB Tryz.prog 166 = some [.nilf] := by kernel_rfl
theorem sz_166 : szB Tryz.prog 166 = 1 := by kernel_rfl
theorem tk_167 : tk Tryz.prog 167 = .sc := by kernel_rfl
theorem ze_167 : zerosB Tryz.prog 167 = some [.nilf] := by kernel_rfl
theorem sz_167 : szB Tryz.prog 167 = 1 := by kernel_rfl
theorem tk_168 : tk Tryz.prog 168 = .sc := by kernel_rfl
theorem ze_168 : zerosB Tryz.prog 168 = some [.nilf] := by kernel_rfl
theorem sz_168 : szB Tryz.prog 168 = 1 := by kernel_rfl
theorem tk_169 : tk Tryz.prog 169 = .pt := by kernel_rfl
theorem ze_169 : zerosB Tryz.prog 169 = some [.nilp] := by kernel_rfl
theorem sz_169 : szB Tryz.prog 169 = 1 := by kernel_rfl
theorem tk_170 : tk Tryz.prog 170 = .sc := by kernel_rfl
theorem ze_170 : zerosB Tryz.prog 170 = some [.nilf] := by kernel_rfl
theorem sz_170 : szB Tryz.prog 170 = 1 := by kernel_rfl
theorem tk_171 : tk Tryz.prog 171 = .sc := by kernel_rfl
theorem ze_171 : zerosB Tryz.prog 171 = some [.nilf] := by kernel_rfl
theorem sz_171 : szB Tryz.prog 171 = 1 := by kernel_rfl
theorem tk_172 : tk Tryz.prog 172 = .sc := by kernel_rfl
theorem ze_172 : zerosB Tryz.prog 172 = some [.nilf] := by kernel_rfl
theorem sz_172 : szB Tryz.prog 172 = 1 := by kernel_rfl
theorem tk_173 : tk Tryz.prog 173 = .sc := by kernel_rfl
theorem ze_173 : zerosB Tryz.prog 173 = some [.nilf] := by kernel_rfl
theorem sz_173 : szB Tryz.prog 173 = 1 := by kernel_rfl
theorem tk_174 : tk Tryz.prog 174 = .sc := by kernel_rfl
theorem ze_174 : zerosB Tryz.prog 174 = some [.nilf] := by kernel_rfl
theorem sz_174 : szB Tryz.prog 174 = 1 := by kernel_rfl
theorem tk_175 : tk Tryz.prog 175 = .sc := by kernel_rfl
theorem ze_175 : zerosB Tryz.prog 175 = some [.nilf] := by kernel_rfl
theorem sz_175 : szB Tryz.prog 175 = 1 := by kernel_rfl
theorem tk_176 : tk Tryz.prog 176 = .sc := by kernel_rfl
theorem ze_176 : zerosB Tryz.prog 176 = some [.nilf] := by kernel_rfl
theorem sz_176 : szB Tryz.prog 176 = 1 := by kernel_rfl
theorem tk_177 : tk Tryz.prog 177 = .sc := by kernel_rfl
theorem ze_177 : zerosB Tryz.prog 177 = some [.any] := by kernel_rfl
theorem sz_177 : szB Tryz.prog 177 = 1 := by kernel_rfl
theorem tk_178 : tk Tryz.prog 178 = .sc := by kernel_rfl
theorem ze_178 : zerosB Tryz.prog 178 = some [.nilf] := by kernel_rfl
theorem sz_178 : szB Tryz.prog 178 = 1 := by kernel_rfl
theorem tk_179 : tk Tryz.prog 179 = .pt := by kernel_rfl
theorem ze_179 : zerosB Tryz.prog 179 = some [.nilp] := by kernel_rfl
theorem sz_179 : szB Tryz.prog 179 = 1 := by kernel_rfl
theorem tk_180 : tk Tryz.prog 180 = .sc := by kernel_rfl
theorem ze_180 : zerosB Tryz.prog 180 = some [.any] := by kernel_rfl
theorem sz_180 : szB Tryz.prog 180 = 1 := by kernel_rfl
theorem tk_181 : tk Tryz.prog 181 = .sc := by kernel_rfl
theorem ze_181 : zerosB Tryz.prog 181 = some [.nilf] := by kernel_rfl
theorem sz_181 : szB Tryz.prog 181 = 1 := by kernel_rfl
theorem tk_182 : tk Tryz.prog 182 = (.ar 256 1 256) := by kernel_rfl
theorem sz_182 : szB Tryz.prog 182 = 256 := by kernel_rfl
theorem kn_182 : knownB Tryz.prog 182 = true := by kernel_rfl
theorem tk_183 : tk Tryz.prog 183 = (.st 2 [(0, 1), (1, 1)]) := by kernel_rfl
theorem ze_183 : zerosB Tryz.prog 183 = some [(.v (.int .u8 0)), (.v (.int .u8 0))] := by kernel_rfl
theorem sz_183 : szB Tryz.prog 183 = 2 := by kernel_rfl
theorem kn_183 : knownB Tryz.prog 183 = true := by kernel_rfl
theorem tk_184 : tk Tryz.prog 184 = (.st 2 [(0, 1), (1, 1)]) := by kernel_rfl
theorem ze_184 : zerosB Tryz.prog 184 = some [(.v (.int .u8 0)), (.v (.int .u8 0))] := by kernel_rfl
theorem sz_184 : szB Tryz.prog 184 = 2 := by kernel_rfl
theorem kn_184 : knownB Tryz.prog 184 = true := by kernel_rfl
theorem tk_185 : tk Tryz.prog 185 = (.ar 16 2 32) := by kernel_rfl
theorem ze_185 : zerosB Tryz.prog 185 = some [(.v (.int .u8 0)), (.v (.int .u8 0)), (.v (.int .u8 0)), (.v (.int .u8 0)), (.v (.int .u8 0)), (.v (.int .u8 0)), (.v (.int .u8 0)), (.v (.int .u8 0)), (.v (.int .u8 0)), (.v (.int .u8 0)), (.v (.int .u8 0)), (.v (.int .u8 0)), (.v (.int .u8 0)), (.v (.int .u8 0)), (.v (.int .u8 0)), (.v (.int .u8 0)), (.v (.int .u8 0)), (.v (.int .u8 0)), (.v (.int .u8 0)), (.v (.int .u8 0)), (.v (.int .u8 0)), (.v (.int .u8 0)), (.v (.int .u8 0)), (.v (.int .u8 0)), (.v (.int .u8 0)), (.v (.int .u8 0)), (.v (.int .u8 0)), (.v (.int .u8 0)), (.v (.int .u8 0)), (.v (.int .u8 0)), (.v (.int .u8 0)), (.v (.int .u8 0))] := by kernel_rfl
theorem sz_185 : szB Tryz.prog 185 = 32 := by kernel_rfl
theorem kn_185 : knownB Tryz.prog 185 = true := by kernel_rfl
theorem tk_186 : tk Tryz.prog 186 = (.st 4 [(0, 1), (1, 1), (2, 1), (3, 1)]) := by kernel_rfl
theorem ze_186 : zerosB Tryz.prog 186 = some [.nilp, .nilp, .nilp, (.v (.str []))] := by kernel_rfl
theorem sz_186 : szB Tryz.prog 186 = 4 := by kernel_rfl
theorem kn_186 : knownB Tryz.prog 186 = true := by kernel_rfl
theorem tk_187 : tk Tryz.prog 187 = (.st 4 [(0, 1), (1, 1), (2, 1), (3, 1)]) := by kernel_rfl
theorem ze_187 : zerosB Tryz.prog 187 = some [.nilp, .nilp, .nilp, (.v (.str []))] := by kernel_rfl
theorem sz_187 : szB Tryz.prog 187 = 4 := by kernel_rfl
theorem kn_187 : knownB Tryz.prog 187 = true := by kernel_rfl
theorem tk_188 : tk Tryz.prog 188 = (.ar 0 1 0) := by kernel_rfl
theorem ze_188 : zerosB Tryz.prog 188 = some [] := by kernel_rfl
theorem sz_188 : szB Tryz.prog 188 = 0 := by kernel_rfl
theorem kn_188 : knownB Tryz.prog 188 = true := by kernel_rfl
theorem tk_189 : tk Tryz.prog 189 = (.st 0 [(0, 0)]) := by kernel_rfl
theorem ze_189 : zerosB Tryz.prog 189 = some [] := by kernel_rfl
theorem sz_189 : szB Tryz.prog 189 = 0 := by kernel_rfl
theorem kn_189 : knownB Tryz.prog 189 = true := by kernel_rfl
theorem tk_190 : tk Tryz.prog 190 = (.st 0 [(0, 0)]) := by kernel_rfl
theorem ze_190 : zerosB Tryz.prog 190 = some [] := by kernel_rfl
theorem sz_190 : szB Tryz.prog 190 = 0 := by kernel_rfl
theorem kn_190 : knownB Tryz.prog 190 = true := by kernel_rfl
theorem tk_191 : tk Tryz.prog 191 = .sc := by kernel_rfl
theorem ze_191 : zerosB Tryz.prog 191 = some [.nilf] := by kernel_rfl
theorem sz_191 : szB Tryz.prog 191 = 1 := by kernel_rfl
theorem tk_192 : tk Tryz.prog 192 = (.it .u8) := by kernel_rfl
theorem ze_192 : zerosB Tryz.prog 192 = some [(.v (.int .u8 0))] := by kernel_rfl
theorem sz_192 : szB Tryz.prog 192 = 1 := by kernel_rfl
theorem tk_193 : tk Tryz.prog 193 = (.it .u8) := by kernel_rfl
theorem ze_193 : zerosB Tryz.prog 193 = some [(.v (.int .u8 0))] := by kernel_rfl
theorem sz_193 : szB Tryz.prog 193 = 1 := by kernel_rfl
theorem tk_194 : tk Tryz.prog 194 = .sc := by kernel_rfl
theorem ze_194 : zerosB Tryz.prog 194 = some [.nilf] := by kernel_rfl
theorem sz_194 : szB Tryz.prog 194 = 1 := by kernel_rfl
theorem tk_195 : tk Tryz.prog 195 = (.it .i32) := by kernel_rfl
theorem ze_195 : zerosB Tryz.prog 195 = some [(.v (.int .i32 0))] := by kernel_rfl
theorem sz_195 : szB Tryz.prog 195 = 1 := by kernel_rfl
theorem tk_196 : tk Tryz.prog 196 = (.it .i32) := by kernel_rfl
theorem ze_196 : zerosB Tryz.prog 196 = some [(.v (.int .i32 0))] := by kernel_rfl
theorem sz_196 : szB Tryz.prog 196 = 1 := by kernel_rfl
theorem tk_197 : tk Tryz.prog 197 = (.st 11 [(0, 1), (1, 1), (2, 1), (3, 1), (4, 1), (5, 1), (6, 1), (7, 1), (8, 1), (9, 1), (10, 1)]) := by kernel_rfl
theorem ze_197 : zerosB Tryz.prog 197 = some [(.v (.int .u64 0)), (.v (.int .u64 0)), (.v (.int .u32 0)), (.v (.int .u8 0)), (.v (.int .u8 0)), (.v (.int .u8 0)), (.v (.int .u8 0)), .nilf, .nilp, (.v (.int .i32 0)), (.v (.int .i32 0))] := by kernel_rfl
theorem sz_197 : szB Tryz.prog 197 = 11 := by kernel_rfl
theorem kn_197 : knownB Tryz.prog 197 = true := by kernel_rfl
theorem tk_198 : tk Tryz.prog 198 = (.st 11 [(0, 1), (1, 1), (2, 1), (3, 1), (4, 1), (5, 1), (6, 1), (7, 1), (8, 1), (9, 1), (10, 1)]) := by kernel_rfl
theorem ze_198 : zerosB Tryz.prog 198 = some [(.v (.int .u64 0)), (.v (.int .u64 0)), (.v (.int .u32 0)), (.v (.int .u8 0)), (.v (.int .u8 0)), (.v (.int .u8 0)), (.v (.int .u8 0)), .nilf, .nilp, (.v (.int .i32 0)), (.v (.int .i32 0))] := by kernel_rfl
theorem sz_198 : szB Tryz.prog 198 = 11 := by kernel_rfl
theorem kn_198 : knownB Tryz.prog 198 = true := by kernel_rfl
theorem t0 : (type_of% tk_0) ∧ (type_of% ze_0) ∧ (type_of% sz_0) := ⟨tk_0, ze_0, sz_0⟩
theorem t1 : (type_of% tk_1) ∧ (type_of% ze_1) ∧ (type_of% sz_1) := ⟨tk_1, ze_1, sz_1⟩
theorem t2 : (type_of% tk_2) ∧ (type_of% ze_2) ∧ (type_of% sz_2) := ⟨tk_2, ze_2, sz_2⟩
theorem t3 : (type_of% tk_3) ∧ (type_of% ze_3) ∧ (type_of% sz_3) := ⟨tk_3, ze_3, sz_3⟩
theorem t4 : (type_of% tk_4) ∧ (type_of% ze_4) ∧ (type_of% sz_4) := ⟨tk_4, ze_4, sz_4⟩
theorem t5 : (type_of% tk_5) ∧ (type_of% ze_5) ∧ (type_of% sz_5) := ⟨tk_5, ze_5, sz_5⟩
theorem t6 : (type_of% tk_6) ∧ (type_of% ze_6) ∧ (type_of% sz_6) := ⟨tk_6, ze_6, sz_6⟩
theorem t7 : (type_of% tk_7) ∧ (type_of% ze_7) ∧ (type_of% sz_7) ∧ (type_of% kn_7) := ⟨tk_7, ze_7, sz_7, kn_7⟩
theorem t8 : (type_of% tk_8) ∧ (type_of% ze_8) ∧ (type_of% sz_8) ∧ (type_of% kn_8) := ⟨tk_8, ze_8, sz_8, kn_8⟩
theorem t9 : (type_of% tk_9) ∧ (type_of% ze_9) ∧ (type_of% sz_9) := ⟨tk_9, ze_9, sz_9⟩
theorem t10 : (type_of% tk_10) ∧ (type_of% ze_10) ∧ (type_of% sz_10) := ⟨tk_10, ze_10, sz_10⟩
theorem t11 : (type_of% tk_11) ∧ (type_of% ze_11) ∧ (type_of% sz_11) := ⟨tk_11, ze_11, sz_11⟩
theorem t12 : (type_of% tk_12) ∧ (type_of% ze_12) ∧ (type_of% sz_12) := ⟨tk_12, ze_12, sz_12⟩
theorem t13 : (type_of% tk_13) ∧ (type_of% ze_13) ∧ (type_of% sz_13) ∧ (type_of% kn_13) := ⟨tk_13, ze_13, sz_13, kn_13⟩
theorem t14 : (type_of% tk_14) ∧ (type_of% ze_14) ∧ (type_of% sz_14) ∧ (type_of% kn_14) := ⟨tk_14, ze_14, sz_14, kn_14⟩
theorem t15 : (type_of% tk_15) ∧ (type_of% ze_15) ∧ (type_of% sz_15) := ⟨tk_15, ze_15, sz_15⟩
theorem t16 : (type_of% tk_16) ∧ (type_of% ze_16) ∧ (type_of% sz_16) := ⟨tk_16, ze_16, sz_16⟩
theorem t17 : (type_of% tk_17) ∧ (type_of% ze_17) ∧ (type_of% sz_17) := ⟨tk_17, ze_17, sz_17⟩
theorem t18 : (type_of% tk_18) ∧ (type_of% ze_18) ∧ (type_of% sz_18) ∧ (type_of% kn_18) := ⟨tk_18, ze_18, sz_18, kn_18⟩
theorem t19 : (type_of% tk_19) ∧ (type_of% ze_19) ∧ (type_of% sz_19) ∧ (type_of% kn_19) := ⟨tk_19, ze_19, sz_19, kn_19⟩
theorem t20 : (type_of% tk_20) ∧ (type_of% ze_20) ∧ (type_of% sz_20) := ⟨tk_20, ze_20, sz_20⟩
theorem t21 : (type_of% tk_21) ∧ (type_of% ze_21) ∧ (type_of% sz_21) := ⟨tk_21, ze_21, sz_21⟩
theorem t22 : (type_of% tk_22) ∧ (type_of% ze_22) ∧ (type_of% sz_22) := ⟨tk_22, ze_22, sz_22⟩
theorem t23 : (type_of% tk_23) ∧ (type_of% ze_23) ∧ (type_of% sz_23) := ⟨tk_23, ze_23, sz_23⟩
theorem t24 : (type_of% tk_24) ∧ (type_of% ze_24) ∧ (type_of% sz_24) := ⟨tk_24, ze_24, sz_24⟩
theorem t25 : (type_of% tk_25) ∧ (type_of% ze_25) ∧ (type_of% sz_25) ∧ (type_of% kn_25) := ⟨tk_25, ze_25, sz_25, kn_25⟩
theorem t26 : (type_of% tk_26) ∧ (type_of% ze_26) ∧ (type_of% sz_26) ∧ (type_of% kn_26) := ⟨tk_26, ze_26, sz_26, kn_26⟩
theorem t27 : (type_of% tk_27) ∧ (type_of% ze_27) ∧ (type_of% sz_27) := ⟨tk_27, ze_27, sz_27⟩
theorem t28 : (type_of% tk_28) ∧ (type_of% ze_28) ∧ (type_of% sz_28) := ⟨tk_28, ze_28, sz_28⟩
theorem t29 : (type_of% tk_29) ∧ (type_of% ze_29) ∧ (type_of% sz_29) := ⟨tk_29, ze_29, sz_29⟩
theorem t30 : (type_of% tk_30) ∧ (type_of% ze_30) ∧ (type_of% sz_30) := ⟨tk_30, ze_30, sz_30⟩
theorem t31 : (type_of% tk_31) ∧ (type_of% ze_31) ∧ (type_of% sz_31) := ⟨tk_31, ze_31, sz_31⟩
theorem t32 : (type_of% tk_32) ∧ (type_of% ze_32) ∧ (type_of% sz_32) := ⟨tk_32, ze_32, sz_32⟩
theorem t33 : (type_of% tk_33) ∧ (type_of% ze_33) ∧ (type_of% sz_33) := ⟨tk_33, ze_33, sz_33⟩
theorem t34 : (type_of% tk_34) ∧ (type_of% ze_34) ∧ (type_of% sz_34) := ⟨tk_34, ze_34, sz_34⟩
theorem t35 : (type_of% tk_35) ∧ (type_of% ze_35) ∧ (type_of% sz_35) := ⟨tk_35, ze_35, sz_35⟩
theorem t36 : (type_of% tk_36) ∧ (type_of% ze_36) ∧ (type_of% sz_36) ∧ (type_of% kn_36) := ⟨tk_36, ze_36, sz_36, kn_36⟩
theorem t37 : (type_of% tk_37) ∧ (type_of% ze_37) ∧ (type_of% sz_37) ∧ (type_of% kn_37) := ⟨tk_37, ze_37, sz_37, kn_37⟩
theorem t38 : (type_of% tk_38) ∧ (type_of% ze_38) ∧ (type_of% sz_38) := ⟨tk_38, ze_38, sz_38⟩
theorem t39 : (type_of% tk_39) ∧ (type_of% ze_39) ∧ (type_of% sz_39) := ⟨tk_39, ze_39, sz_39⟩
theorem t40 : (type_of% tk_40) ∧ (type_of% ze_40) ∧ (type_of% sz_40) := ⟨tk_40, ze_40, sz_40⟩
theorem t41 : (type_of% tk_41) ∧ (type_of% ze_41) ∧ (type_of% sz_41) := ⟨tk_41, ze_41, sz_41⟩
theorem t42 : (type_of% tk_42) ∧ (type_of% ze_42) ∧ (type_of% sz_42) := ⟨tk_42, ze_42, sz_42⟩
theorem t43 : (type_of% tk_43) ∧ (type_of% ze_43) ∧ (type_of% sz_43) := ⟨tk_43, ze_43, sz_43⟩
theorem t44 : (type_of% tk_44) ∧ (type_of% ze_44) ∧ (type_of% sz_44) := ⟨tk_44, ze_44, sz_44⟩
theorem t45 : (type_of% tk_45) ∧ (type_of% ze_45) ∧ (type_of% sz_45) ∧ (type_of% kn_45) := ⟨tk_45, ze_45, sz_45, kn_45⟩
theorem t46 : (type_of% tk_46) ∧ (type_of% ze_46) ∧ (type_of% sz_46) ∧ (type_of% kn_46) := ⟨tk_46, ze_46, sz_46, kn_46⟩
theorem t47 : (type_of% tk_47) ∧ (type_of% ze_47) ∧ (type_of% sz_47) ∧ (type_of% kn_47) := ⟨tk_47, ze_47, sz_47, kn_47⟩
theorem t48 : (type_of% tk_48) ∧ (type_of% ze_48) ∧ (type_of% sz_48) ∧ (type_of% kn_48) := ⟨tk_48, ze_48, sz_48, kn_48⟩
theorem t49 : (type_of% tk_49) ∧ (type_of% ze_49) ∧ (type_of% sz_49) := ⟨tk_49, ze_49, sz_49⟩
theorem t50 : (type_of% tk_50) ∧ (type_of% ze_50) ∧ (type_of% sz_50) := ⟨tk_50, ze_50, sz_50⟩
theorem t51 : (type_of% tk_51) ∧ (type_of% ze_51) ∧ (type_of% sz_51) := ⟨tk_51, ze_51, sz_51⟩
theorem t52 : (type_of% tk_52) ∧ (type_of% ze_52) ∧ (type_of% sz_52) := ⟨tk_52, ze_52, sz_52⟩
theorem t53 : (type_of% tk_53) ∧ (type_of% ze_53) ∧ (type_of% sz_53) := ⟨tk_53, ze_53, sz_53⟩
theorem t54 : (type_of% tk_54) ∧ (type_of% ze_54) ∧ (type_of% sz_54) := ⟨tk_54, ze_54, sz_54⟩
theorem t55 : (type_of% tk_55) ∧ (type_of% ze_55) ∧ (type_of% sz_55) := ⟨tk_55, ze_55, sz_55⟩
theorem t56 : (type_of% tk_56) ∧ (type_of% ze_56) ∧ (type_of% sz_56) := ⟨tk_56, ze_56, sz_56⟩
theorem t57 : (type_of% tk_57) ∧ (type_of% ze_57) ∧ (type_of% sz_57) := ⟨tk_57, ze_57, sz_57⟩
theorem t58 : (type_of% tk_58) ∧ (type_of% ze_58) ∧ (type_of% sz_58) := ⟨tk_58, ze_58, sz_58⟩
theorem t59 : (type_of% tk_59) ∧ (type_of% ze_59) ∧ (type_of% sz_59) := ⟨tk_59, ze_59, sz_59⟩
theorem t60 : (type_of% tk_60) ∧ (type_of% ze_60) ∧ (type_of% sz_60) := ⟨tk_60, ze_60, sz_60⟩
theorem t61 : (type_of% tk_61) ∧ (type_of% ze_61) ∧ (type_of% sz_61) := ⟨tk_61, ze_61, sz_61⟩
theorem t62 : (type_of% tk_62) ∧ (type_of% ze_62) ∧ (type_of% sz_62) := ⟨tk_62, ze_62, sz_62⟩
theorem t63 : (type_of% tk_63) ∧ (type_of% ze_63) ∧ (type_of% sz_63) := ⟨tk_63, ze_63, sz_63⟩
theorem t64 : (type_of% tk_64) ∧ (type_of% ze_64) ∧ (type_of% sz_64) := ⟨tk_64, ze_64, sz_64⟩
theorem t65 : (type_of% tk_65) ∧ (type_of% ze_65) ∧ (type_of% sz_65) := ⟨tk_65, ze_65, sz_65⟩
theorem t66 : (type_of% tk_66) ∧ (type_of% ze_66) ∧ (type_of% sz_66) := ⟨tk_66, ze_66, sz_66⟩
theorem t67 : (type_of% tk_67) ∧ (type_of% ze_67) ∧ (type_of% sz_67) := ⟨tk_67, ze_67, sz_67⟩
theorem t68 : (type_of% tk_68) ∧ (type_of% ze_68) ∧ (type_of% sz_68) := ⟨tk_68, ze_68, sz_68⟩
theorem t69 : (type_of% tk_69) ∧ (type_of% ze_69) ∧ (type_of% sz_69) := ⟨tk_69, ze_69, sz_69⟩
theorem t70 : (type_of% tk_70) ∧ (type_of% ze_70) ∧ (type_of% sz_70) := ⟨tk_70, ze_70, sz_70⟩
theorem t71 : (type_of% tk_71) ∧ (type_of% ze_71) ∧ (type_of% sz_71) := ⟨tk_71, ze_71, sz_71⟩
theorem t72 : (type_of% tk_72) ∧ (type_of% ze_72) ∧ (type_of% sz_72) ∧ (type_of% kn_72) := ⟨tk_72, ze_72, sz_72, kn_72⟩
theorem t73 : (type_of% tk_73) ∧ (type_of% ze_73) ∧ (type_of% sz_73) ∧ (type_of% kn_73) := ⟨tk_73, ze_73, sz_73, kn_73⟩
theorem t74 : (type_of% tk_74) ∧ (type_of% ze_74) ∧ (type_of% sz_74) := ⟨tk_74, ze_74, sz_74⟩
theorem t75 : (type_of% tk_75) ∧ (type_of% ze_75) ∧ (type_of% sz_75) := ⟨tk_75, ze_75, sz_75⟩
theorem t76 : (type_of% tk_76) ∧ (type_of% ze_76) ∧ (type_of% sz_76) := ⟨tk_76, ze_76, sz_76⟩
theorem t77 : (type_of% tk_77) ∧ (type_of% ze_77) ∧ (type_of% sz_77) := ⟨tk_77, ze_77, sz_77⟩
theorem t78 : (type_of% tk_78) ∧ (type_of% ze_78) ∧ (type_of% sz_78) := ⟨tk_78, ze_78, sz_78⟩
theorem t79 : (type_of% tk_79) ∧ (type_of% ze_79) ∧ (type_of% sz_79) := ⟨tk_79, ze_79, sz_79⟩
theorem t80 : (type_of% tk_80) ∧ (type_of% ze_80) ∧ (type_of% sz_80) := ⟨tk_80, ze_80, sz_80⟩
theorem t81 : (type_of% tk_81) ∧ (type_of% ze_81) ∧ (type_of% sz_81) := ⟨tk_81, ze_81, sz_81⟩
theorem t82 : (type_of% tk_82) ∧ (type_of% ze_82) ∧ (type_of% sz_82) := ⟨tk_82, ze_82, sz_82⟩
theorem t83 : (type_of% tk_83) ∧ (type_of% ze_83) ∧ (type_of% sz_83) := ⟨tk_83, ze_83, sz_83⟩
theorem t84 : (type_of% tk_84) ∧ (type_of% ze_84) ∧ (type_of% sz_84) := ⟨tk_84, ze_84, sz_84⟩
theorem t85 : (type_of% tk_85) ∧ (type_of% ze_85) ∧ (type_of% sz_85) := ⟨tk_85, ze_85, sz_85⟩
theorem t86 : (type_of% tk_86) ∧ (type_of% ze_86) ∧ (type_of% sz_86) := ⟨tk_86, ze_86, sz_86⟩
theorem t87 : (type_of% tk_87) ∧ (type_of% ze_87) ∧ (type_of% sz_87) := ⟨tk_87, ze_87, sz_87⟩
theorem t88 : (type_of% tk_88) ∧ (type_of% ze_88) ∧ (type_of% sz_88) := ⟨tk_88, ze_88, sz_88⟩
theorem t89 : (type_of% tk_89) ∧ (type_of% ze_89) ∧ (type_of% sz_89) := ⟨tk_89, ze_89, sz_89⟩
theorem t90 : (type_of% tk_90) ∧ (type_of% ze_90) ∧ (type_of% sz_90) := ⟨tk_90, ze_90, sz_90⟩
theorem t91 : (type_of% tk_91) ∧ (type_of% ze_91) ∧ (type_of% sz_91) := ⟨tk_91, ze_91, sz_91⟩
theorem t92 : (type_of% tk_92) ∧ (type_of% ze_92) ∧ (type_of% sz_92) := ⟨tk_92, ze_92, sz_92⟩
theorem t93 : (type_of% tk_93) ∧ (type_of% ze_93) ∧ (type_of% sz_93) := ⟨tk_93, ze_93, sz_93⟩
theorem t94 : (type_of% tk_94) ∧ (type_of% ze_94) ∧ (type_of% sz_94) := ⟨tk_94, ze_94, sz_94⟩
theorem t95 : (type_of% tk_95) ∧ (type_of% ze_95) ∧ (type_of% sz_95) := ⟨tk_95, ze_95, sz_95⟩
theorem t96 : (type_of% tk_96) ∧ (type_of% ze_96) ∧ (type_of% sz_96) := ⟨tk_96, ze_96, sz_96⟩
theorem t97 : (type_of% tk_97) ∧ (type_of% ze_97) ∧ (type_of% sz_97) ∧ (type_of% kn_97) := ⟨tk_97, ze_97, sz_97, kn_97⟩
theorem t98 : (type_of% tk_98) ∧ (type_of% ze_98) ∧ (type_of% sz_98) := ⟨tk_98, ze_98, sz_98⟩
theorem t99 : (type_of% tk_99) ∧ (type_of% ze_99) ∧ (type_of% sz_99) := ⟨tk_99, ze_99, sz_99⟩
theorem t100 : (type_of% tk_100) ∧ (type_of% ze_100) ∧ (type_of% sz_100) ∧ (type_of% kn_100) := ⟨tk_100, ze_100, sz_100, kn_100⟩
theorem t101 : (type_of% tk_101) ∧ (type_of% ze_101) ∧ (type_of% sz_101) ∧ (type_of% kn_101) := ⟨tk_101, ze_101, sz_101, kn_101⟩
theorem t102 : (type_of% tk_102) ∧ (type_of% ze_102) ∧ (type_of% sz_102) := ⟨tk_102, ze_102, sz_102⟩
theorem t103 : (type_of% tk_103) ∧ (type_of% ze_103) ∧ (type_of% sz_103) := ⟨tk_103, ze_103, sz_103⟩
theorem t104 : (type_of% tk_104) ∧ (type_of% ze_104) ∧ (type_of% sz_104) := ⟨tk_104, ze_104, sz_104⟩
theorem t105 : (type_of% tk_105) ∧ (type_of% ze_105) ∧ (type_of% sz_105) := ⟨tk_105, ze_105, sz_105⟩
theorem t106 : (type_of% tk_106) ∧ (type_of% ze_106) ∧ (type_of% sz_106) := ⟨tk_106, ze_106, sz_106⟩
theorem t107 : (type_of% tk_107) ∧ (type_of% ze_107) ∧ (type_of% sz_107) := ⟨tk_107, ze_107, sz_107⟩
theorem t108 : (type_of% tk_108) ∧ (type_of% ze_108) ∧ (type_of% sz_108) := ⟨tk_108, ze_108, sz_108⟩
theorem t109 : (type_of% tk_109) ∧ (type_of% ze_109) ∧ (type_of% sz_109) := ⟨tk_109, ze_109, sz_109⟩
theorem t110 : (type_of% tk_110) ∧ (type_of% ze_110) ∧ (type_of% sz_110) := ⟨tk_110, ze_110, sz_110⟩
theorem t111 : (type_of% tk_111) ∧ (type_of% ze_111) ∧ (type_of% sz_111) := ⟨tk_111, ze_111, sz_111⟩
theorem t112 : (type_of% tk_112) ∧ (type_of% ze_112) ∧ (type_of% sz_112) := ⟨tk_112, ze_112, sz_112⟩
theorem t113 : (type_of% tk_113) ∧ (type_of% ze_113) ∧ (type_of% sz_113) := ⟨tk_113, ze_113, sz_113⟩
theorem t114 : (type_of% tk_114) ∧ (type_of% ze_114) ∧ (type_of% sz_114) := ⟨tk_114, ze_114, sz_114⟩
theorem t115 : (type_of% tk_115) ∧ (type_of% ze_115) ∧ (type_of% sz_115) ∧ (type_of% kn_115) := ⟨tk_115, ze_115, sz_115, kn_115⟩
theorem t116 : (type_of% tk_116) ∧ (type_of% ze_116) ∧ (type_of% sz_116) ∧ (type_of% kn_116) := ⟨tk_116, ze_116, sz_116, kn_116⟩
theorem t117 : (type_of% tk_117) ∧ (type_of% ze_117) ∧ (type_of% sz_117) := ⟨tk_117, ze_117, sz_117⟩
theorem t118 : (type_of% tk_118) ∧ (type_of% ze_118) ∧ (type_of% sz_118) := ⟨tk_118, ze_118, sz_118⟩
theorem t119 : (type_of% tk_119) ∧ (type_of% ze_119) ∧ (type_of% sz_119) := ⟨tk_119, ze_119, sz_119⟩
theorem t120 : (type_of% tk_120) ∧ (type_of% ze_120) ∧ (type_of% sz_120) := ⟨tk_120, ze_120, sz_120⟩
theorem t121 : (type_of% tk_121) ∧ (type_of% ze_121) ∧ (type_of% sz_121) := ⟨tk_121, ze_121, sz_121⟩
theorem t122 : (type_of% tk_122) ∧ (type_of% ze_122) ∧ (type_of% sz_122) := ⟨tk_122, ze_122, sz_122⟩
theorem t123 : (type_of% tk_123) ∧ (type_of% ze_123) ∧ (type_of% sz_123) := ⟨tk_123, ze_123, sz_123⟩
theorem t124 : (type_of% tk_124) ∧ (type_of% ze_124) ∧ (type_of% sz_124) := ⟨tk_124, ze_124, sz_124⟩
theorem t125 : (type_of% tk_125) ∧ (type_of% ze_125) ∧ (type_of% sz_125) := ⟨tk_125, ze_125, sz_125⟩
theorem t126 : (type_of% tk_126) ∧ (type_of% ze_126) ∧ (type_of% sz_126) := ⟨tk_126, ze_126, sz_126⟩
theorem t127 : (type_of% tk_127) ∧ (type_of% ze_127) ∧ (type_of% sz_127) := ⟨tk_127, ze_127, sz_127⟩
theorem t128 : (type_of% tk_128) ∧ (type_of% ze_128) ∧ (type_of% sz_128) := ⟨tk_128, ze_128, sz_128⟩
theorem t129 : (type_of% tk_129) ∧ (type_of% ze_129) ∧ (type_of% sz_129) := ⟨tk_129, ze_129, sz_129⟩
theorem t130 : (type_of% tk_130) ∧ (type_of% ze_130) ∧ (type_of% sz_130) := ⟨tk_130, ze_130, sz_130⟩
theorem t131 : (type_of% tk_131) ∧ (type_of% ze_131) ∧ (type_of% sz_131) := ⟨tk_131, ze_131, sz_131⟩
theorem t132 : (type_of% tk_132) ∧ (type_of% ze_132) ∧ (type_of% sz_132) := ⟨tk_132, ze_132, sz_132⟩
theorem t133 : (type_of% tk_133) ∧ (type_of% ze_133) ∧ (type_of% sz_133) := ⟨tk_133, ze_133, sz_133⟩
theorem t134 : (type_of% tk_134) ∧ (type_of% ze_134) ∧ (type_of% sz_134) := ⟨tk_134, ze_134, sz_134⟩
theorem t135 : (type_of% tk_135) ∧ (type_of% ze_135) ∧ (type_of% sz_135) := ⟨tk_135, ze_135, sz_135⟩
theorem t136 : (type_of% tk_136) ∧ (type_of% ze_136) ∧ (type_of% sz_136) := ⟨tk_136, ze_136, sz_136⟩
theorem t137 : (type_of% tk_137) ∧ (type_of% ze_137) ∧ (type_of% sz_137) := ⟨tk_137, ze_137, sz_137⟩
theorem t138 : (type_of% tk_138) ∧ (type_of% ze_138) ∧ (type_of% sz_138) := ⟨tk_138, ze_138, sz_138⟩
theorem t139 : (type_of% tk_139) ∧ (type_of% ze_139) ∧ (type_of% sz_139) := ⟨tk_139, ze_139, sz_139⟩
theorem t140 : (type_of% tk_140) ∧ (type_of% ze_140) ∧ (type_of% sz_140) := ⟨tk_140, ze_140, sz_140⟩
theorem t141 : (type_of% tk_141) ∧ (type_of% ze_141) ∧ (type_of% sz_141) := ⟨tk_141, ze_141, sz_141⟩
theorem t142 : (type_of% tk_142) ∧ (type_of% ze_142) ∧ (type_of% sz_142) := ⟨tk_142, ze_142, sz_142⟩
theorem t143 : (type_of% tk_143) ∧ (type_of% ze_143) ∧ (type_of% sz_143) := ⟨tk_143, ze_143, sz_143⟩
theorem t144 : (type_of% tk_144) ∧ (type_of% ze_144) ∧ (type_of% sz_144) := ⟨tk_144, ze_144, sz_144⟩
theorem t145 : (type_of% tk_145) ∧ (type_of% ze_145) ∧ (type_of% sz_145) := ⟨tk_145, ze_145, sz_145⟩
theorem t146 : (type_of% tk_146) ∧ (type_of% ze_146) ∧ (type_of% sz_146) := ⟨tk_146, ze_146, sz_146⟩
theorem t147 : (type_of% tk_147) ∧ (type_of% ze_147) ∧ (type_of% sz_147) := ⟨tk_147, ze_147, sz_147⟩
theorem t148 : (type_of% tk_148) ∧ (type_of% ze_148) ∧ (type_of% sz_148) := ⟨tk_148, ze_148, sz_148⟩
theorem t149 : (type_of% tk_149) ∧ (type_of% ze_149) ∧ (type_of% sz_149) := ⟨tk_149, ze_149, sz_149⟩
theorem t150 : (type_of% tk_150) ∧ (type_of% ze_150) ∧ (type_of% sz_150) := ⟨tk_150, ze_150, sz_150⟩
theorem t151 : (type_of% tk_151) ∧ (type_of% ze_151) ∧ (type_of% sz_151) := ⟨tk_151, ze_151, sz_151⟩
theorem t152 : (type_of% tk_152) ∧ (type_of% ze_152) ∧ (type_of% sz_152) := ⟨tk_152, ze_152, sz_152⟩
theorem t153 : (type_of% tk_153) ∧ (type_of% ze_153) ∧ (type_of% sz_153) := ⟨tk_153, ze_153, sz_153⟩
theorem t154 : (type_of% tk_154) ∧ (type_of% ze_154) ∧ (type_of% sz_154) := ⟨tk_154, ze_154, sz_154⟩
theorem t155 : (type_of% tk_155) ∧ (type_of% ze_155) ∧ (type_of% sz_155) := ⟨tk_155, ze_155, sz_155⟩
theorem t156 : (type_of% tk_156) ∧ (type_of% ze_156) ∧ (type_of% sz_156) := ⟨tk_156, ze_156, sz_156⟩
theorem t157 : (type_of% tk_157) ∧ (type_of% ze_157) ∧ (type_of% sz_157) := ⟨tk_157, ze_157, sz_157⟩
theorem t158 : (type_of% tk_158) ∧ (type_of% ze_158) ∧ (type_of% sz_158) := ⟨tk_158, ze_158, sz_158⟩
theorem t159 : (type_of% tk_159) ∧ (type_of% ze_159) ∧ (type_of% sz_159) := ⟨tk_159, ze_159, sz_159⟩
theorem t160 : (type_of% tk_160) ∧ (type_of% ze_160) ∧ (type_of% sz_160) := ⟨tk_160, ze_160, sz_160⟩
theorem t161 : (type_of% tk_161) ∧ (type_of% ze_161) ∧ (type_of% sz_161) := ⟨tk_161, ze_161, sz_161⟩
theorem t162 : (type_of% tk_162) ∧ (type_of% ze_162) ∧ (type_of% sz_162) := ⟨tk_162, ze_162, sz_162⟩
theorem t163 : (type_of% tk_163) ∧ (type_of% ze_163) ∧ (type_of% sz_163) := ⟨tk_163, ze_163, sz_163⟩
theorem t164 : (type_of% tk_164) ∧ (type_of% ze_164) ∧ (type_of% sz_164) := ⟨tk_164, ze_164, sz_164⟩
theorem t165 : (type_of% tk_165) ∧ (type_of% ze_165) ∧ (type_of% sz_165) := ⟨tk_165, ze_165, sz_165⟩
theorem t166 : (type_of% tk_166) ∧ (type_of% ze_166) ∧ (type_of% sz_166) := ⟨tk_166, ze_166, sz_166⟩
theorem t167 : (type_of% tk_167) ∧ (type_of% ze_167) ∧ (type_of% sz_167) := ⟨tk_167, ze_167, sz_167⟩
theorem t168 : (type_of% tk_168) ∧ (type_of% ze_168) ∧ (type_of% sz_168) := ⟨tk_168, ze_168, sz_168⟩
theorem t169 : (type_of% tk_169) ∧ (type_of% ze_169) ∧ (type_of% sz_169) := ⟨tk_169, ze_169, sz_169⟩
theorem t170 : (type_of% tk_170) ∧ (type_of% ze_170) ∧ (type_of% sz_170) := ⟨tk_170, ze_170, sz_170⟩
theorem t171 : (type_of% tk_171) ∧ (type_of% ze_171) ∧ (type_of% sz_171) := ⟨tk_171, ze_171, sz_171⟩
theorem t172 : (type_of% tk_172) ∧ (type_of% ze_172) ∧ (type_of% sz_172) := ⟨tk_172, ze_172, sz_172⟩
theorem t173 : (type_of% tk_173) ∧ (type_of% ze_173) ∧ (type_of% sz_173) := ⟨tk_173, ze_173, sz_173⟩
theorem t174 : (type_of% tk_174) ∧ (type_of% ze_174) ∧ (type_of% sz_174) := ⟨tk_174, ze_174, sz_174⟩
theorem t175 : (type_of% tk_175) ∧ (type_of% ze_175) ∧ (type_of% sz_175) := ⟨tk_175, ze_175, sz_175⟩
theorem t176 : (type_of% tk_176) ∧ (type_of% ze_176) ∧ (type_of% sz_176) := ⟨tk_176, ze_176, sz_176⟩
theorem t177 : (type_of% tk_177) ∧ (type_of% ze_177) ∧ (type_of% sz_177) := ⟨tk_177, ze_177, sz_177⟩
theorem t178 : (type_of% tk_178) ∧ (type_of% ze_178) ∧ (type_of% sz_178) := ⟨tk_178, ze_178, sz_178⟩
theorem t179 : (type_of% tk_179) ∧ (type_of% ze_179) ∧ (type_of% sz_179) := ⟨tk_179, ze_179, sz_179⟩
theorem t180 : (type_of% tk_180) ∧ (type_of% ze_180) ∧ (type_of% sz_180) := ⟨tk_180, ze_180, sz_180⟩
theorem t181 : (type_of% tk_181) ∧ (type_of% ze_181) ∧ (type_of% sz_181) := ⟨tk_181, ze_181, sz_181⟩
theorem t182 : (type_of% tk_182) ∧ (type_of% sz_182) ∧ (type_of% kn_182) := ⟨tk_182, sz_182, kn_182⟩
theorem t183 : (type_of% tk_183) ∧ (type_of% ze_183) ∧ (type_of% sz_183) ∧ (type_of% kn_183) := ⟨tk_183, ze_183, sz_183, kn_183⟩
theorem t184 : (type_of% tk_184) ∧ (type_of% ze_184) ∧ (type_of% sz_184) ∧ (type_of% kn_184) := ⟨tk_184, ze_184, sz_184, kn_184⟩
theorem t185 : (type_of% tk_185) ∧ (type_of% ze_185) ∧ (type_of% sz_185) ∧ (type_of% kn_185) := ⟨tk_185, ze_185, sz_185, kn_185⟩
theorem t186 : (type_of% tk_186) ∧ (type_of% ze_186) ∧ (type_of% sz_186) ∧ (type_of% kn_186) := ⟨tk_186, ze_186, sz_186, kn_186⟩
theorem t187 : (type_of% tk_187) ∧ (type_of% ze_187) ∧ (type_of% sz_187) ∧ (type_of% kn_187) := ⟨tk_187, ze_187, sz_187, kn_187⟩
theorem t188 : (type_of% tk_188) ∧ (type_of% ze_188) ∧ (type_of% sz_188) ∧ (type_of% kn_188) := ⟨tk_188, ze_188, sz_188, kn_188⟩
theorem t189 : (type_of% tk_189) ∧ (type_of% ze_189) ∧ (type_of% sz_189) ∧ (type_of% kn_189) := ⟨tk_189, ze_189, sz_189, kn_189⟩
theorem t190 : (type_of% tk_190) ∧ (type_of% ze_190) ∧ (type_of% sz_190) ∧ (type_of% kn_190) := ⟨tk_190, ze_190, sz_190, kn_190⟩
theorem t191 : (type_of% tk_191) ∧ (type_of% ze_191) ∧ (type_of% sz_191) := ⟨tk_191, ze_191, sz_191⟩
theorem t192 : (type_of% tk_192) ∧ (type_of% ze_192) ∧ (type_of% sz_192) := ⟨tk_192, ze_192, sz_192⟩
theorem t193 : (type_of% tk_193) ∧ (type_of% ze_193) ∧ (type_of% sz_193) := ⟨tk_193, ze_193, sz_193⟩
theorem t194 : (type_of% tk_194) ∧ (type_of% ze_194) ∧ (type_of% sz_194) := ⟨tk_194, ze_194, sz_194⟩
theorem t195 : (type_of% tk_195) ∧ (type_of% ze_195) ∧ (type_of% sz_195) := ⟨tk_195, ze_195, sz_195⟩
theorem t196 : (type_of% tk_196) ∧ (type_of% ze_196) ∧ (type_of% sz_196) := ⟨tk_196, ze_196, sz_196⟩
theorem t197 : (type_of% tk_197) ∧ (type_of% ze_197) ∧ (type_of% sz_197) ∧ (type_of% kn_197) := ⟨tk_197, ze_197, sz_197, kn_197⟩
theorem t198 : (type_of% tk_198) ∧ (type_of% ze_198) ∧ (type_of% sz_198) ∧ (type_of% kn_198) := ⟨tk_198, ze_198, sz_198, kn_198⟩
end Go.Ag
/- AGo, part 18: some of the library's functions, from the shelf's contracts. -/
namespace Go.Ag
open Go Go.RowKit
variable {P : Program} {G : Nat → Option (List V)} {f : FuncId} {H : List Ob} {K : D → List Ob → Prop}

theorem toList_mkd (s : List UInt8) : (ByteArray.mk s.toArray).data.toList = s := by simp
theorem RelL.one {M : Mem} {μ : Mu} {a : D} {vs : List Value} (h : RelL M μ [a] vs) : ∃ y, vs = [y] ∧ Rel M μ a y := by
  simp only [RelL] at h; obtain ⟨y, _, rfl, h1, rfl⟩ := h; exact ⟨y, rfl, h1⟩
theorem RelL.two {M : Mem} {μ : Mu} {a b : D} {vs : List Value} (h : RelL M μ [a, b] vs) : ∃ y z, vs = [y, z] ∧ Rel M μ a y ∧ Rel M μ b z := by
  simp only [RelL] at h; obtain ⟨y, _, rfl, h1, z, _, rfl, h2, rfl⟩ := h; exact ⟨y, z, rfl, h1, h2⟩
theorem RelL.three {M : Mem} {μ : Mu} {a b c : D} {vs : List Value} (h : RelL M μ [a, b, c] vs) : ∃ x y z, vs = [x, y, z] ∧ Rel M μ a x ∧ Rel M μ b y ∧ Rel M μ c z := by
  simp only [RelL] at h; obtain ⟨x, _, rfl, h1, y, _, rfl, h2, z, _, rfl, h3, rfl⟩ := h; exact ⟨x, y, z, rfl, h1, h2, h3⟩
theorem map_mk (l : List (List UInt8)) : (l.map fun s => ByteArray.mk s.toArray).map (·.data.toList) = l := by
  rw [List.map_map]
  conv => rhs; rw [← List.map_id l]
  exact List.map_congr_left fun s _ => by simp
theorem size_mk (s : List UInt8) : (ByteArray.mk s.toArray).size = s.length := by simp [ByteArray.size]
theorem mk_toList (s : ByteArray) : ByteArray.mk s.data.toList.toArray = s := by simp

/-- Two strings in, a bool out. -/
theorem lib_bool2 (g : List UInt8 → List UInt8 → Bool) (hc : callB P f = true) (s p : List UInt8)
    (h : ∀ w, Calls P f #[.string ⟨s.toArray⟩, .string ⟨p.toArray⟩] w fun e w' => e = .returned (.bool (g (ByteArray.mk s.toArray).data.toList (ByteArray.mk p.toArray).data.toList)) ∧ w' = w) (hK : K (.v (.bool (g s p))) H) : ACalls P G f [.v (.str s), .v (.str p)] H K := by
  refine ACalls.of_calls hc fun E e1 e2 M μ w vs hr hv => ?_
  obtain ⟨y1, y2, rfl, h1, h2⟩ := hv.two
  simp only [Rel, RelV] at h1 h2
  subst h1; subst h2
  refine (h w).mono ?_
  rintro e w' ⟨rfl, rfl⟩
  exact ⟨_, _, rfl, .refl _ _, by simp only [Rel, RelV], hK⟩

theorem relV_strs_nil {M : Mem} {c : Nat} {a : Option Addr} : RelV M (.list 1 []) (.slice a 0 c) := by
  simp only [RelV]; exact ⟨a, c, rfl, Nat.zero_le _, .inl trivial⟩

theorem lib_Join (hc : callB P f = true) (l : List (List UInt8)) (sep : List UInt8)
    (h0 : ∀ a c sep w, Calls P f #[.slice a 0 c, .string sep] w fun e w' => e = .returned (.string ⟨#[]⟩) ∧ w' = w)
    (h1 : ∀ (bk o c : Nat) (xs : List ByteArray) (sep : ByteArray) (w : World) (hcells : ∀ (j : Nat) x, xs[j]? = some x → w.cell? ⟨bk, o + j, none⟩ = some (.string x)) (hbk : bk < w.heap.size) (hN : xs.length ≤ 140737488355328) (hcap : xs.length ≤ c) (hlen : (Lib.join (xs.map (·.data.toList)) sep.data.toList).length ≤ 140737488355328),
      Calls P f #[.slice (some ⟨bk, o, none⟩) xs.length c, .string sep] w fun e w' => e = .returned (.string ⟨(Lib.join (xs.map (·.data.toList)) sep.data.toList).toArray⟩) ∧ Below w.heap.size w w')
    (hN : l.length ≤ 140737488355328) (hlen : (Lib.join l sep).length ≤ 140737488355328) (hK : K (.v (.str (Lib.join l sep))) H) : ACalls P G f [.v (.list 1 (l.map fun s => [.str s])), .v (.str sep)] H K := by
  refine ACalls.of_calls hc fun E e1 e2 M μ w vs hr hv => ?_
  obtain ⟨y1, y2, rfl, g1, g2⟩ := hv.two
  simp only [Rel, RelV] at g2
  subst g2
  obtain ⟨A, c, rfl, hcap, hh⟩ := hr.strs g1
  have em : (l.map fun s => ByteArray.mk s.toArray).map (·.data.toList) = l := map_mk l
  rcases hh with rfl | ⟨b, o, rfl, hb, _, hcell⟩
  · refine (h0 A c _ w).mono ?_
    rintro e w' ⟨rfl, rfl⟩
    exact ⟨_, _, rfl, .refl _ _, by simp only [Rel, RelV]; rfl, hK⟩
  · have := h1 b o c (l.map fun s => ByteArray.mk s.toArray) ⟨sep.toArray⟩ w (fun j x hx => by
      rw [List.getElem?_map] at hx
      cases hs : l[j]? with
      | none => rw [hs] at hx; cases hx
      | some s => rw [hs] at hx; cases hx; exact hcell j s hs) hb (by simpa using hN) (by simpa using hcap) (by rw [em]; simpa using hlen)
    rw [em, List.length_map] at this
    refine this.mono ?_
    rintro e w' ⟨rfl, hbel⟩
    exact ⟨_, _, rfl, hbel, by simp only [Rel, RelV], hK⟩

theorem lib_Split (hc : callB P f = true) (s : List UInt8) (c : UInt8) (t : TypeId) (g : Nat) (m : Int) (hG : G g = some [.int .i64 m])
    (h : ∀ (s sep : ByteArray) (m : Int) (w : World) (hs : s.size < 4294967281) (hm : w.cell? ⟨g, 0, none⟩ = some (.int .i64 m)) (h1 : 1 ≤ sep.size),
      Calls P f #[.string s, .string sep] w fun e w' => e = .returned (.slice (some ⟨w.heap.size, 0, none⟩) (Lib.countB s sep + 1) (Lib.countB s sep + 1)) ∧ w' = w.alloc (.cells ((Lib.splitB sep 0 (Lib.countB s sep) s).map Value.string).toArray t))
    (hs : s.length < 4294967281) (hK : K (.v (.list 1 ((splitC c s).map fun s => [.str s]))) H) : ACalls P G f [.v (.str s), .v (.str [c])] H K := by
  refine ACalls.of_new hc fun E e1 e2 M μ w vs hr hv => ?_
  obtain ⟨y1, y2, rfl, g1, g2⟩ := hv.two
  simp only [Rel, RelV] at g1 g2
  subst g1; subst g2
  have hm : w.cell? ⟨g, 0, none⟩ = some (.int .i64 m) := by
    have := hr.glob g _ (e2 ▸ hG)
    simp only [RelRow, RelV] at this
    obtain ⟨⟨y, hy, rfl⟩, _⟩ := this
    exact hr.imm _ _ _ hy
  refine (h _ _ m w (by rw [size_mk]; exact hs) hm (by simp [ByteArray.size])).mono ?_
  rintro e w' ⟨rfl, rfl⟩
  have e1 : (Lib.splitB ⟨[c].toArray⟩ 0 (Lib.countB ⟨s.toArray⟩ ⟨[c].toArray⟩) ⟨s.toArray⟩).map (·.data.toList) = splitC c s := by
    rw [Lib.splitB_data]
    exact (split_eq c s.length s (Nat.le_refl _)).1
  have e2 : Lib.countB ⟨s.toArray⟩ ⟨[c].toArray⟩ + 1 = (splitC c s).length := (split_eq c s.length s (Nat.le_refl _)).2.symm
  generalize hX : Lib.splitB ⟨[c].toArray⟩ 0 (Lib.countB ⟨s.toArray⟩ ⟨[c].toArray⟩) ⟨s.toArray⟩ = X at e1
  have e3 : X.map Value.string = (splitC c s).map fun s => Value.string ⟨s.toArray⟩ := by
    rw [← e1, List.map_map]
    exact List.map_congr_left fun x _ => by simp
  refine ⟨_, _, w.heap.size, X.map Value.string, rfl, (Below.refl _ _).alloc (Nat.le_refl _) _, Nat.le_refl _, fun o y hy => ?_, ?_, hK⟩
  · rw [cell?_block (vs := X.map Value.string) (t := t) (by show (w.heap.push _)[w.heap.size]? = _; simp)]; exact hy
  · simp only [Rel, RelV]
    refine ⟨_, _, by rw [List.length_map, ← e2], by rw [List.length_map, ← e2]; exact Nat.le_refl _, .inr ⟨_, _, rfl, ?_⟩⟩
    refine relRows_strs _ _ fun j t ht => ?_
    rw [memWith_self, e3, Nat.zero_add, List.getElem?_map, ht]
    rfl
end Go.Ag
namespace Go.Ag
open Go Go.Proofs
variable {G : Nat → Option (List V)}
attribute [local irreducible] aops qops Sat aop

theorem mixed : Tryz.prog.follows .mixedOrders = true := by kernel_rfl

set_option maxHeartbeats 4000000 in
theorem spec_Name (s : Str) (hs : s.length ≤ 1099511627776) (H : List Ob) (K : D → List Ob → Prop) (hK : K (.v (.bool (nameOk s))) H) : ACalls Tryz.prog G 55 [.v (.str s)] H K := by
  refine ACalls.go Tryz.f55 _ 55 [2] Tryz.func55 rfl Tryz.ntmps55 (by kernel_rfl) rfl (by simp) (fun E hE hP hG hH => ?_)
  subst hH
  simp only [args0]
  (refine W0 t9 ?_; try with_reducible intro K hK)
  refine sat_thru (fr 55 [(13, .v (.bool (((s.length : Int) == 0) || decide ((s.length : Int) > 60)))), (2, .v (.bool false)), (0, .v (.str s))]) E.H0 ?_ ?_
  · (first | refine wr ?_ | refine wp rfl hM ?_ | refine wq hM ?_); repeat' (first | (refine G0 t9 ?_; try with_reducible intro K hK) | ((first | refine Xs rfl rfl (by decide) rfl (fun h => ?_) fun h => ?_ | refine Ys rfl rfl (by decide) rfl (fun h => ?_) fun h => ?_ | refine Zs rfl rfl rfl (by decide) rfl (fun h => ?_) fun h => ?_); rotate_left; (focus (simp only [Bool.not_true, Bool.not_false, lp])); rotate_left))
    all_goals refine .weakFr ?_
    all_goals simp only [le, ↓reduceIte, Nat.reduceEqDiff, and_true]; repeat' (first | exact trivial | exact D.le_refl _ | exact D.le_any _ | with_reducible refine And.intro ?_ ?_)
    all_goals refine D.le_eq (congrArg D.v (congrArg V.bool ?_)); (try simp only [Bool.not_eq_eq_eq_not, Bool.not_true, Bool.not_false] at *); simp only [*, List.getD_eq_getElem?_getD, Bool.and_true, Bool.true_and, Bool.and_false, Bool.false_and, Bool.or_true, Bool.true_or, Bool.or_false, Bool.false_or, Bool.not_true, Bool.not_false, Bool.not_not]
  refine sat_cond rfl (fun hb => ?_) (fun hb => ?_)
  · (refine W0 trivial ?_; try with_reducible intro K hK)
    refine Fin.is (.v (.bool false)) (by decide) rfl ?_
    have : nameOk s = false := by
      simp only [nameOk, ← Bool.not_or, hb, Bool.not_true, Bool.false_and]
    rwa [this] at hK
  (refine W0 t9 ?_; try with_reducible intro K hK)
  refine sat_loop_ent (fun n ts H => ∃ (i : Nat), n = s.length - i ∧ i ≤ s.length ∧ (∀ j, j < i → nameAt s j = true) ∧
    ts = fr 55 [(16, .v (.int .i64 i)), (15, .v (.int .i64 s.length)), (2, .v (.bool false)), (0, .v (.str s))] ∧ H = E.H0) (s.length) (.weakFr ?_) ⟨0, rfl, Nat.zero_le _, by simp, rfl, rfl⟩ ?_
  · simp only [le, ↓reduceIte, Nat.reduceEqDiff, and_true]; repeat' (first | exact trivial | exact D.le_refl _ | exact D.le_any _ | with_reducible refine And.intro ?_ ?_)
  rintro n ts H ⟨i, rfl, hi, hall, rfl, rfl⟩
  (refine W0 t9 ?_; try with_reducible intro K hK)
  refine sat_cond rfl (fun hc => ?_) (fun hc => ?_)
  · simp at hc
    (refine W0 (c2 t9 @hc) ?_; try with_reducible intro K hK)
    refine sat_thru (fr 55 [(5, .v (.bool (wordB (s.getD i 0)))), (4, .v (.int .u8 (s.getD i 0).toNat)), (3, .v (.int .i64 i)), (16, .v (.int .i64 i)), (15, .v (.int .i64 s.length)), (2, .v (.bool false)), (0, .v (.str s))]) E.H0 ?_ ?_
    · (first | refine wr ?_ | refine wp rfl hM ?_ | refine wq hM ?_); repeat' (first | (refine G0 t9 ?_; try with_reducible intro K hK) | ((first | refine Xs rfl rfl (by decide) rfl (fun h => ?_) fun h => ?_ | refine Ys rfl rfl (by decide) rfl (fun h => ?_) fun h => ?_ | refine Zs rfl rfl rfl (by decide) rfl (fun h => ?_) fun h => ?_); rotate_left; (focus (simp only [Bool.not_true, Bool.not_false, lp])); rotate_left))
      all_goals refine .weakFr ?_
      all_goals simp only [le, ↓reduceIte, Nat.reduceEqDiff, and_true]; repeat' (first | exact trivial | exact D.le_refl _ | exact D.le_any _ | with_reducible refine And.intro ?_ ?_)
      all_goals refine D.le_eq (congrArg D.v (congrArg V.bool ?_)); (try simp only [Bool.not_eq_eq_eq_not, Bool.not_true, Bool.not_false] at *); simp only [*, List.getD_eq_getElem?_getD, Bool.and_true, Bool.true_and, Bool.and_false, Bool.false_and, Bool.or_true, Bool.true_or, Bool.or_false, Bool.false_or, Bool.not_true, Bool.not_false, Bool.not_not, wordB]
    (refine W0 t9 ?_; try with_reducible intro K hK)
    refine sat_thru (fr 55 [(53, .v (.bool (!nameAt s i))), (16, .v (.int .i64 i)), (15, .v (.int .i64 s.length)), (2, .v (.bool false)), (0, .v (.str s))]) E.H0 ?_ ?_
    · (first | refine wr ?_ | refine wp rfl hM ?_ | refine wq hM ?_); repeat' (first | (refine G0 t9 ?_; try with_reducible intro K hK) | ((first | refine Xs rfl rfl (by decide) rfl (fun h => ?_) fun h => ?_ | refine Ys rfl rfl (by decide) rfl (fun h => ?_) fun h => ?_ | refine Zs rfl rfl rfl (by decide) rfl (fun h => ?_) fun h => ?_); rotate_left; (focus (simp only [Bool.not_true, Bool.not_false, lp])); rotate_left))
      all_goals refine .weakFr ?_
      all_goals simp only [le, ↓reduceIte, Nat.reduceEqDiff, and_true]; repeat' (first | exact trivial | exact D.le_refl _ | exact D.le_any _ | with_reducible refine And.intro ?_ ?_)
      all_goals clear hall
      all_goals refine D.le_eq (congrArg D.v (congrArg V.bool ?_)); (try simp only [Bool.not_eq_eq_eq_not, Bool.not_true, Bool.not_false] at *); simp only [*, List.getD_eq_getElem?_getD, Bool.and_true, Bool.true_and, Bool.and_false, Bool.false_and, Bool.or_true, Bool.true_or, Bool.or_false, Bool.false_or, Bool.not_true, Bool.not_false, Bool.not_not, nameAt, markB]
    refine sat_cond rfl (fun hb => ?_) (fun hb => ?_)
    · (refine W0 trivial ?_; try with_reducible intro K hK)
      refine Fin.is (.v (.bool false)) (by decide) rfl ?_
      have : nameOk s = false := by
        simp only [nameOk, Bool.and_eq_false_iff]
        right
        rw [List.all_eq_false]
        exact ⟨i, by simpa using hc, by simpa using hb⟩
      rwa [this] at hK
    · have hw := wrap_succ (i := i) (by omega)
      simp at hb
      (refine W0 @hw ?_; try with_reducible intro K hK)
      refine ⟨s.length - (i + 1), _, _, by omega, .weakFr ?_, i + 1, rfl, by omega, fun j hj => ?_, rfl, rfl⟩
      · simp only [le, ↓reduceIte, Nat.reduceEqDiff, and_true]; repeat' (first | exact trivial | exact D.le_refl _ | exact D.le_any _ | with_reducible refine And.intro ?_ ?_)
      · rcases Nat.lt_succ_iff_lt_or_eq.1 hj with h | rfl
        · exact hall j h
        · exact hb
  · simp at hc
    (refine W0 t9 ?_; try with_reducible intro K hK)
    refine Fin.is (.v (.bool true)) (by decide) rfl ?_
    have : nameOk s = true := by
      simp only [nameOk, ← Bool.not_or, hb, Bool.not_false, Bool.true_and, List.all_eq_true, List.mem_range]
      exact fun j hj => hall j (by omega)
    rwa [this] at hK
end Go.Ag
namespace Go.Ag
open Go Go.Proofs
variable {G : Nat → Option (List V)}

structure Slv where
  name : Str
  link : Str
structure Cho where
  path : Str
  prio : Int
  slaves : List Str
structure Alt where
  name : Str
  link : Str
  manual : Bool
  cur : Str
  slaves : List Slv
  choices : List Cho
def slvs (l : List Slv) : V := .list 2 (l.map fun s => [.str s.name, .str s.link])
def chos (l : List Cho) : V := .list 3 (l.map fun c => [.str c.path, .int .i64 c.prio, strs c.slaves])
def altd (x : Alt) : D := .agg [.v (.str x.name), .v (.str x.link), .v (.bool x.manual), .v (.str x.cur), .v (slvs x.slaves), .v (chos x.choices)]

def links (x : Alt) : List Str := x.link :: x.slaves.map (·.link)

theorem spec_Links (x : Alt) (hx : x.slaves.length ≤ 1099511627776) (H : List Ob) (K : D → List Ob → Prop) (hK : K (.v (strs (links x))) H) : ACalls Tryz.prog G 59 [altd x] H K := by
  refine ACalls.go Tryz.f59 _ 23 [2] Tryz.func59 rfl Tryz.ntmps59 (by kernel_rfl) rfl (by simp) (fun E hE hP hG hH => ?_)
  subst hH
  simp only [args0, altd]
  (refine W0 (c5 t9 t23 t26 t44 t37) ?_; try with_reducible intro K hK)
  refine sat_loop_ent (fun n ts H => ∃ (i ver : Nat) (out : List Str), n = x.slaves.length - i ∧ i ≤ x.slaves.length ∧ 1 ≤ ver ∧ out = x.link :: (x.slaves.take i).map (·.link) ∧
    ts = fr 23 [(12, .v (.int .i64 i)), (11, .v (.int .i64 x.slaves.length)), (10, .v (slvs x.slaves)), (3, .own (E.H0.length + 1) ver out.length), (1, .ptr E.H0.length 0)] ∧
    H = E.H0 ++ [.box [.v (.str x.name), .v (.str x.link), .v (.bool x.manual), .v (.str x.cur), .v (slvs x.slaves), .v (chos x.choices)], .arr ver 1 (out.map fun s => [.v (.str s)]) 0]) (x.slaves.length) (.weakFr ?_) ⟨0, 1, _, rfl, Nat.zero_le _, Nat.le_refl _, rfl, rfl, rfl⟩ ?_
  · simp only [List.length_map]; simp only [le, ↓reduceIte, Nat.reduceEqDiff, and_true]; repeat' (first | exact trivial | exact D.le_refl _ | exact D.le_any _ | with_reducible refine And.intro ?_ ?_)
  · rintro n ts H ⟨i, ver, out, rfl, hi, hv, ho, rfl, rfl⟩
    have hol : out.length = i + 1 := by subst ho; simp; omega
    (refine W0 (c6 @slvs.eq_def t9 t23 t26 t44 t37) ?_; try with_reducible intro K hK)
    refine sat_cond rfl (fun hb => ?_) (fun hb => ?_)
    · simp only [decide_eq_true_eq, Int.ofNat_lt] at hb
      obtain ⟨s, hs⟩ : ∃ s, x.slaves[i]? = some s := ⟨_, List.getElem?_eq_getElem hb⟩
      have hw := wrap_succ (i := i) (by omega)
      (refine W0 (c9 @slvs.eq_def t9 t23 t26 t44 t37 @hs @hb @hw) ?_; try with_reducible intro K hK)
      refine ⟨x.slaves.length - (i + 1), _, _, by omega, ?_, i + 1, ver + 1, out ++ [s.link], rfl, by omega, by omega, by simp [ho, List.take_add_one, hs], rfl, rfl⟩
      refine Ent.rnd hE ?_ ?_ ?_ ?_
      · simp only [List.length_append, List.length_cons, List.length_nil]; simp only [le, ↓reduceIte, Nat.reduceEqDiff, and_true]; repeat' (first | exact trivial | exact D.le_refl _ | exact D.le_any _ | with_reducible refine And.intro ?_ ?_)
      · simp [slvs]
      · simp [ltAll, ltObs, Ob.lt, D.lt, D.ltL, or_imp, forall_and]
      · simp [ltAll, ltObs, Ob.lt, D.lt, D.ltL, or_imp, forall_and]
    · simp only [decide_eq_false_iff_not, Int.ofNat_lt, Nat.not_lt] at hb
      (refine W0 @slvs.eq_def ?_; try with_reducible intro K hK)
      have e : i = x.slaves.length := by omega
      have ho : out = links x := by rw [ho, e, take_len]; rfl
      subst ho
      refine Fin.pub 1 ver 1 0 (links x).length ((links x).map fun s => [.str s]) hE (by decide) rfl ?_ (Nat.zero_le _) (by simp) ?_
      · simp
      · simpa only [strs, take_len_map] using hK


theorem spec_Same2 (a b : List Str) (ha : a.length ≤ 1099511627776) (H : List Ob) (K : D → List Ob → Prop) (hK : K (.v (.bool (a == b))) H) : ACalls Tryz.prog G 54 [.v (strs a), .v (strs b)] H K := by
  refine ACalls.go Tryz.f54 _ 26 [4] Tryz.func54 rfl Tryz.ntmps54 (by kernel_rfl) rfl (by simp) (fun E hE hP hG hH => ?_)
  subst hH
  have hM : E.P.follows .mixedOrders = true := hP ▸ mixed
  simp only [args0]
  (refine W0 (c3 @strs.eq_def t9 t44) ?_; try with_reducible intro K hK)
  refine sat_cond rfl (fun hb => ?_) (fun hb => ?_)
  · (refine W0 trivial ?_; try with_reducible intro K hK)
    refine Fin.is _ (by decide) rfl ?_
    have : (a == b) = false := by
      simp at hb ⊢; intro e; subst e; exact hb rfl
    rwa [this] at hK
  (refine W0 (c3 @strs.eq_def t9 t44) ?_; try with_reducible intro K hK)
  refine sat_loop_ent (fun n ts H => ∃ (i : Nat), n = a.length - i ∧ i ≤ a.length ∧ a.take i = b.take i ∧
    ts = fr 26 [(5, .v (.int .i64 i)), (4, .v (.bool false)), (0, .v (strs a)), (1, .v (strs b))] ∧ H = E.H0) (a.length) (.weakFr ?_) ⟨0, rfl, Nat.zero_le _, rfl, rfl, rfl⟩ ?_
  · simp only [le, ↓reduceIte, Nat.reduceEqDiff, and_true]; repeat' (first | exact trivial | exact D.le_refl _ | exact D.le_any _ | with_reducible refine And.intro ?_ ?_)
  · rintro n ts H ⟨i, rfl, hi, he, rfl, rfl⟩
    (refine W0 (c3 @strs.eq_def t9 t44) ?_; try with_reducible intro K hK)
    have hl : a.length = b.length := by simp at hb; omega
    refine sat_cond rfl (fun hc => ?_) (fun hc => ?_)
    · simp at hc
      obtain ⟨x, hx⟩ : ∃ x, a[i]? = some x := ⟨_, List.getElem?_eq_getElem hc⟩
      obtain ⟨y, hy⟩ : ∃ y, b[i]? = some y := ⟨_, List.getElem?_eq_getElem (hl ▸ hc)⟩
      (refine W0 (c5 @strs.eq_def t9 t44 @hx @hy) ?_; try with_reducible intro K hK)
      repeat ((with_reducible refine And.intro ?_ ?_; focus (first | decide | omega | (simp only [ln]; omega))))
      refine sat_cond rfl (fun hd => ?_) (fun hd => ?_)
      · (refine W0 trivial ?_; try with_reducible intro K hK)
        refine Fin.is _ (by decide) rfl ?_
        have : (a == b) = false := by
          simp at hd ⊢; intro e; subst e; rw [hx] at hy; exact hd (by simpa using hy)
        rwa [this] at hK
      · have hw := wrap_succ (i := i) (by omega)
        simp at hd
        subst hd
        (refine W0 @hw ?_; try with_reducible intro K hK)
        refine ⟨a.length - (i + 1), _, _, by omega, .weakFr ?_, i + 1, rfl, by omega, by simp [List.take_add_one, hx, hy, he], rfl, rfl⟩
        simp only [le, ↓reduceIte, Nat.reduceEqDiff, and_true]; repeat' (first | exact trivial | exact D.le_refl _ | exact D.le_any _ | with_reducible refine And.intro ?_ ?_)
    · simp at hc
      (refine W0 trivial ?_; try with_reducible intro K hK)
      refine Fin.is (.v (.bool true)) (by decide) rfl ?_
      have : a = b := by
        rwa [List.take_of_length_le hc, List.take_of_length_le (by omega)] at he
      subst this
      simpa using hK
end Go.Ag
