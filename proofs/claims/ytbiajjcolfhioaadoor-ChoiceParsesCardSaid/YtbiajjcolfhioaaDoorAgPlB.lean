/- AGo, plain laws: selections as a text. -/
import Derived.Test.YtbiajjcolfhioaaDoorAgPlA
set_option linter.all false
namespace Go.Ag

theorem splitC_sep (c : UInt8) : ∀ (l r : Str), c ∉ l → splitC c (l ++ c :: r) = l :: splitC c r
  | [], r, _ => by simp [splitC]
  | b :: l, r, h => by
    have hb : b ≠ c := fun e => h (by simp [e])
    rw [List.cons_append, splitC, if_neg hb, splitC_sep c l r (fun e => h (by simp [e]))]
theorem splitC_no (c : UInt8) : ∀ (l : Str), c ∉ l → splitC c l = [l]
  | [], _ => rfl
  | b :: l, h => by
    have hb : b ≠ c := fun e => h (by simp [e])
    rw [splitC, if_neg hb, splitC_no c l (fun e => h (by simp [e]))]
theorem splitC_not (c : UInt8) : ∀ (s : Str), ∀ l ∈ splitC c s, c ∉ l
  | [], l, h => by simp [splitC] at h; subst h; simp
  | b :: s, l, h => by
    rw [splitC] at h
    have ih := splitC_not c s
    split at h
    · rcases List.mem_cons.1 h with rfl | h
      · simp
      · exact ih l h
    · rename_i hb
      revert h ih
      cases splitC c s with
      | nil => intro ih h; simp at h; subst h; simpa using fun e => hb e.symm
      | cons x xs =>
        intro ih h
        rcases List.mem_cons.1 h with rfl | h
        · intro e
          rcases List.mem_cons.1 e with e | e
          · exact hb e.symm
          · exact ih x (by simp) e
        · exact ih l (by simp [h])
/-- Its pieces, each with the byte behind it. -/
def lined (c : UInt8) (l : List Str) : Str := (l.map fun x => x ++ [c]).flatten
theorem lined_split (c : UInt8) : ∀ s : Str, lined c (splitC c s) = s ++ [c]
  | [] => rfl
  | b :: s => by
    have ih := lined_split c s
    rw [splitC]
    split
    · rename_i hb; subst hb; simpa [lined] using ih
    · revert ih
      cases h : splitC c s with
      | nil => exact absurd h (splitC_ne c s)
      | cons x xs => intro ih; simpa [lined] using ih
theorem split_lined (c : UInt8) : ∀ l : List Str, (∀ x ∈ l, c ∉ x) → splitC c (lined c l) = l ++ [[]]
  | [], _ => rfl
  | x :: l, h => by
    have e : lined c (x :: l) = x ++ c :: lined c l := by simp [lined]
    rw [e, splitC_sep c x _ (h x (by simp)), split_lined c l (fun y hy => h y (by simp [hy]))]
    rfl
theorem splitC_end (c : UInt8) (t : Str) : splitC c (t ++ [c]) = splitC c t ++ [[]] := by
  rw [← splitR_eq, ← splitR_eq]; simp [splitR, splitStep]
theorem splitC_end_ne (c b : UInt8) (t : Str) (h : b ≠ c) : ∃ l x, splitC c (t ++ [b]) = l ++ [x] ∧ x ≠ [] := by
  have h2 : (b == c) = false := by simpa using h
  rw [← splitR_eq]
  exact ⟨_, _, rfl, by simp [splitStep, h2]⟩

/-! ### lines -/
def linesP (s : Str) : Option (List Str) := if s == [] then some [] else if !Go.Lib.hasSuffix s [10] then none else some (splitC 10 (s.take (s.length - 1)))
def linesR (s : Str) : List Str × Bool := ((splitC 10 s).take ((splitC 10 s).length - 1), (splitC 10 s).getD ((splitC 10 s).length - 1) [] == [])
theorem snoc_cases {α : Type} (s : List α) : s = [] ∨ ∃ t b, s = t ++ [b] := by
  rcases List.eq_nil_or_concat s with h | ⟨t, b, h⟩
  · exact .inl h
  · exact .inr ⟨t, b, by simpa using h⟩
theorem hasSuffix_snoc (t : Str) (b c : UInt8) : Go.Lib.hasSuffix (t ++ [b]) [c] = (b == c) := by
  rw [Bool.eq_iff_iff]
  simp [Go.Lib.hasSuffix, List.isSuffixOf, List.isPrefixOf]
  exact eq_comm
theorem lines_eq (s : Str) : match linesP s with
    | some l => linesR s = (l, true) ∧ s = lined 10 l ∧ ∀ x ∈ l, (10 : UInt8) ∉ x
    | none => (linesR s).2 = false := by
  rcases snoc_cases s with rfl | ⟨t, b, rfl⟩
  · simp [linesP, linesR, lined, splitC]
  · have h0 : (t ++ [b] == []) = false := by simp
    by_cases hb : b = 10
    · subst hb
      simp only [linesP, h0, hasSuffix_snoc, beq_self_eq_true, Bool.not_true, Bool.false_eq_true, if_false, List.length_append, List.length_singleton, Nat.add_sub_cancel, List.take_left']
      refine ⟨?_, (lined_split 10 t).symm, splitC_not 10 t⟩
      simp [linesR, splitC_end]
    · have h1 : (b == 10) = false := by simpa using hb
      simp only [linesP, h0, hasSuffix_snoc, h1, Bool.not_false, Bool.false_eq_true, if_false, if_true]
      obtain ⟨l, x, h2, h3⟩ := splitC_end_ne 10 b t hb
      simp [linesR, h2, h3]

/-! ### selections -/
abbrev Sel := Str × Bool × Str
def wManual : Str := [109, 97, 110, 117, 97, 108]
def wAuto : Str := [97, 117, 116, 111]
def modeW (b : Bool) : Str := if b then wManual else wAuto
def selBody (x : Sel) : Str := x.1 ++ 32 :: (modeW x.2.1 ++ 32 :: x.2.2)
def selLine (x : Sel) : Str := selBody x ++ [10]
def printS (ok : Sel → Bool) (l : List Sel) : Str × Int := if l.length > 64 then ([], 22) else if l.all ok then ((l.map selLine).flatten, 0) else ([], 1)
def selP (l : Str) : Option Sel := if !((splitC 32 l).length == 3) || !((splitC 32 l).getD 1 [] == modeW ((splitC 32 l).getD 1 [] == wManual)) then none else some ((splitC 32 l).getD 0 [], (splitC 32 l).getD 1 [] == wManual, (splitC 32 l).getD 2 [])
def wordsL (l : Str) : List Str := (splitC 32 l).filter fun p => !(p == [])
def selR (l : Str) : Option Sel := if !((wordsL l).length == 3) then none else some ((wordsL l).getD 0 [], (wordsL l).getD 1 [] == wManual, (wordsL l).getD 2 [])
def parseP (ok : Sel → Bool) (s : Str) : Option (List Sel) := match linesP s with
  | none => none
  | some ls => match ls.mapM selP with
    | none => none
    | some out => if (printS ok out).2 != 0 then none else some out
def parseR (ok : Sel → Bool) (s : Str) : Option (List Sel) := match (linesR s).1.mapM selR with
  | none => none
  | some out => if !(linesR s).2 || (printS ok out).2 != 0 || (printS ok out).1 != s then none else some out

def good (s : Str) : Prop := s ≠ [] ∧ (32 : UInt8) ∉ s ∧ (10 : UInt8) ∉ s
theorem mode_good (b : Bool) : good (modeW b) := by cases b <;> simp [good, modeW, wManual, wAuto]
theorem mode_back (b : Bool) : (modeW b == wManual) = b := by cases b <;> rfl
theorem body_no10 {x : Sel} (h1 : good x.1) (h2 : good x.2.2) : (10 : UInt8) ∉ selBody x := by
  have h3 := (mode_good x.2.1).2.2
  simp [selBody, h1.2.2, h2.2.2, h3]
theorem body_split {x : Sel} (h1 : good x.1) (h2 : good x.2.2) : splitC 32 (selBody x) = [x.1, modeW x.2.1, x.2.2] := by
  rw [selBody, splitC_sep _ _ _ h1.2.1, splitC_sep _ _ _ (mode_good _).2.1, splitC_no _ _ h2.2.1]
theorem selP_body {x : Sel} (h1 : good x.1) (h2 : good x.2.2) : selP (selBody x) = some x := by
  simp only [selP, body_split h1 h2]
  simp [mode_back]
theorem selP_some {l : Str} {x : Sel} (h : selP l = some x) : l = selBody x ∧ splitC 32 l = [x.1, modeW x.2.1, x.2.2] := by
  unfold selP at h
  split at h
  · cases h
  · rename_i hc
    simp only [Bool.or_eq_true, not_or, Bool.not_eq_true', Bool.not_eq_false, Bool.not_eq_true, Bool.not_eq_eq_eq_not, Bool.not_false, beq_iff_eq] at hc
    obtain ⟨h3, h4⟩ := hc
    match hs : splitC 32 l, h3 with
    | [a, b, c], _ =>
      rw [hs] at h h4
      simp at h h4
      subst h
      have hl := lined_split 32 l
      rw [hs] at hl
      refine ⟨?_, ?_⟩
      · have : l ++ [32] = (a ++ 32 :: (b ++ 32 :: c)) ++ [32] := by rw [← hl]; simp [lined]
        have := List.append_cancel_right this
        rw [this]
        simp only [selBody]
        rw [← h4]
      · rw [← h4]
theorem mapM_body {f : Str → Option Sel} : ∀ {ls : List Str} {out : List Sel}, ls.mapM f = some out → (∀ l ∈ ls, ∀ x, f l = some x → l = selBody x) → lined 10 ls = (out.map selLine).flatten
  | [], out, h, _ => by simp at h; subst h; rfl
  | a :: l, out, h, hf => by
    simp only [List.mapM_cons, Option.bind_eq_bind, Option.pure_def, Option.bind_eq_some_iff, Option.some.injEq] at h
    obtain ⟨b, hb, bs, hbs, rfl⟩ := h
    have ih := mapM_body hbs (fun l hl => hf l (by simp [hl]))
    have e := hf a (by simp) b hb
    simp only [lined] at ih
    simp only [lined, List.map_cons, List.flatten_cons, ih, selLine, e]
theorem mapM_bodies : ∀ {out : List Sel}, (∀ x ∈ out, good x.1 ∧ good x.2.2) → (out.map selBody).mapM selP = some out
  | [], _ => rfl
  | x :: out, h => by
    have h1 := h x (by simp)
    have ih := mapM_bodies (out := out) (fun y hy => h y (List.mem_cons_of_mem _ hy))
    simp [List.mapM_cons, selP_body h1.1 h1.2, ih]
theorem mapM_congr {f g : Str → Option Sel} : ∀ {ls : List Str} {out : List Sel}, ls.mapM f = some out → (∀ l ∈ ls, ∀ x ∈ out, f l = some x → g l = some x) → ls.mapM g = some out
  | [], out, h, _ => by simp at h; subst h; rfl
  | a :: l, out, h, hf => by
    simp only [List.mapM_cons, Option.bind_eq_bind, Option.pure_def, Option.bind_eq_some_iff, Option.some.injEq] at h
    obtain ⟨b, hb, bs, hbs, rfl⟩ := h
    have ih := mapM_congr hbs (fun l hl x hx => hf l (by simp [hl]) x (by simp [hx]))
    simp only [List.mapM_cons, hf a (by simp) b (by simp) hb, ih]
    rfl
theorem print_ok {ok : Sel → Bool} {l : List Sel} (h : (printS ok l).2 = 0) : printS ok l = ((l.map selLine).flatten, 0) ∧ ∀ x ∈ l, ok x = true := by
  unfold printS at h ⊢
  split at h
  · simp at h
  · rename_i h1
    split at h
    · rename_i h2
      rw [if_neg h1, if_pos h2]
      exact ⟨rfl, by simpa using h2⟩
    · simp at h
theorem lined_inj {l m : List Str} (h1 : ∀ x ∈ l, (10 : UInt8) ∉ x) (h2 : ∀ x ∈ m, (10 : UInt8) ∉ x) (h : lined 10 l = lined 10 m) : l = m := by
  have := congrArg (splitC 10) h
  rw [split_lined _ _ h1, split_lined _ _ h2] at this
  exact List.append_cancel_right this

theorem parse_law (ok : Sel → Bool) (hok : ∀ x, ok x = true → good x.1 ∧ good x.2.2) (s : Str) :
    parseP ok s = parseR ok s ∧ ∀ out, parseP ok s = some out → printS ok out = (s, 0) := by
  have hl := lines_eq s
  have hP : ∀ out, parseP ok s = some out → printS ok out = (s, 0) ∧ parseR ok s = some out := by
    intro out h
    unfold parseP at h
    cases h1 : linesP s with
    | none => rw [h1] at h; cases h
    | some ls =>
      rw [h1] at h hl
      simp only at h hl
      cases h2 : ls.mapM selP with
      | none => rw [h2] at h; cases h
      | some o =>
        rw [h2] at h
        simp only [bne_iff_ne, ne_eq, ite_not] at h
        split at h
        · rename_i h3
          cases h
          obtain ⟨h4, h5⟩ := print_ok h3
          obtain ⟨g1, g2, g3⟩ := hl
          have e := mapM_body h2 (fun l _ x hx => (selP_some hx).1)
          have e2 : printS ok out = (s, 0) := by rw [h4, ← e, ← g2]
          refine ⟨e2, ?_⟩
          have e3 : ls.mapM selR = some out := mapM_congr h2 (fun l _ x hx hs => by
            obtain ⟨k1, k2⟩ := hok x (h5 x hx)
            have k3 := (selP_some hs).2
            have k4 : wordsL l = [x.1, modeW x.2.1, x.2.2] := by
              have := (mode_good x.2.1).1
              simp [wordsL, k3, k1.1, k2.1, this]
            simp only [selR, k4]
            simp [mode_back])
          simp [parseR, g1, e3, e2]
        · cases h
  have hR : ∀ out, parseR ok s = some out → parseP ok s = some out := by
    intro out h
    unfold parseR at h
    cases h2 : (linesR s).1.mapM selR with
    | none => rw [h2] at h; cases h
    | some o =>
      rw [h2] at h
      simp only at h
      split at h
      · cases h
      · rename_i hc
        cases h
        simp only [Bool.or_eq_true, not_or, Bool.not_eq_true, Bool.not_eq_false', bne_eq_false_iff_eq, Bool.not_eq_eq_eq_not, Bool.not_false, bne_iff_ne, ne_eq, Decidable.not_not] at hc
        obtain ⟨⟨c1, c2⟩, c3⟩ := hc
        cases h1 : linesP s with
        | none => rw [h1] at hl; simp only at hl; rw [hl] at c1; exact absurd rfl c1
        | some ls =>
          rw [h1] at hl
          simp only at hl
          obtain ⟨g1, g2, g3⟩ := hl
          rw [g1] at h2
          obtain ⟨h4, h5⟩ := print_ok c2
          have e : lined 10 ls = lined 10 (out.map selBody) := by
            rw [← g2, ← c3, h4]
            simp [lined, selLine, Function.comp_def]; rfl
          have e2 : ls = out.map selBody := lined_inj g3 (fun x hx => by
            obtain ⟨y, hy, rfl⟩ := List.mem_map.1 hx
            obtain ⟨k1, k2⟩ := hok y (h5 y hy)
            exact body_no10 k1 k2) e
          have e3 : ls.mapM selP = some out := by rw [e2]; exact mapM_bodies (fun x hx => hok x (h5 x hx))
          simp [parseP, h1, e3, c2]
  refine ⟨?_, fun out h => (hP out h).1⟩
  cases h : parseP ok s with
  | some out => exact (hP out h).2.symm
  | none =>
    cases h2 : parseR ok s with
    | none => rfl
    | some out => rw [hR out h2] at h; cases h
theorem print_back (ok : Sel → Bool) (hok : ∀ x, ok x = true → good x.1 ∧ good x.2.2) {l : List Sel} (h : (printS ok l).2 = 0) : parseP ok (printS ok l).1 = some l := by
  obtain ⟨h4, h5⟩ := print_ok h
  have e : (printS ok l).1 = lined 10 (l.map selBody) := by rw [h4]; simp [lined, selLine, Function.comp_def]; rfl
  have hb : ∀ x ∈ l.map selBody, (10 : UInt8) ∉ x := fun x hx => by
    obtain ⟨y, hy, rfl⟩ := List.mem_map.1 hx
    obtain ⟨k1, k2⟩ := hok y (h5 y hy)
    exact body_no10 k1 k2
  have hl := lines_eq (printS ok l).1
  unfold parseP
  cases h1 : linesP (printS ok l).1 with
  | none =>
    rw [h1] at hl
    simp only at hl
    rw [e] at hl
    simp [linesR, split_lined _ _ hb] at hl
  | some ls =>
    rw [h1] at hl
    simp only at hl
    obtain ⟨g1, g2, g3⟩ := hl
    have e2 : ls = l.map selBody := lined_inj g3 hb (by rw [← g2, e])
    have e3 : ls.mapM selP = some l := by rw [e2]; exact mapM_bodies (fun x hx => hok x (h5 x hx))
    simp [e3, h]
end Go.Ag
