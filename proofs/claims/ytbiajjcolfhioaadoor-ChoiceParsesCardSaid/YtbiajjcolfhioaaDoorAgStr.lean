/- AGo, plain laws: strings in pieces. -/
import Derived.Lib.Split
import Derived.Lib.IndexBytes
import Derived.Lib.IndexLaws
set_option linter.all false
namespace Go.Ag
abbrev Str := List UInt8

/-- A text cut at each byte c. -/
def splitC (c : UInt8) : Str → List Str
  | [] => [[]]
  | b :: l => if b = c then [] :: splitC c l else match splitC c l with
    | [] => [[b]]
    | x :: xs => (b :: x) :: xs

theorem splitC_ne (c : UInt8) : ∀ s, splitC c s ≠ []
  | [] => by simp [splitC]
  | b :: l => by
    unfold splitC
    split
    · simp
    · split <;> simp
theorem splitC_len (c : UInt8) : ∀ s : Str, (splitC c s).length ≤ s.length + 1
  | [] => by simp [splitC]
  | b :: l => by
    have ih := splitC_len c l
    unfold splitC
    split
    · simp; omega
    · split
      · simp
      · rename_i h; rw [h] at ih; simp at ih ⊢; omega
theorem splitC_miss (c : UInt8) : ∀ s : Str, Go.Lib.indexByte s c = -1 → splitC c s = [s]
  | [], _ => rfl
  | b :: l, h => by
    unfold Go.Lib.indexByte at h
    split at h
    · simp at h
    · rename_i hb
      split at h
      · rename_i hm
        rw [splitC, if_neg (by simpa using hb), splitC_miss c l (by simpa using hm)]
      · have := Go.Lib.indexByte_ge l c; omega
theorem splitC_hit (c : UInt8) : ∀ (s : Str) (i : Nat), Go.Lib.indexByte s c = i → splitC c s = s.take i :: splitC c (s.drop (i + 1))
  | [], i, h => by simp [Go.Lib.indexByte] at h
  | b :: l, i, h => by
    unfold Go.Lib.indexByte at h
    split at h
    · rename_i hb
      have : i = 0 := by omega
      subst this
      rw [splitC, if_pos (by simpa using hb)]
      rfl
    · rename_i hb
      split at h
      · omega
      · rename_i hm
        have h1 := Go.Lib.indexByte_ge l c
        have h2 : Go.Lib.indexByte l c ≠ -1 := by simpa using hm
        obtain ⟨k, rfl⟩ : ∃ k, i = k + 1 := ⟨i - 1, by omega⟩
        rw [splitC, if_neg (by simpa using hb), splitC_hit c l k (by omega)]
        rfl
theorem split_eq (c : UInt8) : ∀ (n : Nat) (s : Str), s.length ≤ n → Go.Lib.splitK [c] 0 (Go.Lib.count s [c]) s = splitC c s ∧ (splitC c s).length = Go.Lib.count s [c] + 1 := by
  intro n
  induction n with
  | zero =>
    intro s hs
    have : s = [] := List.length_eq_zero_iff.1 (by omega)
    subst this
    have h1 : Go.Lib.index ([] : Str) [c] = -1 := by rw [Go.Lib.index_one]; rfl
    rw [Go.Lib.count_miss h1]
    exact ⟨rfl, rfl⟩
  | succ n ih =>
    intro s hs
    by_cases h : Go.Lib.indexByte s c = -1
    · have h1 : Go.Lib.index s [c] = -1 := by rw [Go.Lib.index_one]; exact h
      rw [Go.Lib.count_miss h1, splitC_miss c s h]
      exact ⟨rfl, rfl⟩
    · have hge := Go.Lib.indexByte_ge s c
      obtain ⟨i, hi⟩ : ∃ i : Nat, Go.Lib.indexByte s c = i := ⟨(Go.Lib.indexByte s c).toNat, by omega⟩
      have h1 : Go.Lib.index s [c] = i := by rw [Go.Lib.index_one]; exact hi
      have hlt : i < s.length := (List.getElem?_eq_some_iff.1 (Go.Lib.indexByte_some hi).1).1
      obtain ⟨g1, g2⟩ := ih (s.drop (i + 1)) (by simp; omega)
      rw [Go.Lib.count_hit (by simp) h1, splitC_hit c s i hi, Nat.add_comm 1, Go.Lib.splitK]
      simp only [h1, List.length_singleton] at *
      rw [if_neg (by simp)]
      simp only [Int.toNat_natCast, Nat.add_zero]
      exact ⟨by rw [g1], by simp [g2]⟩
end Go.Ag
