/- AGo, part 18: some of the library's functions, from the shelf's contracts. -/
import Derived.Test.YtbiajjcolfhioaaDoorAgLib
import Derived.Test.YtbiajjcolfhioaaDoorAgStr
import Derived.Lib.Strings
set_option linter.all false
namespace Go.Ag
open Go Go.RowKit
variable {P : Program} {G : Nat → Option (List V)} {f : FuncId} {H : List Ob} {K : D → List Ob → Prop}

theorem toList_mkd (s : List UInt8) : (ByteArray.mk s.toArray).data.toList = s := by simp
theorem RelL.one {M : Mem} {μ : Mu} {a : D} {vs : List Value} (h : RelL M μ [a] vs) : ∃ y, vs = [y] ∧ Rel M μ a y := by
  simp only [RelL] at h; obtain ⟨y, _, rfl, h1, rfl⟩ := h; exact ⟨y, rfl, h1⟩
theorem RelL.two {M : Mem} {μ : Mu} {a b : D} {vs : List Value} (h : RelL M μ [a, b] vs) : ∃ y z, vs = [y, z] ∧ Rel M μ a y ∧ Rel M μ b z := by
  simp only [RelL] at h; obtain ⟨y, _, rfl, h1, z, _, rfl, h2, rfl⟩ := h; exact ⟨y, z, rfl, h1, h2⟩
theorem RelL.three {M : Mem} {μ : Mu} {a b c : D} {vs : List Value} (h : RelL M μ [a, b, c] vs) : ∃ x y z, vs = [x, y, z] ∧ Rel M μ a x ∧ Rel M μ b y ∧ Rel M μ c z := by
  simp only [RelL] at h; obtain ⟨x, _, rfl, h1, y, _, rfl, h2, z, _, rfl, h3, rfl⟩ := h; exact ⟨x, y, z, rfl, h1, h2, h3⟩
theorem map_mk (l : List (List UInt8)) : (l.map fun s => ByteArray.mk s.toArray).map (·.data.toList) = l := by
  rw [List.map_map]
  conv => rhs; rw [← List.map_id l]
  exact List.map_congr_left fun s _ => by simp
theorem size_mk (s : List UInt8) : (ByteArray.mk s.toArray).size = s.length := by simp [ByteArray.size]
theorem mk_toList (s : ByteArray) : ByteArray.mk s.data.toList.toArray = s := by simp

/-- Two strings in, a bool out. -/
theorem lib_bool2 (g : List UInt8 → List UInt8 → Bool) (hc : callB P f = true) (s p : List UInt8)
    (h : ∀ w, Calls P f #[.string ⟨s.toArray⟩, .string ⟨p.toArray⟩] w fun e w' => e = .returned (.bool (g (ByteArray.mk s.toArray).data.toList (ByteArray.mk p.toArray).data.toList)) ∧ w' = w) (hK : K (.v (.bool (g s p))) H) : ACalls P G f [.v (.str s), .v (.str p)] H K := by
  refine ACalls.of_calls hc fun E e1 e2 M μ w vs hr hv => ?_
  obtain ⟨y1, y2, rfl, h1, h2⟩ := hv.two
  simp only [Rel, RelV] at h1 h2
  subst h1; subst h2
  refine (h w).mono ?_
  rintro e w' ⟨rfl, rfl⟩
  exact ⟨_, _, rfl, .refl _ _, by simp only [Rel, RelV], hK⟩

theorem relV_strs_nil {M : Mem} {c : Nat} {a : Option Addr} : RelV M (.list 1 []) (.slice a 0 c) := by
  simp only [RelV]; exact ⟨a, c, rfl, Nat.zero_le _, .inl trivial⟩

theorem lib_Join (hc : callB P f = true) (l : List (List UInt8)) (sep : List UInt8)
    (h0 : ∀ a c sep w, Calls P f #[.slice a 0 c, .string sep] w fun e w' => e = .returned (.string ⟨#[]⟩) ∧ w' = w)
    (h1 : ∀ (bk o c : Nat) (xs : List ByteArray) (sep : ByteArray) (w : World) (hcells : ∀ (j : Nat) x, xs[j]? = some x → w.cell? ⟨bk, o + j, none⟩ = some (.string x)) (hbk : bk < w.heap.size) (hN : xs.length ≤ 140737488355328) (hcap : xs.length ≤ c) (hlen : (Lib.join (xs.map (·.data.toList)) sep.data.toList).length ≤ 140737488355328),
      Calls P f #[.slice (some ⟨bk, o, none⟩) xs.length c, .string sep] w fun e w' => e = .returned (.string ⟨(Lib.join (xs.map (·.data.toList)) sep.data.toList).toArray⟩) ∧ Below w.heap.size w w')
    (hN : l.length ≤ 140737488355328) (hlen : (Lib.join l sep).length ≤ 140737488355328) (hK : K (.v (.str (Lib.join l sep))) H) : ACalls P G f [.v (.list 1 (l.map fun s => [.str s])), .v (.str sep)] H K := by
  refine ACalls.of_calls hc fun E e1 e2 M μ w vs hr hv => ?_
  obtain ⟨y1, y2, rfl, g1, g2⟩ := hv.two
  simp only [Rel, RelV] at g2
  subst g2
  obtain ⟨A, c, rfl, hcap, hh⟩ := hr.strs g1
  have em : (l.map fun s => ByteArray.mk s.toArray).map (·.data.toList) = l := map_mk l
  rcases hh with rfl | ⟨b, o, rfl, hb, _, hcell⟩
  · refine (h0 A c _ w).mono ?_
    rintro e w' ⟨rfl, rfl⟩
    exact ⟨_, _, rfl, .refl _ _, by simp only [Rel, RelV]; rfl, hK⟩
  · have := h1 b o c (l.map fun s => ByteArray.mk s.toArray) ⟨sep.toArray⟩ w (fun j x hx => by
      rw [List.getElem?_map] at hx
      cases hs : l[j]? with
      | none => rw [hs] at hx; cases hx
      | some s => rw [hs] at hx; cases hx; exact hcell j s hs) hb (by simpa using hN) (by simpa using hcap) (by rw [em]; simpa using hlen)
    rw [em, List.length_map] at this
    refine this.mono ?_
    rintro e w' ⟨rfl, hbel⟩
    exact ⟨_, _, rfl, hbel, by simp only [Rel, RelV], hK⟩

theorem lib_Split (hc : callB P f = true) (s : List UInt8) (c : UInt8) (t : TypeId) (g : Nat) (m : Int) (hG : G g = some [.int .i64 m])
    (h : ∀ (s sep : ByteArray) (m : Int) (w : World) (hs : s.size < 4294967281) (hm : w.cell? ⟨g, 0, none⟩ = some (.int .i64 m)) (h1 : 1 ≤ sep.size),
      Calls P f #[.string s, .string sep] w fun e w' => e = .returned (.slice (some ⟨w.heap.size, 0, none⟩) (Lib.countB s sep + 1) (Lib.countB s sep + 1)) ∧ w' = w.alloc (.cells ((Lib.splitB sep 0 (Lib.countB s sep) s).map Value.string).toArray t))
    (hs : s.length < 4294967281) (hK : K (.v (.list 1 ((splitC c s).map fun s => [.str s]))) H) : ACalls P G f [.v (.str s), .v (.str [c])] H K := by
  refine ACalls.of_new hc fun E e1 e2 M μ w vs hr hv => ?_
  obtain ⟨y1, y2, rfl, g1, g2⟩ := hv.two
  simp only [Rel, RelV] at g1 g2
  subst g1; subst g2
  have hm : w.cell? ⟨g, 0, none⟩ = some (.int .i64 m) := by
    have := hr.glob g _ (e2 ▸ hG)
    simp only [RelRow, RelV] at this
    obtain ⟨⟨y, hy, rfl⟩, _⟩ := this
    exact hr.imm _ _ _ hy
  refine (h _ _ m w (by rw [size_mk]; exact hs) hm (by simp [ByteArray.size])).mono ?_
  rintro e w' ⟨rfl, rfl⟩
  have e1 : (Lib.splitB ⟨[c].toArray⟩ 0 (Lib.countB ⟨s.toArray⟩ ⟨[c].toArray⟩) ⟨s.toArray⟩).map (·.data.toList) = splitC c s := by
    rw [Lib.splitB_data]
    exact (split_eq c s.length s (Nat.le_refl _)).1
  have e2 : Lib.countB ⟨s.toArray⟩ ⟨[c].toArray⟩ + 1 = (splitC c s).length := (split_eq c s.length s (Nat.le_refl _)).2.symm
  generalize hX : Lib.splitB ⟨[c].toArray⟩ 0 (Lib.countB ⟨s.toArray⟩ ⟨[c].toArray⟩) ⟨s.toArray⟩ = X at e1
  have e3 : X.map Value.string = (splitC c s).map fun s => Value.string ⟨s.toArray⟩ := by
    rw [← e1, List.map_map]
    exact List.map_congr_left fun x _ => by simp
  refine ⟨_, _, w.heap.size, X.map Value.string, rfl, (Below.refl _ _).alloc (Nat.le_refl _) _, Nat.le_refl _, fun o y hy => ?_, ?_, hK⟩
  · rw [cell?_block (vs := X.map Value.string) (t := t) (by show (w.heap.push _)[w.heap.size]? = _; simp)]; exact hy
  · simp only [Rel, RelV]
    refine ⟨_, _, by rw [List.length_map, ← e2], by rw [List.length_map, ← e2]; exact Nat.le_refl _, .inr ⟨_, _, rfl, ?_⟩⟩
    refine relRows_strs _ _ fun j t ht => ?_
    rw [memWith_self, e3, Nat.zero_add, List.getElem?_map, ht]
    rfl
end Go.Ag
