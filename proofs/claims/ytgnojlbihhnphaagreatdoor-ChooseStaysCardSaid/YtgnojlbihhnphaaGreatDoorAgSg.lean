import Derived.Test.YtgnojlbihhnphaaGreatDoorAgSf
import Derived.DeepKeys5
import Derived.Sort.Walk0
set_option linter.all false
namespace Go.Ag
open Go Go.Proofs
variable {G : Nat → Option (List V)}
attribute [local irreducible] aops qops Sat aop

theorem compact_le (l : List Str) : (Lib.compact l).length ≤ l.length := by
  unfold Lib.compact Lib.compactUpTo
  simp only [List.length_map]
  exact Nat.le_trans (List.length_filter_le _ _) (by simp)
def sortS (l : List Str) : List Str := l.mergeSort fun x y => decide (x ≤ y)
def sortedS (l : List Str) : List Str := Lib.compact (sortS l)
theorem sortS_len (l : List Str) : (sortS l).length = l.length := List.length_mergeSort _

set_option maxHeartbeats 4000000 in
theorem spec_Sorted (l : List Str) (hne : l ≠ []) (hl : l.length ≤ 2000000) (H : List Ob) (K : D → List Ob → Prop) (hK : K (.v (strs (sortedS l))) H) : ACalls Tryz.prog G 60 [.v (strs l)] H K := by
  refine ACalls.go Tryz.f60 _ 10 [2] Tryz.func60 rfl Tryz.ntmps60 (by kernel_rfl) rfl (by simp) (fun E hE hP hG hH => ?_)
  have hM : E.P.follows .mixedOrders = true := hP ▸ mixed
  subst hH
  simp only [args0]
  (refine W0 trivial ?_; try with_reducible intro K hK)
  refine lib_Clone (by kernel_rfl) l hne (fun b off n c zs w h1 h2 h3 => Tryz.slices_Clone_string b off n c zs w h1 h2 h3) (by omega) (hK _ _ ?_)
  clear hK K; simp only [lp]
  (refine W0 trivial ?_; try with_reducible intro K hK)
  refine lib_Sort (by kernel_rfl) _ 1 l (by rw [hp_get0]; rfl) (fun blk off cap ss w h1 h2 h3 => Tryz.slices_Sort_string blk off cap ss w h1 h2 h3) (by omega) (hK _ _ ?_)
  clear hK K; simp only [lp]
  rw [hp_set0]
  change aops _ _ _ _ (E.H0 ++ [.arr 1 1 (rowsS (sortS l)) 0]) _
  (refine W0 trivial ?_; try with_reducible intro K hK)
  have hs := sortS_len l
  rw [← hs]
  refine lib_Compact (by kernel_rfl) _ 1 (sortS l) (by rw [hp_get0]; rfl) (fun blk off cap zs w h1 h2 h3 => Tryz.slices_Compact_string blk off cap zs w h1 h2 h3) (by omega) (compact_le _) (hK _ _ ?_)
  clear hK K; simp only [lp]
  rw [hp_set0]
  change aops _ _ _ _ (E.H0 ++ [.arr 1 1 (rowsS (Lib.compact (sortS l) ++ List.replicate ((sortS l).length - (Lib.compact (sortS l)).length) [])) 0]) _
  (refine W0 trivial ?_; try with_reducible intro K hK)
  refine Fin.acs (m := 0) (d := .own (E.H0.length + 0) 1 (sortedS l).length) (ys := (sortedS l).map fun s => [.str s]) hE (.inr ⟨1, (Lib.compact (sortS l) ++ List.replicate ((sortS l).length - (Lib.compact (sortS l)).length) []).map fun s => [.str s], Nat.le_refl _, ?_, ?_, ?_, ?_⟩) (by decide) rfl hK
  · simp [sortedS]
  · rw [List.length_map, ← List.map_take]
    unfold sortedS
    rw [List.take_append_of_le_length (Nat.le_refl _), take_len]
  · simp
  · simp [rowsS]

def rightP (x : Alt) : Bool := nameOk x.name && placeB x.link && slavesOk x && choicesOk x && ((sortedS (links x)).length == (links x).length) && finalB x
set_option maxHeartbeats 16000000 in
theorem spec_AltRight (x : Alt) (m : Int) (hm : altMid x) (hG0 : G 0 = some [.int .i64 m]) (H : List Ob) (K : D → List Ob → Prop) (hK : K (.v (.bool (rightP x))) H) : ACalls Tryz.prog G 28 [altd x] H K := by
  refine ACalls.go Tryz.f28 _ 50 [2] Tryz.func28 rfl Tryz.ntmps28 (by kernel_rfl) rfl (by simp) (fun E hE hP hG hH => ?_)
  have hM : E.P.follows .mixedOrders = true := hP ▸ mixed
  have hll := links_len x
  have hcl := compact_le (sortS (links x))
  have hsl := sortS_len (links x)
  obtain ⟨m1, m2, m3, m4, m5, m6, m7⟩ := hm
  have k1 : ∀ s ∈ x.slaves, s.name.length < 4294967281 ∧ s.link.length < 4294967281 := fun s hs => by have := m6 s hs; omega
  have k2 : ∀ c ∈ x.choices, c.path.length < 4294967281 ∧ c.slaves.length ≤ 1099511627 ∧ ∀ t ∈ c.slaves, t.length < 4294967281 := fun c hc => by
    obtain ⟨a1, a2, a3⟩ := m7 c hc
    exact ⟨by omega, by omega, fun t ht => by have := a3 t ht; omega⟩
  subst hH
  simp only [args0, altd]
  (refine W0 (c3 t3 t9 t26) ?_; try with_reducible intro K hK)
  refine sat_thru (fr 50 [(24, .v (.bool (!(nameOk x.name && placeB x.link && slavesOk x && choicesOk x)))), (2, .v (.bool false)), (1, .ptr E.H0.length 0)]) (E.H0 ++ [altB x]) ?_ ?_
  · (first | refine wr ?_ | refine wp rfl hM ?_ | refine wq hM ?_); repeat' (first | (refine G0 (c4 t3 t4 t9 t26) ?_; try with_reducible intro K hK) | ((first | refine Xs rfl rfl (by decide) rfl (fun h => ?_) fun h => ?_ | refine Ys rfl rfl (by decide) rfl (fun h => ?_) fun h => ?_ | refine Zs rfl rfl rfl (by decide) rfl (fun h => ?_) fun h => ?_); rotate_left; (focus (simp only [Bool.not_true, Bool.not_false, lp])); rotate_left))
    refine spec_Name _ (by omega) _ _ (hK _ _ ?_)
    clear hK K; simp only [lp]
    repeat' (first | (refine G0 (c4 t3 t4 t9 t26) ?_; try with_reducible intro K hK) | ((first | refine Xs rfl rfl (by decide) rfl (fun h => ?_) fun h => ?_ | refine Ys rfl rfl (by decide) rfl (fun h => ?_) fun h => ?_ | refine Zs rfl rfl rfl (by decide) rfl (fun h => ?_) fun h => ?_); rotate_left; (focus (simp only [Bool.not_true, Bool.not_false, lp])); rotate_left))
    · refine spec_place _ m (by omega) hG0 _ _ (hK _ _ ?_)
      clear hK K; simp only [lp]
      repeat' (first | (refine G0 (c4 t3 t4 t9 t26) ?_; try with_reducible intro K hK) | ((first | refine Xs rfl rfl (by decide) rfl (fun h => ?_) fun h => ?_ | refine Ys rfl rfl (by decide) rfl (fun h => ?_) fun h => ?_ | refine Zs rfl rfl rfl (by decide) rfl (fun h => ?_) fun h => ?_); rotate_left; (focus (simp only [Bool.not_true, Bool.not_false, lp])); rotate_left))
      · refine spec_slaves x m (by omega) k1 hG0 _ _ (hK _ _ ?_)
        clear hK K; simp only [lp]
        repeat' (first | (refine G0 (c4 t3 t4 t9 t26) ?_; try with_reducible intro K hK) | ((first | refine Xs rfl rfl (by decide) rfl (fun h => ?_) fun h => ?_ | refine Ys rfl rfl (by decide) rfl (fun h => ?_) fun h => ?_ | refine Zs rfl rfl rfl (by decide) rfl (fun h => ?_) fun h => ?_); rotate_left; (focus (simp only [Bool.not_true, Bool.not_false, lp])); rotate_left))
        · refine spec_choices x m (by omega) k2 hG0 _ _ (hK _ _ ?_)
          clear hK K; simp only [lp]
          repeat' (first | (refine G0 (c4 t3 t4 t9 t26) ?_; try with_reducible intro K hK) | ((first | refine Xs rfl rfl (by decide) rfl (fun h => ?_) fun h => ?_ | refine Ys rfl rfl (by decide) rfl (fun h => ?_) fun h => ?_ | refine Zs rfl rfl rfl (by decide) rfl (fun h => ?_) fun h => ?_); rotate_left; (focus (simp only [Bool.not_true, Bool.not_false, lp])); rotate_left))
          refine .weakFr ?_
          simp only [le, ↓reduceIte, Nat.reduceEqDiff, and_true]; repeat' (first | exact trivial | exact D.le_refl _ | exact D.le_any _ | with_reducible refine And.intro ?_ ?_)
          all_goals refine D.le_eq (congrArg D.v (congrArg V.bool ?_)); (try simp only [Bool.not_eq_eq_eq_not, Bool.not_true, Bool.not_false] at *); simp only [*, List.getD_eq_getElem?_getD, Bool.and_true, Bool.true_and, Bool.and_false, Bool.false_and, Bool.or_true, Bool.true_or, Bool.or_false, Bool.false_or, Bool.not_true, Bool.not_false, Bool.not_not]
        · refine .weakFr ?_
          simp only [le, ↓reduceIte, Nat.reduceEqDiff, and_true]; repeat' (first | exact trivial | exact D.le_refl _ | exact D.le_any _ | with_reducible refine And.intro ?_ ?_)
          all_goals refine D.le_eq (congrArg D.v (congrArg V.bool ?_)); (try simp only [Bool.not_eq_eq_eq_not, Bool.not_true, Bool.not_false] at *); simp only [*, List.getD_eq_getElem?_getD, Bool.and_true, Bool.true_and, Bool.and_false, Bool.false_and, Bool.or_true, Bool.true_or, Bool.or_false, Bool.false_or, Bool.not_true, Bool.not_false, Bool.not_not]
      · refine .weakFr ?_
        simp only [le, ↓reduceIte, Nat.reduceEqDiff, and_true]; repeat' (first | exact trivial | exact D.le_refl _ | exact D.le_any _ | with_reducible refine And.intro ?_ ?_)
        all_goals refine D.le_eq (congrArg D.v (congrArg V.bool ?_)); (try simp only [Bool.not_eq_eq_eq_not, Bool.not_true, Bool.not_false] at *); simp only [*, List.getD_eq_getElem?_getD, Bool.and_true, Bool.true_and, Bool.and_false, Bool.false_and, Bool.or_true, Bool.true_or, Bool.or_false, Bool.false_or, Bool.not_true, Bool.not_false, Bool.not_not]
    · refine .weakFr ?_
      simp only [le, ↓reduceIte, Nat.reduceEqDiff, and_true]; repeat' (first | exact trivial | exact D.le_refl _ | exact D.le_any _ | with_reducible refine And.intro ?_ ?_)
      all_goals refine D.le_eq (congrArg D.v (congrArg V.bool ?_)); (try simp only [Bool.not_eq_eq_eq_not, Bool.not_true, Bool.not_false] at *); simp only [*, List.getD_eq_getElem?_getD, Bool.and_true, Bool.true_and, Bool.and_false, Bool.false_and, Bool.or_true, Bool.true_or, Bool.or_false, Bool.false_or, Bool.not_true, Bool.not_false, Bool.not_not]
  refine sat_cond rfl (fun hb => ?_) (fun hb => ?_)
  · (refine W0 trivial ?_; try with_reducible intro K hK)
    refine Fin.gc (.v (.bool false)) hE (by decide) rfl (by simp only [D.lt]) ?_
    have : rightP x = false := by simp only [rightP]; rw [show (nameOk x.name && placeB x.link && slavesOk x && choicesOk x) = false by rw [Bool.not_eq_true'] at hb; exact hb]; rfl
    rwa [this] at hK
  have hb' : (nameOk x.name && placeB x.link && slavesOk x && choicesOk x) = true := by rw [Bool.not_eq_false'] at hb; exact hb
  (refine W0 (c5 @altB.eq_def @altV.eq_def t3 t9 t26) ?_; try with_reducible intro K hK)
  refine spec_Links x (by omega) _ _ (hK _ _ ?_)
  clear hK K; simp only [lp]
  (refine W0 (c5 @altB.eq_def @altV.eq_def t3 t9 t26) ?_; try with_reducible intro K hK)
  refine spec_Sorted (links x) (by simp [links]) (by omega) _ _ (hK _ _ ?_)
  clear hK K; simp only [lp]
  (refine W0 (c5 @strs.eq_def t3 t9 t26 t44) ?_; try with_reducible intro K hK)
  refine sat_cond rfl (fun hc => ?_) (fun hc => ?_)
  · (refine W0 trivial ?_; try with_reducible intro K hK)
    refine Fin.gc (.v (.bool false)) hE (by decide) rfl (by simp only [D.lt]) ?_
    have : rightP x = false := by
      rw [Bool.not_eq_true'] at hc
      simp only [rightP, hb', hc]; rfl
    rwa [this] at hK
  have e2 : rightP x = finalB x := by
    rw [Bool.not_eq_false'] at hc
    simp only [rightP, hb', hc, Bool.true_and]
  rw [e2] at hK
  (refine W0 (c5 @altB.eq_def @altV.eq_def t3 t9 t26) ?_; try with_reducible intro K hK)
  refine spec_Choice x x.cur (by omega) _ _ (hK _ _ ?_)
  clear hK K; simp only [lp]
  (refine W0 trivial ?_; try with_reducible intro K hK)
  refine sat_thru (fr 50 [(2, .v (.bool (finalB x)))]) E.H0 ?_ ?_
  · (first | refine wr ?_ | refine wp rfl hM ?_ | refine wq hM ?_); repeat' (first | (refine G0 (c7 @altB.eq_def @altV.eq_def t3 t4 t9 t26 t24) ?_; try with_reducible intro K hK) | ((first | refine Xs rfl rfl (by decide) rfl (fun h => ?_) fun h => ?_ | refine Ys rfl rfl (by decide) rfl (fun h => ?_) fun h => ?_ | refine Zs rfl rfl rfl (by decide) rfl (fun h => ?_) fun h => ?_); rotate_left; (focus (simp only [Bool.not_true, Bool.not_false, lp])); rotate_left))
    · refine spec_Best x.choices (by omega) _ _ (hK _ _ ?_)
      clear hK K; simp only [lp]
      repeat' (first | (refine G0 (c7 @altB.eq_def @altV.eq_def t3 t4 t9 t26 t24) ?_; try with_reducible intro K hK) | ((first | refine Xs rfl rfl (by decide) rfl (fun h => ?_) fun h => ?_ | refine Ys rfl rfl (by decide) rfl (fun h => ?_) fun h => ?_ | refine Zs rfl rfl rfl (by decide) rfl (fun h => ?_) fun h => ?_); rotate_left; (focus (simp only [Bool.not_true, Bool.not_false, lp])); rotate_left))
      refine Ent.round0 hE ?_ (by simp [ltAll, ltObs, Ob.lt, D.lt, D.ltL, or_imp, forall_and])
      simp only [le, ↓reduceIte, Nat.reduceEqDiff, and_true]; repeat' (first | exact trivial | exact D.le_refl _ | exact D.le_any _ | with_reducible refine And.intro ?_ ?_)
      all_goals refine D.le_eq (congrArg D.v (congrArg V.bool ?_)); (try simp only [Bool.not_eq_eq_eq_not, Bool.not_true, Bool.not_false] at *); simp only [*, List.getD_eq_getElem?_getD, Bool.and_true, Bool.true_and, Bool.and_false, Bool.false_and, Bool.or_true, Bool.true_or, Bool.or_false, Bool.false_or, Bool.not_true, Bool.not_false, Bool.not_not, finalB]
    · refine Ent.round0 hE ?_ (by simp [ltAll, ltObs, Ob.lt, D.lt, D.ltL, or_imp, forall_and])
      simp only [le, ↓reduceIte, Nat.reduceEqDiff, and_true]; repeat' (first | exact trivial | exact D.le_refl _ | exact D.le_any _ | with_reducible refine And.intro ?_ ?_)
      all_goals refine D.le_eq (congrArg D.v (congrArg V.bool ?_)); (try simp only [Bool.not_eq_eq_eq_not, Bool.not_true, Bool.not_false] at *); simp only [*, List.getD_eq_getElem?_getD, Bool.and_true, Bool.true_and, Bool.and_false, Bool.false_and, Bool.or_true, Bool.true_or, Bool.or_false, Bool.false_or, Bool.not_true, Bool.not_false, Bool.not_not, finalB]
    · refine Ent.round0 hE ?_ (by simp [ltAll, ltObs, Ob.lt, D.lt, D.ltL, or_imp, forall_and])
      simp only [le, ↓reduceIte, Nat.reduceEqDiff, and_true]; repeat' (first | exact trivial | exact D.le_refl _ | exact D.le_any _ | with_reducible refine And.intro ?_ ?_)
      all_goals refine D.le_eq (congrArg D.v (congrArg V.bool ?_)); (try simp only [Bool.not_eq_eq_eq_not, Bool.not_true, Bool.not_false] at *); simp only [*, List.getD_eq_getElem?_getD, Bool.and_true, Bool.true_and, Bool.and_false, Bool.false_and, Bool.or_true, Bool.true_or, Bool.or_false, Bool.false_or, Bool.not_true, Bool.not_false, Bool.not_not, finalB]
  (refine W0 trivial ?_; try with_reducible intro K hK)
  exact Fin.is _ (by decide) rfl hK
end Go.Ag
namespace Go.Ag
open Go Go.Proofs
variable {G : Nat → Option (List V)}
attribute [local irreducible] aops qops Sat aop

theorem laid0 : laidOutB Tryz.prog = true := by kernel_rfl
theorem keyed87 : Maps.Keyed Tryz.prog 73 := Maps.Keyed.of_law (deep_law_gate laid0 (of_decide_eq_true (by kernel_rfl)) (of_decide_eq_true (by kernel_rfl)) (by kernel_rfl) (by kernel_rfl))
def thD (t : Thg) : D := .agg ((thR t).map .v)
theorem kt87 : Tryz.prog.keyType 73 = true := by kernel_rfl
theorem co87 : Tryz.prog.cellsOf 73 = 2 := by kernel_rfl
def chkSt (a b : TypeId) (d : Option TypeDesc) : Bool := match d with
  | some (.struct fs) => (match fs.toList with
    | [f, g] => f.type == a && g.type == b && f.offset == 0 && g.offset == 1 && f.name != "_" && g.name != "_"
    | _ => false)
  | _ => false
theorem chkSt_get {a b : TypeId} {d : Option TypeDesc} (h : chkSt a b d = true) : ∃ f g : Field, d = some (.struct #[f, g]) ∧ f.type = a ∧ g.type = b ∧ f.offset = 0 ∧ g.offset = 1 ∧ (f.name != "_") = true ∧ (g.name != "_") = true := by
  unfold chkSt at h
  split at h
  · rename_i fs
    split at h
    · rename_i f g hfs
      simp only [Bool.and_eq_true, beq_iff_eq] at h
      obtain ⟨⟨⟨⟨⟨h1, h2⟩, h3⟩, h4⟩, h5⟩, h6⟩ := h
      exact ⟨f, g, by rw [show fs = #[f, g] from by apply Array.toList_inj.1; simpa using hfs], h1, h2, h3, h4, h5, h6⟩
    · cases h
  · cases h
theorem u87 : ∃ f g : Field, Tryz.prog.underlying 73 = some (.struct #[f, g]) ∧ f.type = 4 ∧ g.type = 9 ∧ f.offset = 0 ∧ g.offset = 1 ∧ (f.name != "_") = true ∧ (g.name != "_") = true := chkSt_get (by kernel_rfl)
theorem cz4 : Tryz.prog.cellsOf 4 = 1 := by kernel_rfl
theorem cz9 : Tryz.prog.cellsOf 9 = 1 := by kernel_rfl
theorem u4 : Tryz.prog.underlying 4 = some .bool := by kernel_rfl
theorem u9 : Tryz.prog.underlying 9 = some .string := by kernel_rfl
theorem tsz : ∃ n, Tryz.prog.types.size + 1 = n + 2 := ⟨Tryz.prog.types.size - 1, by have : 1 ≤ Tryz.prog.types.size := of_decide_eq_true (by kernel_rfl); omega⟩
theorem thD_key (t : Thg) (h : t.2.length ≤ 1000000) : KeyD Tryz.prog 73 (thD t) := by
  obtain ⟨f, g, hu, f1, g1, f2, g2, f3, g3⟩ := u87
  obtain ⟨n, hn⟩ := tsz
  have hl : (⟨t.2.toArray⟩ : ByteArray).size ≤ maxLen := by
    rw [size_mk]; exact Nat.le_trans h (by decide)
  have hkl : Tryz.prog.keyLits (n + 2) 73 [.bool t.1, .string ⟨t.2.toArray⟩] = some [.bool t.1, .string t.2] := by
    have k4 : Tryz.prog.keyLits (n + 1) 4 [.bool t.1] = some [.bool t.1] := by
      unfold Program.keyLits; rw [u4]
    have k9 : Tryz.prog.keyLits (n + 1) 9 [.string ⟨t.2.toArray⟩] = some [.string t.2] := by
      unfold Program.keyLits; rw [u9]; simp only [hl, if_true]
    unfold Program.keyLits
    rw [hu]
    simp only [co87]
    rw [if_pos ⟨rfl, by simp only [Array.all_eq_true']; intro x hx; simp at hx; rcases hx with rfl | rfl <;> assumption⟩]
    simp only [List.mapM_cons, List.mapM_nil, f1, g1, f2, g2, cz4, cz9, List.drop_zero, List.drop_succ_cons, List.take_succ_cons, List.take_zero, k4, k9]
    rfl
  refine ⟨.agg #[.bool t.1, .string ⟨t.2.toArray⟩], .string (keyBytes [.bool t.1, .string t.2]), by simp [thD, thR, kval, kvalL], ?_⟩
  unfold keyOf
  rw [hu]
  simp only [kt87, Bool.true_and, Value.formed, hu, co87]
  rw [hn]
  have : (Value.agg #[.bool t.1, .string ⟨t.2.toArray⟩]).cells.toList = [.bool t.1, .string ⟨t.2.toArray⟩] := rfl
  rw [this, hkl]
  rfl

theorem thD_inj {t u : Thg} (h : thD t = thD u) : t = u := by
  simp only [thD, thR, List.map_cons, List.map_nil, D.agg.injEq, List.cons.injEq, D.v.injEq, V.bool.injEq, V.str.injEq, and_true] at h
  exact Prod.ext h.1 h.2
theorem zero3 : zeroD Tryz.prog 3 = some (.v (.int .i64 0)) := by kernel_rfl
theorem aLookup_is {P : Program} {t kt et : TypeId} {b : Nat} {k v z : D} {H : List Ob} {es : List (D × D × Nat)} {K : D → Prop} (hH : H[b]? = some (.mp es)) (ht : tk P t = .mp kt et) (KD : Maps.Keyed P kt) (hk : KeyD P kt k) (hes : ∀ e ∈ es, KeyD P kt e.1) (hz : zeroD P et = some z)
    (h1 : ∀ e ∈ es, e.1 = k → e.2.1 = v) (h2 : (∃ e ∈ es, e.1 = k) ∨ z = v) (hK : K v) : aLookup P t (.map b) k false H K := by
  unfold aLookup
  simp only [hH, ht]
  refine ⟨KD, hk, hes, ?_⟩
  by_cases he : ∃ e ∈ es, e.1 = k
  · exact .inl ⟨v, he, h1, by simpa using hK⟩
  · refine .inr ⟨fun e h e' => he ⟨e, h, e'⟩, z, hz, ?_⟩
    rcases h2 with h2 | rfl
    · exact absurd h2 he
    · simpa using hK

/-- The map, as what was seen. -/
def seenAs (seen : List Thg) (es : List (D × D × Nat)) : Prop := es.length = seen.length ∧ ∀ (i : Nat) (e : D × D × Nat), es[i]? = some e → ∃ t, seen[i]? = some t ∧ e.1 = thD t ∧ e.2.1 = .v (.int .i64 1)
theorem seenAs.nil : seenAs [] [] := ⟨rfl, fun i e h => by simp at h⟩
theorem seenAs.mem {seen : List Thg} {es : List (D × D × Nat)} (h : seenAs seen es) {e : D × D × Nat} (he : e ∈ es) : ∃ t ∈ seen, e.1 = thD t ∧ e.2.1 = .v (.int .i64 1) := by
  obtain ⟨i, hi⟩ := List.mem_iff_getElem?.1 he
  obtain ⟨t, h1, h2⟩ := h.2 i e hi
  exact ⟨t, List.mem_of_getElem? h1, h2⟩
theorem seenAs.keys {seen : List Thg} {es : List (D × D × Nat)} (h : seenAs seen es) (hs : ∀ t ∈ seen, t.2.length ≤ 1000000) : ∀ e ∈ es, KeyD Tryz.prog 73 e.1 := fun e he => by
  obtain ⟨t, h1, h2, _⟩ := h.mem he
  rw [h2]; exact thD_key t (hs t h1)
theorem seenAs.none {seen : List Thg} {es : List (D × D × Nat)} (h : seenAs seen es) {t : Thg} (ht : t ∉ seen) : ∀ e ∈ es, e.1 ≠ thD t := fun e he e' => by
  obtain ⟨u, h1, h2, _⟩ := h.mem he
  rw [h2] at e'
  rw [← thD_inj e'] at ht
  exact ht h1
theorem seenAs.some {seen : List Thg} {es : List (D × D × Nat)} (h : seenAs seen es) {t : Thg} (ht : t ∈ seen) (hn : seen.Nodup) : ∃ (j n : Nat), es[j]? = some (thD t, .v (.int .i64 1), n) ∧ ∀ (i : Nat) (e : D × D × Nat), es[i]? = some e → e.1 = thD t → i = j ∧ e = (thD t, .v (.int .i64 1), n) := by
  obtain ⟨j, hj⟩ := List.mem_iff_getElem?.1 ht
  have hjl : j < es.length := by have := (List.getElem?_eq_some_iff.1 hj).1; rw [h.1]; exact this
  obtain ⟨u, h1, h2, h3⟩ := h.2 j _ (List.getElem?_eq_getElem hjl)
  rw [hj] at h1; cases h1
  have e0 : es[j]? = Option.some (thD t, .v (.int .i64 1), es[j].2.2) := by
    rw [List.getElem?_eq_getElem hjl]
    congr 1
    exact Prod.ext h2 (Prod.ext h3 rfl)
  refine ⟨j, es[j].2.2, e0, fun i e hi hk => ?_⟩
  obtain ⟨u, g1, g2, _⟩ := h.2 i e hi
  rw [g2] at hk
  obtain rfl := thD_inj hk
  have hij : i = j := by
    obtain ⟨p1, q1⟩ := List.getElem?_eq_some_iff.1 g1
    obtain ⟨p2, q2⟩ := List.getElem?_eq_some_iff.1 hj
    apply Classical.byContradiction
    intro hne
    rcases Nat.lt_or_gt_of_ne hne with hlt | hlt
    · exact (List.pairwise_iff_getElem.1 hn i j p1 p2 hlt) (q1.trans q2.symm)
    · exact (List.pairwise_iff_getElem.1 hn j i p2 p1 hlt) (q2.trans q1.symm)
  subst hij
  rw [e0] at hi; cases hi
  exact ⟨rfl, rfl⟩
theorem seenAs.snoc {seen : List Thg} {es : List (D × D × Nat)} (h : seenAs seen es) (t : Thg) (n : Nat) : seenAs (seen ++ [t]) (es ++ [(thD t, .v (.int .i64 1), n)]) := by
  refine ⟨by simp [h.1], fun i e he => ?_⟩
  by_cases hi : i < es.length
  · rw [List.getElem?_append_left hi] at he
    obtain ⟨u, h1, h2⟩ := h.2 i e he
    exact ⟨u, by rw [List.getElem?_append_left (by rw [← h.1]; exact hi)]; exact h1, h2⟩
  · have hi2 : i = es.length := by have := (List.getElem?_eq_some_iff.1 he).1; simp at this; omega
    subst hi2
    rw [List.getElem?_concat_length] at he; cases he
    exact ⟨t, by rw [h.1, List.getElem?_concat_length], rfl, rfl⟩
theorem seenAs.lt {seen : List Thg} {es : List (D × D × Nat)} (h : seenAs seen es) (n : Nat) : Ob.lt n (.mp es) := by
  simp only [Ob.lt]
  intro e he
  obtain ⟨t, _, h2, h3⟩ := h.mem he
  rw [h2, h3]
  simp [thD, thR, D.lt, D.ltL]

def alt0 : Alt := { name := [], link := [], manual := false, cur := [], slaves := [], choices := [] }
def badAt (l : List Alt) (i : Nat) (x : Alt) : Bool := !rightP x || (decide ((i : Int) > 0) && !Op.bytesLess (l.getD (i - 1) alt0).name x.name)
def thsTo (l : List Alt) (i : Nat) : List Thg := ((l.take i).map things).flatten
def okTo (l : List Alt) (i : Nat) : Prop := (∀ j, j < i → badAt l j (l.getD j alt0) = false) ∧ (thsTo l i).Nodup
open Classical in
noncomputable def checkI (l : List Alt) : Int := if l.length > 64 then 22 else if okTo l l.length then 0 else 1
theorem thsTo_succ {l : List Alt} {i : Nat} {x : Alt} (hx : l[i]? = some x) : thsTo l (i + 1) = thsTo l i ++ things x := by
  simp [thsTo, List.take_add_one, hx]
theorem thsTo_pre (l : List Alt) : ∀ n i, i ≤ n → ∃ r, thsTo l n = thsTo l i ++ r
  | 0, i, h => ⟨[], by obtain rfl : i = 0 := by omega
                       simp⟩
  | n + 1, i, h => by
    by_cases e : i = n + 1
    · exact ⟨[], by rw [e, List.append_nil]⟩
    · obtain ⟨r, hr⟩ := thsTo_pre l n i (by omega)
      cases hx : l[n]? with
      | none => exact ⟨r, by rw [← hr]; simp [thsTo, List.take_add_one, hx]⟩
      | some x => exact ⟨r ++ things x, by rw [thsTo_succ hx, hr, List.append_assoc]⟩
theorem check_bad {l : List Alt} (h : ¬ l.length > 64) {i : Nat} (hi : i < l.length) (hb : badAt l i (l.getD i alt0) = true) : checkI l = 1 := by
  unfold checkI
  rw [if_neg h, if_neg]
  rintro ⟨h1, _⟩
  rw [h1 i hi] at hb; cases hb
theorem check_dup {l : List Alt} (h : ¬ l.length > 64) {i k : Nat} {x : Alt} {t : Thg} (hx : l[i]? = some x) (ht : (things x)[k]? = some t) (hm : t ∈ thsTo l i ++ (things x).take k) : checkI l = 1 := by
  unfold checkI
  rw [if_neg h, if_neg]
  rintro ⟨_, h2⟩
  obtain ⟨r, hr⟩ := thsTo_pre l l.length (i + 1) (List.getElem?_eq_some_iff.1 hx).1
  rw [hr, thsTo_succ hx] at h2
  have e : things x = (things x).take k ++ t :: (things x).drop (k + 1) := by
    obtain ⟨hk, rfl⟩ := List.getElem?_eq_some_iff.1 ht
    rw [← List.drop_eq_getElem_cons hk, List.take_append_drop]
  rw [e] at h2
  have e2 : thsTo l i ++ (List.take k (things x) ++ t :: List.drop (k + 1) (things x)) ++ r = (thsTo l i ++ List.take k (things x)) ++ (t :: (List.drop (k + 1) (things x) ++ r)) := by simp
  rw [e2, List.nodup_append] at h2
  exact h2.2.2 t hm t (by simp) rfl
end Go.Ag
namespace Go.Ag
open Go Go.Proofs
variable {G : Nat → Option (List V)}
attribute [local irreducible] aops qops Sat aop

theorem things_mid {x : Alt} (h : altMid x) : ∀ t ∈ things x, t.2.length ≤ 1000000 := by
  obtain ⟨m1, m2, m3, m4, m5, m6, m7⟩ := h
  intro t ht
  simp only [things, links, List.mem_append, List.mem_cons, List.mem_map, List.map_cons] at ht
  rcases ht with (rfl | ⟨s, hs, rfl⟩) | (rfl | ⟨s, ⟨u, hu, rfl⟩, rfl⟩)
  · exact m1
  · exact (m6 s hs).1
  · exact m2
  · exact (m6 u hu).2
theorem thsTo_mid {l : List Alt} (hm : ∀ x ∈ l, altMid x) (i : Nat) : ∀ t ∈ thsTo l i, t.2.length ≤ 1000000 := by
  intro t ht
  simp only [thsTo, List.mem_flatten, List.mem_map] at ht
  obtain ⟨_, ⟨x, hx, rfl⟩, ht⟩ := ht
  exact things_mid (hm x (List.mem_of_mem_take hx)) t ht

set_option maxRecDepth 20000 in
set_option maxHeartbeats 16000000 in
theorem spec_Check (l : List Alt) (m : Int) (hl : l.length ≤ 1099511627) (hm : ∀ x ∈ l, altMid x) (hG0 : G 0 = some [.int .i64 m]) (H : List Ob) (K : D → List Ob → Prop) (hK : K (.v (.int .i64 (checkI l))) H) : ACalls Tryz.prog G 23 [.v (altsV l)] H K := by
  refine ACalls.go Tryz.f23 _ 56 [2] Tryz.func23 rfl Tryz.ntmps23 (by kernel_rfl) rfl (by simp) (fun E hE hP hG hH => ?_)
  have hM : E.P.follows .mixedOrders = true := hP ▸ mixed
  subst hH
  have w01 : IntKind.i64.wrap (0 + 1) = 1 := by decide
  have w12 : IntKind.i64.wrap (1 + 1) = 2 := by decide
  simp only [args0]
  (refine W0 (c5 @altsV.eq_def t3 t9 t41 t22) ?_; try with_reducible intro K hK)
  refine sat_cond rfl (fun hc => ?_) (fun hc => ?_)
  · (refine W0 t41 ?_; try with_reducible intro K hK)
    refine Fin.is (.v (.int .i64 22)) (by decide) rfl ?_
    have : checkI l = 22 := by simp at hc; unfold checkI; rw [if_pos (by omega)]
    rwa [this] at hK
  have hlen : ¬ l.length > 64 := by simp at hc; omega
  (refine W0 (c4 @altsV.eq_def t3 t69 t22) ?_; try with_reducible intro K hK)
  refine sat_loop_ent (fun n ts H => ∃ (i : Nat) (es : List (D × D × Nat)), n = l.length - i ∧ i ≤ l.length ∧ okTo l i ∧ seenAs (thsTo l i) es ∧
    ts = fr 56 [(14, .v (.int .i64 i)), (13, .v (.int .i64 l.length)), (12, .v (altsV l)), (3, .map E.H0.length), (0, .v (altsV l))] ∧ H = E.H0 ++ [.mp es]) (l.length) (.weakFr ?_) ⟨0, [], rfl, Nat.zero_le _, ⟨fun j hj => by omega, by simp [thsTo]⟩, by simpa [thsTo] using seenAs.nil, rfl, rfl⟩ ?_
  · simp only [le, ↓reduceIte, Nat.reduceEqDiff, and_true]; repeat' (first | exact trivial | exact D.le_refl _ | exact D.le_any _ | with_reducible refine And.intro ?_ ?_)
  rintro n ts H ⟨i, es, rfl, hi, hok, hse, rfl, rfl⟩
  (refine W0 (c4 @altsV.eq_def t3 t9 t22) ?_; try with_reducible intro K hK)
  refine sat_cond rfl (fun hc => ?_) (fun hc => ?_)
  · simp at hc
    obtain ⟨x, hx⟩ : ∃ s, l[i]? = some s := ⟨_, List.getElem?_eq_getElem hc⟩
    have hxm := hm x (List.mem_of_getElem? hx)
    obtain ⟨m1, m2, m3, m4, m5, m6, m7⟩ := hxm
    have hw := wrap_succ (i := i) (by omega)
    have gx : l.getD i alt0 = x := by simp [List.getD_eq_getElem?_getD, hx]
    (refine W0 (c8 @altsV.eq_def @altV.eq_def t3 t9 t22 t26 @hc @hx) ?_; try with_reducible intro K hK)
    refine sat_thru (fr 56 [(36, .v (.bool (badAt l i x))), (5, .ptr (E.H0.length + 1) 0), (14, .v (.int .i64 i)), (13, .v (.int .i64 l.length)), (12, .v (altsV l)), (3, .map E.H0.length), (0, .v (altsV l))]) (E.H0 ++ [.mp es, altB x]) ?_ ?_
    · rcases i with _ | j
      · (first | refine wr ?_ | refine wp rfl hM ?_ | refine wq hM ?_); repeat' (first | (refine G0 (c9 @altB.eq_def @altV.eq_def @altsV.eq_def t3 t4 t9 t22 t26 @gz) ?_; try with_reducible intro K hK) | ((first | refine Xs rfl rfl (by decide) rfl (fun h => ?_) fun h => ?_ | refine Ys rfl rfl (by decide) rfl (fun h => ?_) fun h => ?_ | refine Zs rfl rfl rfl (by decide) rfl (fun h => ?_) fun h => ?_); rotate_left; (focus (simp only [Bool.not_true, Bool.not_false, lp])); rotate_left))
        refine ⟨_, spec_AltRight x m (hm x (List.mem_of_getElem? hx)) hG0 _ _ ⟨rfl, rfl⟩, hK _ ?_⟩
        clear hK K; simp only [lp]
        repeat' (first | (refine G0 (c9 @altB.eq_def @altV.eq_def @altsV.eq_def t3 t4 t9 t22 t26 @gz) ?_; try with_reducible intro K hK) | ((first | refine Xs rfl rfl (by decide) rfl (fun h => ?_) fun h => ?_ | refine Ys rfl rfl (by decide) rfl (fun h => ?_) fun h => ?_ | refine Zs rfl rfl rfl (by decide) rfl (fun h => ?_) fun h => ?_); rotate_left; (focus (simp only [Bool.not_true, Bool.not_false, lp])); rotate_left))
        all_goals refine .weakFr ?_
        all_goals simp only [le, ↓reduceIte, Nat.reduceEqDiff, and_true]; repeat' (first | exact trivial | exact D.le_refl _ | exact D.le_any _ | with_reducible refine And.intro ?_ ?_)
        all_goals clear hok
        all_goals refine D.le_eq (congrArg D.v (congrArg V.bool ?_)); (try simp only [Bool.not_eq_eq_eq_not, Bool.not_true, Bool.not_false] at *); simp only [*, List.getD_eq_getElem?_getD, Bool.and_true, Bool.true_and, Bool.and_false, Bool.false_and, Bool.or_true, Bool.true_or, Bool.or_false, Bool.false_or, Bool.not_true, Bool.not_false, Bool.not_not, badAt, gz]
      · obtain ⟨p, hp⟩ : ∃ p, l[j]? = some p := ⟨_, List.getElem?_eq_getElem (by omega)⟩
        have hj : j < l.length := by omega
        have gp : l.getD j alt0 = p := by simp [List.getD_eq_getElem?_getD, hp]
        have hwj := wpred j (by omega)
        (first | refine wr ?_ | refine wp rfl hM ?_ | refine wq hM ?_); repeat' (first | (refine G0 (c12 @altB.eq_def @altV.eq_def @altsV.eq_def t3 t4 t9 t22 t26 @gs @hwj @hp @hj) ?_; try with_reducible intro K hK) | ((first | refine Xs rfl rfl (by decide) rfl (fun h => ?_) fun h => ?_ | refine Ys rfl rfl (by decide) rfl (fun h => ?_) fun h => ?_ | refine Zs rfl rfl rfl (by decide) rfl (fun h => ?_) fun h => ?_); rotate_left; (focus (simp only [Bool.not_true, Bool.not_false, lp])); rotate_left))
        refine ⟨_, spec_AltRight x m (hm x (List.mem_of_getElem? hx)) hG0 _ _ ⟨rfl, rfl⟩, hK _ ?_⟩
        clear hK K; simp only [lp]
        repeat' (first | (refine G0 (c12 @altB.eq_def @altV.eq_def @altsV.eq_def t3 t4 t9 t22 t26 @gs @hwj @hp @hj) ?_; try with_reducible intro K hK) | ((first | refine Xs rfl rfl (by decide) rfl (fun h => ?_) fun h => ?_ | refine Ys rfl rfl (by decide) rfl (fun h => ?_) fun h => ?_ | refine Zs rfl rfl rfl (by decide) rfl (fun h => ?_) fun h => ?_); rotate_left; (focus (simp only [Bool.not_true, Bool.not_false, lp])); rotate_left))
        all_goals refine .weakFr ?_
        all_goals simp only [le, ↓reduceIte, Nat.reduceEqDiff, and_true]; repeat' (first | exact trivial | exact D.le_refl _ | exact D.le_any _ | with_reducible refine And.intro ?_ ?_)
        all_goals clear hok
        all_goals refine D.le_eq (congrArg D.v (congrArg V.bool ?_)); (try simp only [Bool.not_eq_eq_eq_not, Bool.not_true, Bool.not_false] at *); simp only [*, List.getD_eq_getElem?_getD, Bool.and_true, Bool.true_and, Bool.and_false, Bool.false_and, Bool.or_true, Bool.true_or, Bool.or_false, Bool.false_or, Bool.not_true, Bool.not_false, Bool.not_not, badAt, gs, Nat.add_sub_cancel, gp, Option.getD_some]
    refine sat_cond rfl (fun hb => ?_) (fun hb => ?_)
    · (refine W0 t41 ?_; try with_reducible intro K hK)
      refine Fin.gc (.v (.int .i64 1)) hE (by decide) rfl (by simp only [D.lt]) ?_
      have := check_bad hlen hc (by rw [gx]; exact hb)
      rwa [this] at hK
    (refine W0 (c4 @altB.eq_def @altV.eq_def t9 t26) ?_; try with_reducible intro K hK)
    refine spec_things x (by omega) _ _ (hK _ _ ?_)
    clear hK K; simp only [lp]
    have htl := things_len x
    have htm : ∀ t ∈ things x, t.2.length ≤ 1000000 := things_mid (hm x (List.mem_of_getElem? hx))
    have hsm : ∀ t ∈ thsTo l i, t.2.length ≤ 1000000 := thsTo_mid hm i
    (refine W0 (c3 @thgs.eq_def t3 t70) ?_; try with_reducible intro K hK)
    refine sat_loop_ent (fun n ts H => ∃ (k : Nat) (es2 : List (D × D × Nat)), n = (things x).length - k ∧ k ≤ (things x).length ∧ (thsTo l i ++ (things x).take k).Nodup ∧ seenAs (thsTo l i ++ (things x).take k) es2 ∧
      ts = fr 56 [(40, .v (.int .i64 k)), (39, .v (.int .i64 (things x).length)), (38, .v (thgs (things x))), (14, .v (.int .i64 i)), (13, .v (.int .i64 l.length)), (12, .v (altsV l)), (3, .map E.H0.length), (0, .v (altsV l))] ∧ H = E.H0 ++ [.mp es2]) ((things x).length) (Ent.rnd hE ?_ rfl ?_ ?_) ⟨0, es, rfl, Nat.zero_le _, by simpa using hok.2, by simpa using hse, rfl, rfl⟩ ?_
    · simp only [le, ↓reduceIte, Nat.reduceEqDiff, and_true]; repeat' (first | exact trivial | exact D.le_refl _ | exact D.le_any _ | with_reducible refine And.intro ?_ ?_)
    · simp [ltAll, ltObs, Ob.lt, D.lt, D.ltL, or_imp, forall_and]
    · exact ⟨hse.lt _, trivial⟩
    rintro n ts H ⟨k, es2, rfl, hk, hnd, hse2, rfl, rfl⟩
    (refine W0 (c3 @thgs.eq_def t3 t70) ?_; try with_reducible intro K hK)
    refine sat_cond rfl (fun hd => ?_) (fun hd => ?_)
    · simp at hd
      obtain ⟨t, ht⟩ : ∃ s, (things x)[k]? = some s := ⟨_, List.getElem?_eq_getElem hd⟩
      have hwk := wrap_succ (i := k) (by omega)
      have ht2 := htm t (List.mem_of_getElem? ht)
      have hkeys := hse2.keys (fun u hu => by
        rcases List.mem_append.1 hu with hu | hu
        · exact hsm u hu
        · exact htm u (List.mem_of_mem_take hu))
      repeat (first | refine wa ?_ | refine wo ?_ | (refine wl ?_; simp only [lt]))
      refine wb rfl ?_
      repeat' (first | (refine G0 (c9 @thgs.eq_def @thR.eq_def t3 t4 t9 t70 t73 @hd @ht) ?_; try with_reducible intro K hK) | ((first | refine Xs rfl rfl (by decide) rfl (fun h => ?_) fun h => ?_ | refine Ys rfl rfl (by decide) rfl (fun h => ?_) fun h => ?_ | refine Zs rfl rfl rfl (by decide) rfl (fun h => ?_) fun h => ?_); rotate_left; (focus (simp only [Bool.not_true, Bool.not_false, lp])); rotate_left))
      refine wa ?_
      by_cases hdup : t ∈ thsTo l i ++ (things x).take k
      · obtain ⟨j, n, hj, hu⟩ := hse2.some hdup hnd
        have hu2 : ∀ e ∈ es2, e.1 = thD t → e = (thD t, .v (.int .i64 1), n) := fun e he he2 => by
          obtain ⟨i', hi'⟩ := List.mem_iff_getElem?.1 he
          exact (hu i' e hi' he2).2
        refine ub (fun H => ∃ es1, H[E.H0.length]? = some (.mp es1) ∧ H[E.H0.length + 1]? = some (.box [.v (.bool t.1), .v (.str t.2)]) ∧ (∀ e ∈ es1, KeyD Tryz.prog 73 e.1) ∧ (∀ e ∈ es1, e.1 = thD t → e.2.1 = .v (.int .i64 1)) ∧ (∃ e ∈ es1, e.1 = thD t)) hM ⟨es2, by rw [hp_get0]; rfl, by rw [hp_get]; rfl, hkeys, fun e he he2 => by rw [(hu2 e he he2)], ⟨_, List.mem_of_getElem? hj, rfl⟩⟩ ?_
        refine ug rfl rfl fun K hK => ⟨.map E.H0.length, fun H hS => ?_, hK _ ?_⟩
        · simp only [lo, ld, ↓aop, ↓aCall, hP, hG, Nat.reduceLT, ↓reduceIte, Nat.reduceEqDiff, Nat.reduceAdd, Nat.reduceMul, Nat.reduceLeDiff, reduceCtorEq, D.cs, D.plain, fillD, chop, List.replicate]
        clear hK K
        simp only [lp]
        refine ug rfl rfl fun K hK => ⟨thD t, fun H hS => ?_, hK _ ?_⟩
        · obtain ⟨es1, q1, q2, _⟩ := hS
          simp only [lo, ld, ↓aop, ↓aCall, hP, hG, Nat.reduceLT, ↓reduceIte, Nat.reduceEqDiff, Nat.reduceAdd, Nat.reduceMul, Nat.reduceLeDiff, reduceCtorEq, D.cs, D.plain, fillD, chop, List.replicate, tk_73, ze_73, sz_73, kn_73, q2]
          rfl
        clear hK K
        simp only [lp]
        refine ug rfl rfl fun K hK => ⟨.v (.int .i64 1), fun H hS => ?_, hK _ ?_⟩
        · obtain ⟨es1, q1, q2, q3, q4, q5⟩ := hS
          simp only [lo, ld, ↓aop, ↓aCall, hP, hG, Nat.reduceLT, ↓reduceIte, Nat.reduceEqDiff, Nat.reduceAdd, Nat.reduceMul, Nat.reduceLeDiff, reduceCtorEq, D.cs, D.plain, fillD, chop, List.replicate]
          exact aLookup_is q1 tk_69 keyed87 (thD_key t ht2) q3 zero3 q4 (.inl q5) rfl
        clear hK K
        simp only [lp]
        refine ug rfl rfl fun K hK => ⟨.v (.int .i64 2), fun H hS => ?_, hK _ ?_⟩
        · simp only [lo, ld, ↓aop, ↓aCall, hP, hG, Nat.reduceLT, ↓reduceIte, Nat.reduceEqDiff, Nat.reduceAdd, Nat.reduceMul, Nat.reduceLeDiff, reduceCtorEq, D.cs, D.plain, fillD, chop, List.replicate, tk_3, ze_3, sz_3, w12]
        clear hK K
        simp only [lp]
        refine uf rfl rfl fun K hK => ?_
        simp only [lo, ld, ↓aop, ↓aCall, hP, hG, Nat.reduceLT, ↓reduceIte, Nat.reduceEqDiff, Nat.reduceAdd, Nat.reduceMul, Nat.reduceLeDiff, reduceCtorEq, D.cs, D.plain, fillD, chop, List.replicate]
        unfold aMapEntry
        simp only [hp_get0, List.getElem?_cons_zero, tk_69]
        refine ⟨keyed87, thD_key t ht2, hkeys, .inl ⟨_, n, ⟨_, List.mem_of_getElem? hj, rfl⟩, hu2, hK _ _ ⟨es2, by rw [hp_get0]; rfl, by rw [hp_get]; rfl, hkeys, fun e he he2 => by rw [(hu2 e he he2)], ⟨_, List.mem_of_getElem? hj, rfl⟩⟩ ?_⟩⟩
        clear hK K
        simp only [lp]
        refine ug rfl rfl fun K hK => ⟨.v (.int .i64 n), fun H hS => ?_, hK _ ?_⟩
        · simp only [lo, ld, ↓aop, ↓aCall, hP, hG, Nat.reduceLT, ↓reduceIte, Nat.reduceEqDiff, Nat.reduceAdd, Nat.reduceMul, Nat.reduceLeDiff, reduceCtorEq, D.cs, D.plain, fillD, chop, List.replicate]
        clear hK K
        simp only [lp]
        refine ul rfl rfl fun K hK => ?_
        simp only [lo, ld, ↓aop, ↓aCall, hP, hG, Nat.reduceLT, ↓reduceIte, Nat.reduceEqDiff, Nat.reduceAdd, Nat.reduceMul, Nat.reduceLeDiff, reduceCtorEq, D.cs, D.plain, fillD, chop, List.replicate]
        unfold aEntryStore
        simp only [hp_get0, List.getElem?_cons_zero]
        refine ⟨j, (thD t, .v (.int .i64 1), n), hj, rfl, hK _ _ ?_⟩
        clear hK K
        simp only [lp, hp_set0, List.set_cons_zero]
        refine uk ?_
        simp only [lt]
        repeat (first | refine wa ?_)
        refine wb rfl ?_
        refine we rfl fun K hK => ?_
        simp only [lo, ld, ↓aop, ↓aCall, hP, hG, Nat.reduceLT, ↓reduceIte, Nat.reduceEqDiff, Nat.reduceAdd, Nat.reduceMul, Nat.reduceLeDiff, reduceCtorEq, D.cs, D.plain, fillD, chop, List.replicate]
        refine hK _ _ ?_
        clear hK K
        simp only [lp]
        refine we rfl fun K hK => ?_
        simp only [lo, ld, ↓aop, ↓aCall, hP, hG, Nat.reduceLT, ↓reduceIte, Nat.reduceEqDiff, Nat.reduceAdd, Nat.reduceMul, Nat.reduceLeDiff, reduceCtorEq, D.cs, D.plain, fillD, chop, List.replicate, tk_73, ze_73, sz_73, kn_73]
        refine hK _ _ ?_
        clear hK K
        simp only [lp]
        refine we rfl fun K hK => ?_
        simp only [lo, ld, ↓aop, ↓aCall, hP, hG, Nat.reduceLT, ↓reduceIte, Nat.reduceEqDiff, Nat.reduceAdd, Nat.reduceMul, Nat.reduceLeDiff, reduceCtorEq, D.cs, D.plain, fillD, chop, List.replicate]
        have hjl : j < es2.length := (List.getElem?_eq_some_iff.1 hj).1
        refine aLookup_is (es := es2.set j (thD t, .v (.int .i64 2), n)) (v := .v (.int .i64 2)) (by rw [hp_get0]; rfl) tk_69 keyed87 (thD_key t ht2) ?_ zero3 ?_ (.inl ⟨(thD t, .v (.int .i64 2), n), List.mem_of_getElem? (List.getElem?_set_self hjl), rfl⟩) (hK _ _ ?_)
        · intro e he
          rcases List.mem_or_eq_of_mem_set he with he | rfl
          · exact hkeys e he
          · exact thD_key t ht2
        · intro e he he2
          obtain ⟨i', hi'⟩ := List.mem_iff_getElem?.1 he
          by_cases e' : i' = j
          · subst e'
            rw [List.getElem?_set_self hjl] at hi'; cases hi'; rfl
          · rw [List.getElem?_set_ne (fun x => e' x.symm)] at hi'
            exact absurd (hu i' e hi' he2).1 e'
        clear hK K
        simp only [lp]
        (refine W0 t3 ?_; try with_reducible intro K hK)
        refine sat_cond rfl (fun hb => ?_) (fun hb => ?_)
        · (refine W0 t41 ?_; try with_reducible intro K hK)
          refine Fin.gc (.v (.int .i64 1)) hE (by decide) rfl (by simp only [D.lt]) ?_
          have := check_dup hlen hx ht hdup
          rwa [this] at hK
        · exact absurd hb (by decide)
      have hno := hse2.none hdup
      refine ub (fun H => ∃ es1, H[E.H0.length]? = some (.mp es1) ∧ H[E.H0.length + 1]? = some (.box [.v (.bool t.1), .v (.str t.2)]) ∧ (∀ e ∈ es1, KeyD Tryz.prog 73 e.1) ∧ (∀ e ∈ es1, e.1 = thD t → e.2.1 = .v (.int .i64 0))) hM ⟨es2, by rw [hp_get0]; rfl, by rw [hp_get]; rfl, hkeys, fun e he he2 => absurd he2 (hno e he)⟩ ?_
      refine ug rfl rfl fun K hK => ⟨.map E.H0.length, fun H hS => ?_, hK _ ?_⟩
      · simp only [lo, ld, ↓aop, ↓aCall, hP, hG, Nat.reduceLT, ↓reduceIte, Nat.reduceEqDiff, Nat.reduceAdd, Nat.reduceMul, Nat.reduceLeDiff, reduceCtorEq, D.cs, D.plain, fillD, chop, List.replicate]
      clear hK K
      simp only [lp]
      refine ug rfl rfl fun K hK => ⟨thD t, fun H hS => ?_, hK _ ?_⟩
      · obtain ⟨es1, q1, q2, _⟩ := hS
        simp only [lo, ld, ↓aop, ↓aCall, hP, hG, Nat.reduceLT, ↓reduceIte, Nat.reduceEqDiff, Nat.reduceAdd, Nat.reduceMul, Nat.reduceLeDiff, reduceCtorEq, D.cs, D.plain, fillD, chop, List.replicate, tk_73, ze_73, sz_73, kn_73, q2]
        rfl
      clear hK K
      simp only [lp]
      refine ug rfl rfl fun K hK => ⟨.v (.int .i64 0), fun H hS => ?_, hK _ ?_⟩
      · obtain ⟨es1, q1, q2, q3, q4⟩ := hS
        simp only [lo, ld, ↓aop, ↓aCall, hP, hG, Nat.reduceLT, ↓reduceIte, Nat.reduceEqDiff, Nat.reduceAdd, Nat.reduceMul, Nat.reduceLeDiff, reduceCtorEq, D.cs, D.plain, fillD, chop, List.replicate]
        exact aLookup_is q1 tk_69 keyed87 (thD_key t ht2) q3 zero3 q4 (.inr rfl) rfl
      clear hK K
      simp only [lp]
      refine ug rfl rfl fun K hK => ⟨.v (.int .i64 1), fun H hS => ?_, hK _ ?_⟩
      · simp only [lo, ld, ↓aop, ↓aCall, hP, hG, Nat.reduceLT, ↓reduceIte, Nat.reduceEqDiff, Nat.reduceAdd, Nat.reduceMul, Nat.reduceLeDiff, reduceCtorEq, D.cs, D.plain, fillD, chop, List.replicate, tk_3, ze_3, sz_3, w01]
      clear hK K
      simp only [lp]
      refine uf rfl rfl fun K hK => ?_
      simp only [lo, ld, ↓aop, ↓aCall, hP, hG, Nat.reduceLT, ↓reduceIte, Nat.reduceEqDiff, Nat.reduceAdd, Nat.reduceMul, Nat.reduceLeDiff, reduceCtorEq, D.cs, D.plain, fillD, chop, List.replicate]
      unfold aMapEntry
      simp only [hp_get0, List.getElem?_cons_zero, tk_69]
      refine ⟨keyed87, thD_key t ht2, hkeys, .inr ⟨hno, _, zero3, fun n hn => hK _ _ ⟨es2 ++ [(thD t, .v (.int .i64 0), n)], by rw [hp_set0, hp_get0]; rfl, by rw [hp_set0, hp_get]; rfl, ?_, ?_⟩ ?_⟩⟩
      · intro e he
        rcases List.mem_append.1 he with he | he
        · exact hkeys e he
        · rw [List.mem_singleton] at he; subst he; exact thD_key t ht2
      · intro e he he2
        rcases List.mem_append.1 he with he | he
        · exact absurd he2 (hno e he)
        · rw [List.mem_singleton] at he; subst he; rfl
      clear hK K
      simp only [lp, hp_set0, List.set_cons_zero]
      refine ug rfl rfl fun K hK => ⟨.v (.int .i64 n), fun H hS => ?_, hK _ ?_⟩
      · simp only [lo, ld, ↓aop, ↓aCall, hP, hG, Nat.reduceLT, ↓reduceIte, Nat.reduceEqDiff, Nat.reduceAdd, Nat.reduceMul, Nat.reduceLeDiff, reduceCtorEq, D.cs, D.plain, fillD, chop, List.replicate]
      clear hK K
      simp only [lp]
      refine ul rfl rfl fun K hK => ?_
      simp only [lo, ld, ↓aop, ↓aCall, hP, hG, Nat.reduceLT, ↓reduceIte, Nat.reduceEqDiff, Nat.reduceAdd, Nat.reduceMul, Nat.reduceLeDiff, reduceCtorEq, D.cs, D.plain, fillD, chop, List.replicate]
      unfold aEntryStore
      simp only [hp_get0, List.getElem?_cons_zero]
      refine ⟨es2.length, (thD t, .v (.int .i64 0), n), by simp, rfl, hK _ _ ?_⟩
      clear hK K
      have hset : (es2 ++ [(thD t, D.v (.int .i64 0), n)]).set es2.length (thD t, .v (.int .i64 1), n) = es2 ++ [(thD t, .v (.int .i64 1), n)] := by simp
      simp only [lp, hp_set0, List.set_cons_zero, hset]
      refine uk ?_
      simp only [lt]
      repeat (first | refine wa ?_)
      refine wb rfl ?_
      refine we rfl fun K hK => ?_
      simp only [lo, ld, ↓aop, ↓aCall, hP, hG, Nat.reduceLT, ↓reduceIte, Nat.reduceEqDiff, Nat.reduceAdd, Nat.reduceMul, Nat.reduceLeDiff, reduceCtorEq, D.cs, D.plain, fillD, chop, List.replicate]
      refine hK _ _ ?_
      clear hK K
      simp only [lp]
      refine we rfl fun K hK => ?_
      simp only [lo, ld, ↓aop, ↓aCall, hP, hG, Nat.reduceLT, ↓reduceIte, Nat.reduceEqDiff, Nat.reduceAdd, Nat.reduceMul, Nat.reduceLeDiff, reduceCtorEq, D.cs, D.plain, fillD, chop, List.replicate, tk_73, ze_73, sz_73, kn_73]
      refine hK _ _ ?_
      clear hK K
      simp only [lp]
      refine we rfl fun K hK => ?_
      simp only [lo, ld, ↓aop, ↓aCall, hP, hG, Nat.reduceLT, ↓reduceIte, Nat.reduceEqDiff, Nat.reduceAdd, Nat.reduceMul, Nat.reduceLeDiff, reduceCtorEq, D.cs, D.plain, fillD, chop, List.replicate]
      have hse3 := hse2.snoc t n
      refine aLookup_is (es := es2 ++ [(thD t, .v (.int .i64 1), n)]) (v := .v (.int .i64 1)) (by rw [hp_get0]; rfl) tk_69 keyed87 (thD_key t ht2) ?_ zero3 ?_ (.inl ⟨(thD t, .v (.int .i64 1), n), by simp, rfl⟩) (hK _ _ ?_)
      · intro e he
        rcases List.mem_append.1 he with he | he
        · exact hkeys e he
        · rw [List.mem_singleton] at he; subst he; exact thD_key t ht2
      · intro e he he2
        obtain ⟨_, _, _, h3⟩ := hse3.mem he
        exact h3
      clear hK K
      simp only [lp]
      (refine W0 t3 ?_; try with_reducible intro K hK)
      refine sat_cond rfl (fun hb => ?_) (fun hb => ?_)
      · exact absurd hb (by decide)
      (refine W0 (c2 t3 @hwk) ?_; try with_reducible intro K hK)
      have e1 : (things x).take (k + 1) = (things x).take k ++ [t] := take_snoc ht
      have e2 : thsTo l i ++ (things x).take (k + 1) = (thsTo l i ++ (things x).take k) ++ [t] := by rw [e1, List.append_assoc]
      refine ⟨(things x).length - (k + 1), _, _, by omega, ?_, k + 1, es2 ++ [(thD t, .v (.int .i64 1), n)], rfl, by omega, ?_, by rw [e2]; exact hse3, rfl, rfl⟩
      · refine Ent.rnd hE ?_ rfl ?_ ⟨hse3.lt _, trivial⟩
        · simp only [le, ↓reduceIte, Nat.reduceEqDiff, and_true]; repeat' (first | exact trivial | exact D.le_refl _ | exact D.le_any _ | with_reducible refine And.intro ?_ ?_)
        · simp [ltAll, ltObs, Ob.lt, D.lt, D.ltL, or_imp, forall_and]
      · rw [e2, List.nodup_append]
        exact ⟨hnd, by simp, fun a ha b hb => by rw [List.mem_singleton] at hb; subst hb; exact fun e => hdup (e ▸ ha)⟩
    simp at hd
    have e1 : (things x).take k = things x := List.take_of_length_le (by omega)
    rw [e1, ← thsTo_succ hx] at hnd hse2
    (refine W0 (c2 @hw t3) ?_; try with_reducible intro K hK)
    refine ⟨l.length - (i + 1), _, _, by omega, .weakFr ?_, i + 1, es2, rfl, by omega, ⟨fun j hj => ?_, hnd⟩, hse2, rfl, rfl⟩
    · simp only [le, ↓reduceIte, Nat.reduceEqDiff, and_true]; repeat' (first | exact trivial | exact D.le_refl _ | exact D.le_any _ | with_reducible refine And.intro ?_ ?_)
    · rcases Nat.lt_succ_iff_lt_or_eq.1 hj with h | rfl
      · exact hok.1 j h
      · rw [gx]; exact hb
  simp at hc
  obtain rfl : i = l.length := by omega
  (refine W0 t41 ?_; try with_reducible intro K hK)
  refine Fin.gc (.v (.int .i64 0)) hE (by decide) rfl (by simp only [D.lt]) ?_
  have : checkI l = 0 := by unfold checkI; rw [if_neg hlen, if_pos hok]
  rwa [this] at hK
end Go.Ag
namespace Go.Ag
open Go Go.Proofs
variable {G : Nat → Option (List V)}
attribute [local irreducible] aops qops Sat aop

noncomputable def finI (out : List Alt) : List Alt × Int := if checkI out = 0 then (out, 0) else if checkI out = 22 then ([], 22) else ([], 20)
def headC (x : Alt) : Cho := x.choices.headD cho0
noncomputable def instF (l : List Alt) (nm lk : Str) (c : Cho) (ss : List Slv) : List Alt × Int :=
  if c.slaves.length = ss.length then (if rightP (aloneF nm lk c ss) = true then (match l.findIdx? (fun y => y.name == nm) with
    | none => finI (putA l (aloneF nm lk c ss))
    | some i => if okJ ((l[i]?).getD altZ) (aloneF nm lk c ss) = true then finI (putA l (settA (joinF ((l[i]?).getD altZ) (aloneF nm lk c ss) (headC (aloneF nm lk c ss))))) else ([], 20)) else ([], 1)) else ([], 1)
def altIn (y : Alt) : Prop := altMid y ∧ y.slaves.length ≤ 400000 ∧ y.choices.length ≤ 400000
def choIn (c : Cho) : Prop := c.path.length ≤ 1000000 ∧ ∀ t ∈ c.slaves, t.length ≤ 1000000
def slvIn (s : Slv) : Prop := s.name.length ≤ 1000000 ∧ s.link.length ≤ 1000000
theorem prs_mem : ∀ {ss : List Slv} {ps : List Str} {x : Pr}, x ∈ prs ss ps → x.s ∈ ss ∧ x.p ∈ ps
  | [], _, _, h => by simp [prs] at h
  | _ :: _, [], _, h => by simp [prs] at h
  | s :: ss, p :: ps, x, h => by
    simp only [prs, List.zipWith_cons_cons, List.mem_cons] at h
    rcases h with rfl | h
    · simp
    · have := prs_mem (ss := ss) (ps := ps) h
      exact ⟨List.mem_cons_of_mem _ this.1, List.mem_cons_of_mem _ this.2⟩
theorem alone_in {nm lk : Str} {c : Cho} {ss : List Slv} (h1 : nm.length ≤ 1000000) (h2 : lk.length ≤ 1000000) (h3 : choIn c) (h4 : ss.length ≤ 400000) (h5 : ∀ s ∈ ss, slvIn s) (hn : c.slaves.length = ss.length) : altIn (aloneF nm lk c ss) ∧ (aloneF nm lk c ss).choices = [headC (aloneF nm lk c ss)] := by
  have hp := stab_perm (fun x y : Pr => Lib.compareBytes x.s.name y.s.name) (prs ss c.slaves)
  have hl := hp.length_eq
  rw [prs_len hn] at hl
  have hm : ∀ x ∈ stab (fun x y : Pr => Lib.compareBytes x.s.name y.s.name) (prs ss c.slaves), x.s ∈ ss ∧ x.p ∈ c.slaves := fun x hx => prs_mem (hp.mem_iff.1 hx)
  refine ⟨⟨⟨h1, h2, h3.1, ?_, ?_, ?_, ?_⟩, ?_, ?_⟩, rfl⟩
  · simp only [aloneF, aloneA, List.length_map, hl]; omega
  · simp [aloneF, aloneA]
  · intro s hs
    simp only [aloneF, aloneA, List.mem_map] at hs
    obtain ⟨x, hx, rfl⟩ := hs
    exact h5 _ (hm x hx).1
  · intro o ho
    simp only [aloneF, aloneA, List.mem_singleton] at ho
    subst ho
    refine ⟨h3.1, ?_, fun t ht => ?_⟩
    · simp only [List.length_map, hl]; omega
    · simp only [List.mem_map] at ht
      obtain ⟨x, hx, rfl⟩ := ht
      exact h3.2 _ (hm x hx).2
  · simp only [aloneF, aloneA, List.length_map, hl]; exact h4
  · simp [aloneF, aloneA]
theorem sprA_in {c : Cho} {fs ts : List Slv} (h : choIn c) : choIn (sprA c fs ts) := by
  refine ⟨h.1, fun t ht => ?_⟩
  simp only [sprA, List.mem_map] at ht
  obtain ⟨s, _, rfl⟩ := ht
  unfold sprF
  split
  · rename_i i _
    by_cases hi : i < c.slaves.length
    · rw [List.getD_eq_getElem?_getD, List.getElem?_eq_getElem hi]
      exact h.2 _ (List.getElem_mem _)
    · rw [List.getD_eq_getElem?_getD, List.getElem?_eq_none (by omega)]; simp
  · simp
theorem join_in {x y : Alt} {c0 : Cho} (hx : altIn x) (hy : altIn y) (hc : choIn c0) : altMid (joinF x y c0) ∧ (joinF x y c0).choices.length ≤ 400001 := by
  obtain ⟨⟨a1, a2, a3, a4, a5, a6, a7⟩, a8, a9⟩ := hx
  obtain ⟨⟨_, _, _, _, _, b6, _⟩, b8, _⟩ := hy
  have hp := stab_perm (fun a b : Slv => Lib.compareBytes a.name b.name) (allJ x y)
  have hal : (joinS x y).length ≤ 800000 := by
    rw [joinS, hp.length_eq, allJ, List.length_append]
    have := List.length_filter_le (newS x) y.slaves
    omega
  have hq := stab_perm (fun a b : Cho => Lib.compareBytes a.path b.path) (outJ x (sprA c0 y.slaves (joinS x y)) (joinS x y))
  have hcl : (joinF x y c0).choices.length ≤ 400001 := by
    simp only [joinF]
    rw [hq.length_eq, outJ, List.length_cons, List.length_map]
    have := List.length_filter_le (fun o => o.path != (sprA c0 y.slaves (joinS x y)).path) x.choices
    omega
  refine ⟨⟨a1, a2, a3, by simp only [joinF]; omega, by omega, fun s hs => ?_, fun o ho => ?_⟩, hcl⟩
  · simp only [joinF, joinS] at hs
    rw [hp.mem_iff, allJ, List.mem_append, List.mem_filter] at hs
    rcases hs with hs | hs
    · exact a6 s hs
    · exact b6 s hs.1
  · simp only [joinF] at ho
    rw [hq.mem_iff, outJ, List.mem_cons, List.mem_map] at ho
    have key : ∀ c : Cho, ∀ fs : List Slv, choIn c → o = sprA c fs (joinS x y) → o.path.length ≤ 1000000 ∧ o.slaves.length ≤ 1000000 ∧ ∀ t ∈ o.slaves, t.length ≤ 1000000 := fun c fs h e => by
      have := sprA_in (fs := fs) (ts := joinS x y) h
      rw [← e] at this
      refine ⟨this.1, ?_, this.2⟩
      rw [e]; simp only [sprA, List.length_map]; omega
    rcases ho with ho | ⟨q, hq1, ho⟩
    · exact key c0 _ hc ho
    · have := a7 q (List.mem_filter.1 hq1).1
      exact key q _ ⟨this.1, this.2.2⟩ ho.symm
theorem sett_mid {x : Alt} (h : altMid x) : altMid (settA x) := by
  unfold settA
  split
  · exact h
  · split
    · exact h
    · obtain ⟨a1, a2, a3, a4, a5, a6, a7⟩ := h
      refine ⟨a1, a2, ?_, a4, a5, a6, a7⟩
      simp only
      cases hk : x.choices[(best x.choices).toNat]? with
      | none => simp
      | some c => exact (a7 c (List.mem_of_getElem? hk)).1
theorem put_mid {l : List Alt} {x : Alt} (hl : ∀ y ∈ l, altMid y) (hx : altMid x) : ∀ y ∈ putA l x, altMid y := fun y hy => by
  rcases mem_put hy with h | rfl
  · exact hl y h
  · exact hx
theorem checkI_cases (l : List Alt) : checkI l = 22 ∨ checkI l = 0 ∨ checkI l = 1 := by
  unfold checkI
  split
  · exact .inl rfl
  · split
    · exact .inr (.inl rfl)
    · exact .inr (.inr rfl)
theorem sat_thruQ {ι : Type} {E : Env} {x y : Code} {ts : List D} {H : List Ob} {Q : Exit → List D → List Ob → Prop} (C : ι → Prop) (T : ι → List D) (Hf : ι → List Ob)
    (h1 : Sat E x ts H (Th (fun ts' H' => ∃ i, C i ∧ Ent E ts' H' (T i) (Hf i)) Q)) (h2 : ∀ i, C i → Sat E y (T i) (Hf i) Q) : Sat E x ts H (Th (fun ts H => Sat E y ts H Q) Q) :=
  h1.mono fun e ts1 H1 h => by
    cases e with
    | normal => obtain ⟨i, hc, he⟩ := h; exact sat_ent he (h2 i hc)
    | _ => exact h
set_option maxRecDepth 20000 in
set_option maxHeartbeats 16000000 in
theorem spec_Install (l : List Alt) (nm lk : Str) (c : Cho) (ss : List Slv) (m : Int) (hl : l.length ≤ 900000) (hin : ∀ y ∈ l, altIn y) (h1 : nm.length ≤ 1000000) (h2 : lk.length ≤ 1000000) (h3 : choIn c) (h3s : c.slaves.length ≤ 1000000) (h4 : ss.length ≤ 400000) (h5 : ∀ s ∈ ss, slvIn s) (hG0 : G 0 = some [.int .i64 m]) (H : List Ob) (K : D → List Ob → Prop)
    (hK : K (.tup [.v (altsV (instF l nm lk c ss).1), .v (.int .i64 (instF l nm lk c ss).2)]) H) : ACalls Tryz.prog G 38 [.v (altsV l), .v (.str nm), .v (.str lk), choD c, .v (slvs ss)] H K := by
  refine ACalls.go Tryz.f38 _ 59 [10, 11] Tryz.func38 rfl Tryz.ntmps38 (by kernel_rfl) rfl (by simp) (fun E hE hP hG hH => ?_)
  have hM : E.P.follows .mixedOrders = true := hP ▸ mixed
  subst hH
  have e0 : choD c = .agg ((cV c).map .v) := rfl
  have hbad : ∀ (e : Int) (ts : List (Nat × D)) (L : List Ob), instF l nm lk c ss = ([], e) → look ts 10 = .nils → look ts 11 = .v (.int .i64 e) → Fin E (fr 59 ts) (E.H0 ++ L) [10, 11] K := fun e ts L h g1 g2 => by
    rw [h] at hK
    exact Fin.gcle2 (.v (altsV [])) (.v (.int .i64 e)) hE (by decide) (by decide) (by decide) (g1 ▸ D.le_nils 6) (g2 ▸ D.le_refl _) (by simp only [D.lt]) (by simp only [D.lt]) hK
  simp only [args0, e0]
  (refine W0 (c13 @cV.eq_def @slvs.eq_def @strs.eq_def t9 t3 t4 t22 t26 t24 t46 t23 t44 t41) ?_; try with_reducible intro K hK)
  refine sat_cond rfl (fun hd => ?_) (fun hd => ?_)
  · (refine W0 (c10 t9 t3 t4 t22 t26 t24 t46 t23 t44 t41) ?_; try with_reducible intro K hK)
    refine hbad 1 _ _ ?_ rfl rfl
    rw [instF, if_neg (by simp at hd; omega)]
  have hn : c.slaves.length = ss.length := by simp at hd; omega
  (refine Q0 (c11 @cV.eq_def t9 t3 t4 t22 t26 t24 t46 t23 t44 t41) ?_; try with_reducible intro K hK)
  obtain ⟨hax, hax2⟩ := alone_in h1 h2 h3 h4 h5 hn
  refine spec_alone nm lk c ss hn (by omega) _ _ (hK _ _ ?_)
  clear hK K; simp only [lp]
  have hI : instF l nm lk c ss = (if rightP (aloneF nm lk c ss) = true then (match l.findIdx? (fun y => y.name == nm) with
    | none => finI (putA l (aloneF nm lk c ss))
    | some i => if okJ ((l[i]?).getD altZ) (aloneF nm lk c ss) = true then finI (putA l (settA (joinF ((l[i]?).getD altZ) (aloneF nm lk c ss) (headC (aloneF nm lk c ss))))) else ([], 20)) else ([], 1)) := by rw [instF, if_pos hn]
  generalize aloneF nm lk c ss = x at *
  (refine W0 (c11 @altd.eq_def t9 t3 t4 t22 t26 t24 t46 t23 t44 t41) ?_; try with_reducible intro K hK)
  refine spec_AltRight x m hax.1 hG0 _ _ (hK _ _ ?_)
  clear hK K; simp only [lp]
  (refine W0 (c10 t9 t3 t4 t22 t26 t24 t46 t23 t44 t41) ?_; try with_reducible intro K hK)
  refine sat_cond rfl (fun hr => ?_) (fun hr => ?_)
  · (refine W0 (c10 t9 t3 t4 t22 t26 t24 t46 t23 t44 t41) ?_; try with_reducible intro K hK)
    refine hbad 1 _ _ ?_ rfl rfl
    rw [hI, if_neg (by simpa using hr)]
  have hr : rightP x = true := by simpa using hr
  rw [if_pos hr] at hI
  (refine W0 (c10 t9 t3 t4 t22 t26 t24 t46 t23 t44 t41) ?_; try with_reducible intro K hK)
  refine spec_Find l nm (by omega) _ _ (hK _ _ ?_)
  clear hK K; simp only [lp]
  (refine W0 (c10 t9 t3 t4 t22 t26 t24 t46 t23 t44 t41) ?_; try with_reducible intro K hK)
  refine sat_thruQ (ι := Alt) (fun z => altMid z ∧ instF l nm lk c ss = finI (putA l z)) (fun _ => fr 59 [(12, .ptr (E.H0.length + 1) 0), (0, .v (altsV l))]) (fun x => E.H0 ++ [.box [.v (.str c.path), .v (.int .i64 c.prio), .v (strs c.slaves)], .box [.v (.str x.name), .v (.str x.link), .v (.bool x.manual), .v (.str x.cur), .v (slvs x.slaves), .v (chos x.choices)]]) ?_ ?_
  · cases hi : l.findIdx? (fun y => y.name == nm) with
    | none =>
      rw [hi] at hI
      rw [idx_none hi]
      refine sat_cond rfl (fun hb => ?_) (fun hb => ?_)
      · exact absurd hb (by decide)
      (refine W0 (c10 t9 t3 t4 t22 t26 t24 t46 t23 t44 t41) ?_; try with_reducible intro K hK)
      refine ⟨x, ⟨hax.1, hI⟩, ?_⟩
      refine Ent.rnd hE ?_ ?_ ?_ ?_
      · simp only [le, ↓reduceIte, Nat.reduceEqDiff, and_true]; repeat' (first | exact trivial | exact D.le_refl _ | exact D.le_any _ | with_reducible refine And.intro ?_ ?_)
      · simp [strs]
      · simp [ltAll, ltObs, Ob.lt, D.lt, D.ltL, or_imp, forall_and]
      · simp [ltAll, ltObs, Ob.lt, D.lt, D.ltL, or_imp, forall_and]
    | some i =>
      obtain ⟨hf, hil⟩ := idx_some hi
      obtain ⟨y, hy⟩ : ∃ y, l[i]? = some y := ⟨_, List.getElem?_eq_getElem hil⟩
      have hyin := hin y (List.mem_of_getElem? hy)
      rw [hi] at hI
      simp only [hy, Option.getD_some] at hI
      rw [hf]
      refine sat_cond rfl (fun hb => ?_) (fun hb => ?_)
      rotate_left
      · have := of_decide_eq_false hb; omega
      have hhc : choIn (headC x) := by
        have := hax.1.2.2.2.2.2.2 (headC x) (by rw [hax2]; exact List.mem_singleton_self _)
        exact ⟨this.1, this.2.2⟩
      have hhs : (headC x).slaves.length ≤ 1000000 := (hax.1.2.2.2.2.2.2 (headC x) (by rw [hax2]; exact List.mem_singleton_self _)).2.1
      have hji := join_in (c0 := headC x) hyin hax hhc
      have hcs : ∀ o ∈ y.choices, o.slaves.length ≤ 1099511627 := fun o ho => by have := (hyin.1.2.2.2.2.2.2 o ho).2.1; omega
      (refine Q0 (c10 t9 t3 t4 t22 t26 t24 t46 t23 t44 t41) ?_; try with_reducible intro K hK)
      refine vb (E.H0.length + 1) [.v (.str x.name), .v (.str x.link), .v (.bool x.manual), .v (.str x.cur), .v (slvs x.slaves), .v (chos x.choices)] hM (by rw [hp_get]; rfl) ?_
      repeat (first | refine wa ?_ | ((first | refine vl rfl rfl fun K hK => ?_ | refine vf rfl rfl fun K hK => ?_ | refine vg rfl rfl fun K hK => ?_); (simp only [lo, ld, ↓aop, ↓aCall, hP, hG, Nat.reduceLT, ↓reduceIte, Nat.reduceEqDiff, Nat.reduceAdd, Nat.reduceMul, Nat.reduceLeDiff, reduceCtorEq, D.cs, D.plain, fillD, chop, List.replicate, putB_get, altsV, altV, tk_9, ze_9, sz_9, tk_3, ze_3, sz_3, tk_4, ze_4, sz_4, tk_22, ze_22, sz_22, tk_26, ze_26, sz_26, kn_26, tk_24, ze_24, sz_24, tk_46, ze_46, sz_46, kn_46, tk_23, ze_23, sz_23, tk_44, ze_44, sz_44, tk_41, ze_41, sz_41, hil, hy]; repeat (with_reducible refine And.intro ?_ ?_; focus (first | decide | omega | (simp only [ln]; omega)))); try ((first | refine hK _ _ (by first | (rw [hp_get]; rfl) | exact hp_old (by assumption)) ?_ | refine hK _ _ ?_ | refine hK _ ?_); clear hK K; simp only [lp])) | (refine vk ?_; simp only [lt, ↓reduceIte, Nat.reduceEqDiff]))
      by_cases hj : okJ y x = true
      · rw [if_pos hj] at hI
        refine ⟨_, fun H => spec_joined y x (headC x) [] hax2 hyin.2.1 hax.2.1 hyin.2.2 (by omega) hcs _ _ (fun h => by rw [hj] at h; cases h) (fun _ => ⟨rfl, rfl⟩), hK _ ?_⟩
        clear hK K; simp only [lp]
        repeat (first | refine wa ?_ | ((first | refine vl rfl rfl fun K hK => ?_ | refine vf rfl rfl fun K hK => ?_ | refine vg rfl rfl fun K hK => ?_); (simp only [lo, ld, ↓aop, ↓aCall, hP, hG, Nat.reduceLT, ↓reduceIte, Nat.reduceEqDiff, Nat.reduceAdd, Nat.reduceMul, Nat.reduceLeDiff, reduceCtorEq, D.cs, D.plain, fillD, chop, List.replicate, putB_get, altd, tk_9, ze_9, sz_9, tk_3, ze_3, sz_3, tk_4, ze_4, sz_4, tk_22, ze_22, sz_22, tk_26, ze_26, sz_26, kn_26, tk_24, ze_24, sz_24, tk_46, ze_46, sz_46, kn_46, tk_23, ze_23, sz_23, tk_44, ze_44, sz_44, tk_41, ze_41, sz_41]; repeat (with_reducible refine And.intro ?_ ?_; focus (first | decide | omega | (simp only [ln]; omega)))); try ((first | refine hK _ _ (by first | (rw [hp_get]; rfl) | exact hp_old (by assumption)) ?_ | refine hK _ _ ?_ | refine hK _ ?_); clear hK K; simp only [lp])) | (refine vk ?_; simp only [lt, ↓reduceIte, Nat.reduceEqDiff]))
        (refine W0 (c10 t9 t3 t4 t22 t26 t24 t46 t23 t44 t41) ?_; try with_reducible intro K hK)
        refine sat_cond rfl (fun hb => ?_) (fun hb => ?_)
        · cases hb
        (refine W0 (c10 t9 t3 t4 t22 t26 t24 t46 t23 t44 t41) ?_; try with_reducible intro K hK)
        refine spec_settled (joinF y x (headC x)) (by omega) _ _ (hK _ _ ?_)
        clear hK K; simp only [lp]
        (refine W0 (c11 @altd.eq_def t9 t3 t4 t22 t26 t24 t46 t23 t44 t41) ?_; try with_reducible intro K hK)
        refine ⟨settA (joinF y x (headC x)), ⟨sett_mid hji.1, hI⟩, ?_⟩
        refine Ent.rnd hE ?_ ?_ ?_ ?_
        · simp only [le, ↓reduceIte, Nat.reduceEqDiff, and_true]; repeat' (first | exact trivial | exact D.le_refl _ | exact D.le_any _ | with_reducible refine And.intro ?_ ?_)
        · simp [strs]
        · simp [ltAll, ltObs, Ob.lt, D.lt, D.ltL, or_imp, forall_and]
        · simp [ltAll, ltObs, Ob.lt, D.lt, D.ltL, or_imp, forall_and]
      · have hj : okJ y x = false := by simpa using hj
        rw [if_neg (by rw [hj]; decide)] at hI
        refine ⟨_, fun H => spec_joined y x (headC x) [] hax2 hyin.2.1 hax.2.1 hyin.2.2 (by omega) hcs _ _ (fun _ => ⟨rfl, rfl⟩) (fun h => by rw [hj] at h; cases h), hK _ ?_⟩
        clear hK K; simp only [lp]
        repeat (first | refine wa ?_ | ((first | refine vl rfl rfl fun K hK => ?_ | refine vf rfl rfl fun K hK => ?_ | refine vg rfl rfl fun K hK => ?_); (simp only [lo, ld, ↓aop, ↓aCall, hP, hG, Nat.reduceLT, ↓reduceIte, Nat.reduceEqDiff, Nat.reduceAdd, Nat.reduceMul, Nat.reduceLeDiff, reduceCtorEq, D.cs, D.plain, fillD, chop, List.replicate, putB_get, altd, altZ, tk_9, ze_9, sz_9, tk_3, ze_3, sz_3, tk_4, ze_4, sz_4, tk_22, ze_22, sz_22, tk_26, ze_26, sz_26, kn_26, tk_24, ze_24, sz_24, tk_46, ze_46, sz_46, kn_46, tk_23, ze_23, sz_23, tk_44, ze_44, sz_44, tk_41, ze_41, sz_41]; repeat (with_reducible refine And.intro ?_ ?_; focus (first | decide | omega | (simp only [ln]; omega)))); try ((first | refine hK _ _ (by first | (rw [hp_get]; rfl) | exact hp_old (by assumption)) ?_ | refine hK _ _ ?_ | refine hK _ ?_); clear hK K; simp only [lp])) | (refine vk ?_; simp only [lt, ↓reduceIte, Nat.reduceEqDiff]))
        (refine W0 (c10 t9 t3 t4 t22 t26 t24 t46 t23 t44 t41) ?_; try with_reducible intro K hK)
        refine sat_cond rfl (fun hb => ?_) (fun hb => ?_)
        · (refine W0 (c10 t9 t3 t4 t22 t26 t24 t46 t23 t44 t41) ?_; try with_reducible intro K hK)
          exact hbad 20 _ _ hI rfl rfl
        · cases hb
  rintro z ⟨hzm, hzI⟩
  (refine W0 (c10 t9 t3 t4 t22 t26 t24 t46 t23 t44 t41) ?_; try with_reducible intro K hK)
  refine spec_Put l z (by omega) _ _ (hK _ _ ?_)
  clear hK K; simp only [lp]
  (refine W0 (c10 t9 t3 t4 t22 t26 t24 t46 t23 t44 t41) ?_; try with_reducible intro K hK)
  have hpl := put_len l z
  refine spec_Check (putA l z) m (by omega) (put_mid (fun y hy => (hin y hy).1) hzm) hG0 _ _ (hK _ _ ?_)
  clear hK K; simp only [lp]
  (refine W0 (c10 t9 t3 t4 t22 t26 t24 t46 t23 t44 t41) ?_; try with_reducible intro K hK)
  refine sat_cond rfl (fun hb => ?_) (fun hb => ?_)
  · have hb : checkI (putA l z) = 0 := by simpa using hb
    (refine W0 (c10 t9 t3 t4 t22 t26 t24 t46 t23 t44 t41) ?_; try with_reducible intro K hK)
    refine Fin.gc2 (.v (altsV (putA l z))) (.v (.int .i64 0)) hE (by decide) (by decide) (by decide) rfl rfl (by simp only [D.lt]) (by simp only [D.lt]) ?_
    rw [hzI, finI, if_pos hb] at hK
    exact hK
  have hb : ¬ checkI (putA l z) = 0 := by simpa using hb
  rw [finI, if_neg hb] at hzI
  (refine W0 (c10 t9 t3 t4 t22 t26 t24 t46 t23 t44 t41) ?_; try with_reducible intro K hK)
  refine sat_cond rfl (fun hb2 => ?_) (fun hb2 => ?_)
  · have hb2 : checkI (putA l z) = 22 := by simpa using hb2
    rw [if_pos hb2] at hzI
    (refine W0 (c10 t9 t3 t4 t22 t26 t24 t46 t23 t44 t41) ?_; try with_reducible intro K hK)
    exact hbad 22 _ _ hzI rfl rfl
  · have hb2 : ¬ checkI (putA l z) = 22 := by simpa using hb2
    rw [if_neg hb2] at hzI
    (refine W0 (c10 t9 t3 t4 t22 t26 t24 t46 t23 t44 t41) ?_; try with_reducible intro K hK)
    exact hbad 20 _ _ hzI rfl rfl
end Go.Ag
namespace Go.Ag
open Go Go.Proofs
variable {G : Nat → Option (List V)}
attribute [local irreducible] aops qops Sat aop

theorem check1 {x : Alt} (h : rightP x = true) (hn : (things x).Nodup) : checkI [x] = 0 := by
  have h1 : okTo [x] [x].length := by
    refine ⟨fun j hj => ?_, ?_⟩
    · obtain rfl : j = 0 := by simp at hj; exact hj
      show badAt [x] 0 x = false
      simp [badAt, h]
    · simpa [thsTo] using hn
  rw [checkI, if_neg (show ¬ [x].length > 64 from (by decide : ¬ 1 > 64)), if_pos h1]
def wX : Str := [120]
def wL : Str := [47, 120]
def wA : Str := [47, 97]
def wB : Str := [47, 98]
def wCA : Cho := ⟨wA, 5, []⟩
def wCB : Cho := ⟨wB, 9, []⟩
def w1 : Alt := ⟨wX, wL, false, wA, [], [wCA]⟩
def w2 : Alt := ⟨wX, wL, false, wB, [], [wCB]⟩
def w3 : Alt := ⟨wX, wL, false, wB, [], [wCA, wCB]⟩
def w4 : Alt := ⟨wX, wL, true, wA, [], [wCA, wCB]⟩
theorem stab_nil {α : Type} (c : α → α → Int) : stab c [] = [] := stab_few c [] (show 0 < 20 by decide)
theorem alone_none (nm lk : Str) (c : Cho) : aloneF nm lk c [] = ⟨nm, lk, false, c.path, [], [⟨c.path, c.prio, []⟩]⟩ := by
  rw [aloneF, show prs [] c.slaves = [] from rfl, stab_nil]; rfl
theorem w1_right : rightP w1 = true := by kernel_rfl
theorem w2_right : rightP w2 = true := by kernel_rfl
theorem w3_right : rightP w3 = true := by kernel_rfl
theorem w1_inst : instF [] wX wL wCA [] = ([w1], 0) := by
  have e : aloneF wX wL wCA [] = w1 := alone_none _ _ _
  rw [instF, if_pos (show wCA.slaves.length = ([] : List Slv).length from rfl), e, if_pos w1_right]
  show finI (putA [] w1) = _
  have : putA [] w1 = [w1] := rfl
  rw [this, finI, if_pos (check1 w1_right (by decide))]
theorem w12_join : joinF w1 w2 (headC w2) = { w3 with cur := wA } := by
  have h1 : joinS w1 w2 = [] := by rw [joinS, show allJ w1 w2 = [] from rfl, stab_nil]
  have h2 : outJ w1 (sprA (headC w2) w2.slaves []) [] = [wCB, wCA] := by rfl
  have h3 : stab (fun a b : Cho => Lib.compareBytes a.path b.path) [wCB, wCA] = [wCA, wCB] := by
    rw [stab_few _ [wCB, wCA] (show 2 < 20 by decide)]; rfl
  rw [joinF, h1, h2, h3]; rfl
theorem w2_inst : instF [w1] wX wL wCB [] = ([w3], 0) := by
  have e : aloneF wX wL wCB [] = w2 := alone_none _ _ _
  rw [instF, if_pos (show wCB.slaves.length = ([] : List Slv).length from rfl), e, if_pos w2_right]
  show (if okJ w1 w2 = true then finI (putA [w1] (settA (joinF w1 w2 (headC w2)))) else ([], 20)) = _
  rw [if_pos (by decide), w12_join]
  have : putA [w1] (settA { w3 with cur := wA }) = [w3] := by rfl
  rw [this, finI, if_pos (check1 w3_right (by decide))]
theorem w3_set : setF [w3] wX wA = ([w4], 0) := by rfl
theorem w4_rem : remF [w4] wX wA = ([w2], 0) := by rfl
theorem w2_targ : targA w2 wX = wB := by rfl
theorem inst_nil {nm lk : Str} {c : Cho} {m : Int} (h1 : nm.length ≤ 1000000) (h2 : lk.length ≤ 1000000) (h3 : choIn c) (h3s : c.slaves.length ≤ 1000000) (l : List Alt) (hl : l.length ≤ 900000) (hin : ∀ y ∈ l, altIn y) (hG0 : G 0 = some [.int .i64 m]) (H : List Ob) (K : D → List Ob → Prop) (d : D) (hd : D.le d (.v (altsV l)))
    (hK : K (.tup [.v (altsV (instF l nm lk c []).1), .v (.int .i64 (instF l nm lk c []).2)]) H) : ACalls Tryz.prog G 38 [d, .v (.str nm), .v (.str lk), choD c, .nils] H K :=
  ACalls.ent (fun E => Ent.weak (ts := [d, .v (.str nm), .v (.str lk), choD c, .nils]) (ts' := [.v (altsV l), .v (.str nm), .v (.str lk), choD c, .v (slvs [])]) ⟨hd, D.le_refl _, D.le_refl _, D.le_refl _, D.le_nils 2, trivial⟩)
    (spec_Install l nm lk c [] m hl hin h1 h2 h3 h3s (Nat.zero_le _) (fun s hs => by cases hs) hG0 H K hK)
theorem w1_in : ∀ y ∈ [w1], altIn y := fun y hy => by
  obtain rfl := List.mem_singleton.1 hy
  refine ⟨⟨by decide, by decide, by decide, by decide, by decide, by decide, ?_⟩, by decide, by decide⟩
  intro c hc
  obtain rfl := List.mem_singleton.1 hc
  decide
set_option maxRecDepth 20000 in
set_option maxHeartbeats 16000000 in
theorem spec_awake17 (m : Int) (hG0 : G 0 = some [.int .i64 m]) (H : List Ob) (K : D → List Ob → Prop) (hK : K (.v (.bool true)) H) : ACalls Tryz.prog G 18 [] H K := by
  refine ACalls.go Tryz.f18 _ 97 [0] Tryz.func18 rfl Tryz.ntmps18 (by kernel_rfl) rfl (by simp) (fun E hE hP hG hH => ?_)
  have hM : E.P.follows .mixedOrders = true := hP ▸ mixed
  subst hH
  simp only [args0]
  (refine W0 (c10 t9 t3 t4 t22 t26 t24 t46 t23 t44 t41) ?_; try with_reducible intro K hK)
  have hcA : choIn wCA := ⟨by decide, fun t ht => by cases ht⟩
  have hcB : choIn wCB := ⟨by decide, fun t ht => by cases ht⟩
  refine spec_choice wA 5 _ _ (hK _ _ ?_)
  clear hK K; simp only [lp]
  (refine W0 (c10 t9 t3 t4 t22 t26 t24 t46 t23 t44 t41) ?_; try with_reducible intro K hK)
  refine inst_nil (nm := wX) (lk := wL) (c := wCA) (m := m) (by decide) (by decide) hcA (by decide) [] (by decide) (fun y hy => by cases hy) hG0 _ _ .nils (D.le_nils 6) (hK _ _ ?_)
  clear hK K; simp only [lp]
  rw [w1_inst]
  (refine W0 (c10 t9 t3 t4 t22 t26 t24 t46 t23 t44 t41) ?_; try with_reducible intro K hK)
  refine spec_choice wB 9 _ _ (hK _ _ ?_)
  clear hK K; simp only [lp]
  (refine W0 (c10 t9 t3 t4 t22 t26 t24 t46 t23 t44 t41) ?_; try with_reducible intro K hK)
  refine inst_nil (nm := wX) (lk := wL) (c := wCB) (m := m) (by decide) (by decide) hcB (by decide) [w1] (by decide) w1_in hG0 _ _ _ (D.le_refl _) (hK _ _ ?_)
  clear hK K; simp only [lp]
  rw [w2_inst]
  (refine W0 (c10 t9 t3 t4 t22 t26 t24 t46 t23 t44 t41) ?_; try with_reducible intro K hK)
  refine spec_Set [w3] wX wA (by decide) (fun y hy => by obtain rfl := List.mem_singleton.1 hy; decide) _ _ (hK _ _ ?_)
  clear hK K; simp only [lp]
  rw [w3_set]
  (refine W0 (c10 t9 t3 t4 t22 t26 t24 t46 t23 t44 t41) ?_; try with_reducible intro K hK)
  refine spec_Remove [w4] wX wA (by decide) (fun y hy => by obtain rfl := List.mem_singleton.1 hy; decide) _ _ (hK _ _ ?_)
  clear hK K; simp only [lp]
  rw [w4_rem]
  (refine Q0 (c10 t9 t3 t4 t22 t26 t24 t46 t23 t44 t41) ?_; try with_reducible intro K hK)
  refine sat_ent (.weakFr (l' := [(1, .v (altsV [w3])), (2, .v (.int .i64 0)), (3, .v (.int .i64 0)), (4, .v (altsV [w4])), (5, .v (.int .i64 0)), (6, .v (altsV [w2])), (7, .v (.int .i64 0)), (0, .v (.bool false))]) ?_) ?_
  · simp only [le, ↓reduceIte, Nat.reduceEqDiff, and_true]; repeat' (first | exact trivial | exact D.le_refl _ | exact D.le_any _ | with_reducible refine And.intro ?_ ?_)
  have z0 : ((0 : Int) == 0) = true := rfl
  have z1 : (((1 : Nat) : Int) == 1) = true := rfl
  have hg0 : ∀ (X : List V), (([X] : List (List V))[Int.toNat 0]?).getD [] = X := fun _ => rfl
  have z2 : (wB == ([47, 98] : List UInt8)) = true := by decide
  have z3 : (wA == ([47, 97] : List UInt8)) = true := by decide
  (first | refine wr ?_ | refine wp rfl hM ?_ | refine wq hM ?_); repeat' (first | (refine G0 (c14 @altsV.eq_def t9 t3 t4 t22 t26 t24 t46 t23 t44 t41 @z0 @z1 @Bool.not_true) ?_; try with_reducible intro K hK) | ((first | refine Xs rfl rfl (by decide) rfl (fun h => ?_) fun h => ?_ | refine Ys rfl rfl (by decide) rfl (fun h => ?_) fun h => ?_ | refine Zs rfl rfl rfl (by decide) rfl (fun h => ?_) fun h => ?_); rotate_left; (focus (simp only [Bool.not_true, Bool.not_false, lp])); rotate_left))
  refine sat_cond rfl (fun hb => ?_) (fun hb => ?_)
  · cases hb
  refine sat_skip ?_
  repeat (first | ((first | refine wi ?_ | refine wj ?_ | refine wk ?_ | refine wl ?_ | refine wm ?_ | refine wn ?_); simp only [lt, ↓reduceIte, Nat.reduceEqDiff]) | refine wo ?_)
  repeat refine wa ?_
  (first | refine wr ?_ | refine wp rfl hM ?_ | refine wq hM ?_); repeat' (first | (refine G0 (c19 @altsV.eq_def @altV.eq_def @w2.eq_def @w3.eq_def @w4.eq_def t9 t3 t4 t22 t26 t24 t46 t23 t44 t41 @hg0 @z2 @z3 @Bool.not_false) ?_; try with_reducible intro K hK) | ((first | refine Xs rfl rfl (by decide) rfl (fun h => ?_) fun h => ?_ | refine Ys rfl rfl (by decide) rfl (fun h => ?_) fun h => ?_ | refine Zs rfl rfl rfl (by decide) rfl (fun h => ?_) fun h => ?_); rotate_left; (focus (simp only [Bool.not_true, Bool.not_false, lp])); rotate_left))
  refine spec_Target w2 wX (by decide) (by decide) _ _ (hK _ _ ?_)
  clear hK K; simp only [lp]
  rw [w2_targ]
  repeat' (first | (refine G0 (c11 t9 t3 t4 t22 t26 t24 t46 t23 t44 t41 @z2) ?_; try with_reducible intro K hK) | ((first | refine Xs rfl rfl (by decide) rfl (fun h => ?_) fun h => ?_ | refine Ys rfl rfl (by decide) rfl (fun h => ?_) fun h => ?_ | refine Zs rfl rfl rfl (by decide) rfl (fun h => ?_) fun h => ?_); rotate_left; (focus (simp only [Bool.not_true, Bool.not_false, lp])); rotate_left))
  (refine W0 trivial ?_; try with_reducible intro K hK)
  exact Fin.is (.v (.bool true)) (by decide) rfl hK
/-! ### the law -/
set_option maxRecDepth 20000 in
set_option maxHeartbeats 16000000 in
theorem spec_ChooseTargets (x : Alt) (p : Str) (m : Int) (hG0 : G 0 = some [.int .i64 m]) (H : List Ob) (K : D → List Ob → Prop) (hK : K (.v (.bool true)) H) : ACalls Tryz.prog G 4 [altd x, .v (.str p)] H K := by
  refine ACalls.go Tryz.f4 _ 50 [4] Tryz.func4 rfl Tryz.ntmps4 (by kernel_rfl) rfl (by simp) (fun E hE hP hG hH => ?_)
  have hM : E.P.follows .mixedOrders = true := hP ▸ mixed
  subst hH
  have e0 : altd x = .agg ((altV x).map .v) := rfl
  simp only [args0, e0]
  (refine W0 (c10 @altV.eq_def t9 t3 t4 t22 t26 t24 t46 t23 t37) ?_; try with_reducible intro K hK)
  (first | refine wr ?_ | refine wp rfl hM ?_ | refine wq hM ?_); repeat' (first | (refine G0 (c9 t9 t3 t4 t22 t26 t24 t46 t23 t37) ?_; try with_reducible intro K hK) | ((first | refine Xs rfl rfl (by decide) rfl (fun h => ?_) fun h => ?_ | refine Ys rfl rfl (by decide) rfl (fun h => ?_) fun h => ?_ | refine Zs rfl rfl rfl (by decide) rfl (fun h => ?_) fun h => ?_); rotate_left; (focus (simp only [Bool.not_true, Bool.not_false, lp])); rotate_left))
  refine ACalls.pub (E.H0.length + 1) [altV x] (by rw [hp_get]; rfl) (by simp) (by simp) (spec_FewA [x] (by simp) _ _ (fun b hb => hK _ _ ?_))
  clear hK K; simp only [lp]
  rw [hp_set]
  simp only [List.set_cons_succ, List.set_cons_zero]
  have haw : ∀ (ts : List (Nat × D)) (L : List Ob), look ts 4 = .v (.bool true) → Fin E (fr 50 ts) (E.H0 ++ L) [4] K := fun ts L h => Fin.gc (.v (.bool true)) hE (by decide) h (by simp only [D.lt]) hK
  cases b with
  | false =>
    repeat' (first | (refine G0 (c10 t9 t3 t4 t22 t26 t24 t46 t23 t37 @Bool.not_false) ?_; try with_reducible intro K hK) | ((first | refine Xs rfl rfl (by decide) rfl (fun h => ?_) fun h => ?_ | refine Ys rfl rfl (by decide) rfl (fun h => ?_) fun h => ?_ | refine Zs rfl rfl rfl (by decide) rfl (fun h => ?_) fun h => ?_); rotate_left; (focus (simp only [Bool.not_true, Bool.not_false, lp])); rotate_left))
    refine sat_cond rfl (fun hc => ?_) (fun hc => ?_)
    · (refine W0 (c9 t9 t3 t4 t22 t26 t24 t46 t23 t37) ?_; try with_reducible intro K hK)
      refine spec_awake17 m hG0 _ _ (hK _ _ ?_)
      clear hK K; simp only [lp]
      (refine W0 (c9 t9 t3 t4 t22 t26 t24 t46 t23 t37) ?_; try with_reducible intro K hK)
      exact haw _ _ rfl
    · cases hc
  | true =>
    have hs : altSmall x := (hb rfl).2 x (by simp)
    obtain ⟨_, _, _, hs4, hs5, _, _⟩ := hs
    repeat' (first | (refine G0 (c10 t9 t3 t4 t22 t26 t24 t46 t23 t37 @Bool.not_true) ?_; try with_reducible intro K hK) | ((first | refine Xs rfl rfl (by decide) rfl (fun h => ?_) fun h => ?_ | refine Ys rfl rfl (by decide) rfl (fun h => ?_) fun h => ?_ | refine Zs rfl rfl rfl (by decide) rfl (fun h => ?_) fun h => ?_); rotate_left; (focus (simp only [Bool.not_true, Bool.not_false, lp])); rotate_left))
    refine sat_cond rfl (fun hc => ?_) (fun hc => ?_)
    · (refine W0 (c9 t9 t3 t4 t22 t26 t24 t46 t23 t37) ?_; try with_reducible intro K hK)
      refine spec_awake17 m hG0 _ _ (hK _ _ ?_)
      clear hK K; simp only [lp]
      (refine W0 (c9 t9 t3 t4 t22 t26 t24 t46 t23 t37) ?_; try with_reducible intro K hK)
      exact haw _ _ rfl
    (refine W0 (c9 t9 t3 t4 t22 t26 t24 t46 t23 t37) ?_; try with_reducible intro K hK)
    refine sat_loop_ent (fun n ts H => ∃ (i : Nat), n = x.slaves.length - i ∧ i ≤ x.slaves.length ∧
      ts = fr 50 [(5, .v (.int .i64 i)), (2, .ptr E.H0.length 0), (1, .v (.str p))] ∧ H = E.H0 ++ [.box [.v (.str x.name), .v (.str x.link), .v (.bool x.manual), .v (.str x.cur), .v (slvs x.slaves), .v (chos x.choices)]]) (x.slaves.length) ?_ ⟨0, rfl, Nat.zero_le _, rfl, rfl⟩ ?_
    · refine Ent.rnd hE ?_ ?_ ?_ ?_
      · simp only [le, ↓reduceIte, Nat.reduceEqDiff, and_true]; repeat' (first | exact trivial | exact D.le_refl _ | exact D.le_any _ | with_reducible refine And.intro ?_ ?_)
      · simp
      · simp [ltAll, ltObs, Ob.lt, D.lt, D.ltL, or_imp, forall_and]
      · simp [ltAll, ltObs, Ob.lt, D.lt, D.ltL, or_imp, forall_and]
    rintro n ts H ⟨i, rfl, hi, rfl, rfl⟩
    (refine W0 (c10 @slvs.eq_def t9 t3 t4 t22 t26 t24 t46 t23 t37) ?_; try with_reducible intro K hK)
    refine sat_cond rfl (fun hd => ?_) (fun hd => ?_)
    · simp at hd
      obtain ⟨s, hss⟩ : ∃ s, x.slaves[i]? = some s := ⟨_, List.getElem?_eq_getElem hd⟩
      have hw := wrap_succ (i := i) (by omega)
      (refine W0 (c12 @slvs.eq_def t9 t3 t4 t22 t26 t24 t46 t23 t37 @hss @hd) ?_; try with_reducible intro K hK)
      refine ⟨_, spec_Target x s.name (by omega) (by omega) _ _ ⟨rfl, rfl⟩, hK _ ?_⟩
      clear hK K; simp only [lp]
      (refine W0 (c12 @slvs.eq_def t9 t3 t4 t22 t26 t24 t46 t23 t37 @hss @hd) ?_; try with_reducible intro K hK)
      refine ⟨_, spec_rTarget x s.name (by omega) (by omega) _ _ ⟨rfl, rfl⟩, hK _ ?_⟩
      clear hK K; simp only [lp]
      (refine W0 (c10 t9 t3 t4 t22 t26 t24 t46 t23 t37 @bne_self_eq_false.{0}) ?_; try with_reducible intro K hK)
      refine sat_cond rfl (fun hq => ?_) (fun hq => ?_)
      · exact absurd hq (by simp)
      (refine W0 (c10 t9 t3 t4 t22 t26 t24 t46 t23 t37 @hw) ?_; try with_reducible intro K hK)
      refine ⟨x.slaves.length - (i + 1), _, _, by omega, ?_, i + 1, rfl, by omega, rfl, rfl⟩
      refine Ent.rnd hE ?_ ?_ ?_ ?_
      · simp only [le, ↓reduceIte, Nat.reduceEqDiff, and_true]; repeat' (first | exact trivial | exact D.le_refl _ | exact D.le_any _ | with_reducible refine And.intro ?_ ?_)
      · simp [slvs]
      · simp [ltAll, ltObs, Ob.lt, D.lt, D.ltL, or_imp, forall_and]
      · simp [ltAll, ltObs, Ob.lt, D.lt, D.ltL, or_imp, forall_and]
    · (refine W0 (c9 t9 t3 t4 t22 t26 t24 t46 t23 t37) ?_; try with_reducible intro K hK)
      (first | refine wr ?_ | refine wp rfl hM ?_ | refine wq hM ?_); repeat' (first | (refine G0 (c10 @slvs.eq_def t9 t3 t4 t22 t26 t24 t46 t23 t37) ?_; try with_reducible intro K hK) | ((first | refine Xs rfl rfl (by decide) rfl (fun h => ?_) fun h => ?_ | refine Ys rfl rfl (by decide) rfl (fun h => ?_) fun h => ?_ | refine Zs rfl rfl rfl (by decide) rfl (fun h => ?_) fun h => ?_); rotate_left; (focus (simp only [Bool.not_true, Bool.not_false, lp])); rotate_left))
      refine ⟨_, spec_Target x p (by omega) (by omega) _ _ ⟨rfl, rfl⟩, hK _ ?_⟩
      clear hK K; simp only [lp]
      repeat' (first | (refine G0 (c9 t9 t3 t4 t22 t26 t24 t46 t23 t37) ?_; try with_reducible intro K hK) | ((first | refine Xs rfl rfl (by decide) rfl (fun h => ?_) fun h => ?_ | refine Ys rfl rfl (by decide) rfl (fun h => ?_) fun h => ?_ | refine Zs rfl rfl rfl (by decide) rfl (fun h => ?_) fun h => ?_); rotate_left; (focus (simp only [Bool.not_true, Bool.not_false, lp])); rotate_left))
      refine ⟨_, spec_rTarget x p (by omega) (by omega) _ _ ⟨rfl, rfl⟩, hK _ ?_⟩
      clear hK K; simp only [lp]
      have hbeq : (targA x p == targA x p) = true := by simp
      repeat' (first | (refine G0 (c10 t9 t3 t4 t22 t26 t24 t46 t23 t37 @hbeq) ?_; try with_reducible intro K hK) | ((first | refine Xs rfl rfl (by decide) rfl (fun h => ?_) fun h => ?_ | refine Ys rfl rfl (by decide) rfl (fun h => ?_) fun h => ?_ | refine Zs rfl rfl rfl (by decide) rfl (fun h => ?_) fun h => ?_); rotate_left; (focus (simp only [Bool.not_true, Bool.not_false, lp])); rotate_left))
      refine ⟨_, spec_awake17 m hG0 _ _ ⟨rfl, rfl⟩, hK _ ?_⟩
      clear hK K; simp only [lp]
      repeat' (first | (refine G0 (c9 t9 t3 t4 t22 t26 t24 t46 t23 t37) ?_; try with_reducible intro K hK) | ((first | refine Xs rfl rfl (by decide) rfl (fun h => ?_) fun h => ?_ | refine Ys rfl rfl (by decide) rfl (fun h => ?_) fun h => ?_ | refine Zs rfl rfl rfl (by decide) rfl (fun h => ?_) fun h => ?_); rotate_left; (focus (simp only [Bool.not_true, Bool.not_false, lp])); rotate_left))
      (refine W0 (c9 t9 t3 t4 t22 t26 t24 t46 t23 t37) ?_; try with_reducible intro K hK)
      exact haw _ _ rfl
end Go.Ag
/- AGo, part 37: an array in another one's row, told by value. -/
namespace Go.Ag
open Go Go.RowKit

theorem convL_len {b ver sz : Nat} {ys : List (List V)} : ∀ {ds : List D}, (D.convL b ver sz ys ds).length = ds.length
  | [] => by simp only [D.convL]
  | d :: ds => by simp only [D.convL, List.length_cons, convL_len (ds := ds)]
theorem Ent.pubArr {E : Env} {ts : List D} {H : List Ob} (b k : Nat) {ver sz esc ver2 sz2 esc2 : Nat} {xs : List (List D)} (ys : List (List V)) (hb : H[b]? = some (.arr ver sz (ys.map (·.map .v)) esc)) (hk : H[k]? = some (.arr ver2 sz2 xs esc2)) (hbk : b ≠ k) (he : esc ≤ ys.length) :
    Ent E ts H (D.convL b ver sz ys ts) ((H.set b (.arr ver sz (ys.map (·.map .v)) ys.length)).set k (.arr ver2 sz2 (xs.map (D.convL b ver sz ys)) esc2)) := by
  intro M μ w vs h1 h2 h3 h4
  obtain ⟨p, hp⟩ := h3.tot b (List.getElem?_eq_some_iff.1 hb).1
  obtain ⟨M', g1, g2, vs', g3, g4, g5⟩ := h3.publish hb hp (by simpa using he)
  have hver := (h3.obj b _ p hb hp).2.1
  rw [List.length_map] at g2 g4 g5
  have hr := rows_of_pub g3 g4 g5
  refine ⟨M', μ, h1.trans g1, h2, g2.reOb (o := .arr ver2 sz2 xs esc2) (by rw [List.getElem?_set_ne hbk]; exact hk) (by simp) (fun q hq ho => ?_), RelL.conv hp hver hr (RelL.mono g1 (.refl _) h4)⟩
  obtain ⟨a1, a2, a3, a4, a5, ws, t, a6, a7, a8⟩ := ho
  refine ⟨a1, a2, a3, a4, by rw [List.length_map]; exact a5, ws, t, a6, a7, fun i y hy => ?_⟩
  rw [List.getElem?_map, Option.map_eq_some_iff] at hy
  obtain ⟨x, hx, rfl⟩ := hy
  obtain ⟨b1, b2⟩ := a8 i x hx
  exact ⟨by rw [convL_len]; exact b1, RelL.conv hp hver hr b2⟩
/-- What all that changes the heap waits for, of any kind. -/
theorem ya {E : Env} {os : List Oper} {ts : List D} {H : List Ob} {Q : List D → List Ob → Prop} {o : Oper} {k : Nat} {all : Array Oper} (hv : heavyB o = false) (hg : o.guard = none) (hs : stayL .any all k os = true) (h : ∀ K : D → Prop, (∀ d, yops E .any all (k + 1) os (putD ts o.dst d) H Q → K d) → Ex (fun d => aop E o ts H fun d' H' => d' = d ∧ H' = H) K) : yops E .any all k (o :: os) ts H Q := by
  unfold yops
  rw [hv]
  obtain ⟨d, h1, h2⟩ := h _ fun _ h => h
  exact ⟨hg, d, fun H' e => by rw [e hs]; exact h1, h2⟩
/-- Calls. -/
def lookC (o : Oper) : Bool := match o.op with
  | .call c => match c.callee with
    | .value _ => true
    | _ => false
  | _ => false
theorem yy {E : Env} {os : List Oper} {ts : List D} {H : List Ob} {Q : List D → List Ob → Prop} {o : Oper} {k : Nat} {all : Array Oper} (_ : lookC o = true) (hv : heavyB o = false) (hg : o.guard = none) (hs : stayL .any all k os = true) (h : ∀ K : D → Prop, (∀ d, yops E .any all (k + 1) os (putD ts o.dst d) H Q → K d) → Ex (fun d => aop E o ts H fun d' H' => d' = d ∧ H' = H) K) : yops E .any all k (o :: os) ts H Q := ya hv hg hs h
theorem T0 {U R G : Prop} (u : U) (k : R) (h : U → Bx R → G := by intro u k; (try with_reducible intro K hK); (repeat (first | refine wa ?_ | (((refine yy rfl rfl rfl ?_ fun K hK => ?_); (focus (kernel_rfl; done))); (simp only [lo, ld, ↓aop, ↓aCall, hP, hG, Nat.reduceLT, ↓reduceIte, Nat.reduceEqDiff, Nat.reduceAdd, Nat.reduceMul, Nat.reduceLeDiff, reduceCtorEq, D.cs, D.plain, fillD, chop, List.replicate, u]; repeat (with_reducible refine And.intro ?_ ?_; focus (first | decide | omega | (simp only [ln]; omega)))); try ((first | refine hK _ _ ?_ | refine hK _ ?_); clear hK K; simp only [lp])) | ((first | refine yg rfl rfl fun K hK => ?_ | refine yh rfl rfl fun K hK => ?_); (simp only [lo, ld, ↓aop, ↓aCall, hP, hG, Nat.reduceLT, ↓reduceIte, Nat.reduceEqDiff, Nat.reduceAdd, Nat.reduceMul, Nat.reduceLeDiff, reduceCtorEq, D.cs, D.plain, fillD, chop, List.replicate, u]; repeat (with_reducible refine And.intro ?_ ?_; focus (first | decide | omega | (simp only [ln]; omega)))); try ((first | refine hK _ _ ?_ | refine hK _ ?_); clear hK K; simp only [lp])) | (refine yk ?_; simp only [lt, ↓reduceIte, Nat.reduceEqDiff]))); first | exact k.out | (revert hK; revert K; exact k.out)) : G := h u ⟨k⟩
end Go.Ag
/- AGo, part 38: regions that draw their order, where what changes the heap waits for what loads, and whose end comes in one order. -/
namespace Go.Ag
open Go Go.RowKit

section
variable {E : Env} {all : Array Oper} {md : Region.Mode}

/-- Each operation to come that changes the heap waits for operation i. -/
def stayT (md : Region.Mode) (all : Array Oper) (n : Nat) (listed : Array Bool) (i : Nat) : Bool :=
  (List.range n).all fun k => listed.getD k true || (match all[k]? with
    | some o => !heavyB o || waitB md all o i
    | none => true)
theorem stayT_iff {n : Nat} {listed : Array Bool} {i : Nat} : stayT md all n listed i = true ↔ ∀ k o, k < n → all[k]? = some o → listed.getD k true = false → heavyB o = true → waitB md all o i = true := by
  simp only [stayT, List.all_eq_true, List.mem_range]
  constructor
  · intro h k o hkn ho hk hv
    have h1 := h k hkn
    simp only [ho, hk, hv, Bool.false_or, Bool.not_true] at h1
    exact h1
  · intro h k hk
    cases hl : listed.getD k true with
    | true => rfl
    | false =>
      cases ho : all[k]? with
      | none => rfl
      | some o =>
        simp only [Bool.false_or]
        cases hv : heavyB o with
        | false => rfl
        | true => simp only [Bool.not_true, Bool.false_or]; exact h k o hk ho hl hv
theorem stayT_mono {n : Nat} {listed : Array Bool} {i j : Nat} (h : stayT md all n listed i = true) : stayT md all n (listed.setIfInBounds j true) i = true :=
  stayT_iff.2 fun k o hn ho hk hv => stayT_iff.1 h k o hn ho (listed_mono hk) hv
theorem stayT_light {n : Nat} {listed : Array Bool} {i j : Nat} {oi : Oper} (hi : all[i]? = some oi) (hl : heavyB oi = false) : stayT md all n (listed.setIfInBounds i true) j = stayT md all n listed j := by
  refine Bool.eq_iff_iff.2 ⟨fun h => stayT_iff.2 fun k o hn ho hk hv => ?_, stayT_mono⟩
  by_cases e : i = k
  · subst e; rw [hi] at ho; cases ho; rw [hl] at hv; cases hv
  · exact stayT_iff.1 h k o hn ho (by rw [getD_set_ne true e]; exact hk) hv
def SyT (md : Region.Mode) (all : Array Oper) (n : Nat) (listed : Array Bool) (i : Nat) (H H' : List Ob) : Prop := stayT md all n listed i = true → H' = H
def yOpT (E : Env) (md : Region.Mode) (all : Array Oper) (n : Nat) (listed : Array Bool) (i : Nat) (K : List D → List Ob → Prop) (ts : List D) (H : List Ob) : Prop :=
  match all[i]? with
  | none => K ts H
  | some o => if heavyB o then o.guard = none ∧ aop E o ts H fun d H' => K (putD ts o.dst d) H' else ∃ d, Yf E (SyT md all n listed i H) all o d ts ∧ K (putD ts o.dst d) H
theorem yOpT_mono {n : Nat} {listed : Array Bool} {i : Nat} {K K' : List D → List Ob → Prop} {ts : List D} {H : List Ob} (h : ∀ ts H, K ts H → K' ts H) (hh : yOpT E md all n listed i K ts H) : yOpT E md all n listed i K' ts H := by
  unfold yOpT at *
  split
  · rename_i ho; simp only [ho] at hh; exact h _ _ hh
  · rename_i o ho
    simp only [ho] at hh
    split
    · rename_i hv
      rw [if_pos hv] at hh
      exact ⟨hh.1, aop_mono (fun d H1 k => h _ _ k) hh.2⟩
    · rename_i hv
      rw [if_neg hv] at hh
      obtain ⟨d, h1, h2⟩ := hh
      exact ⟨d, h1, h _ _ h2⟩
theorem wpOp_of_yT {n : Nat} {M : Mem} {μ : Mu} {H : List Ob} {w : World} {a : Act} {ts : List D} {listed : Array Bool} {i : Nat} {K : List D → List Ob → Prop} {next : Act → World → Prop} {Qx : Exit → Act → World → Prop}
    (h : R E M μ H w) (ht : RelL M μ ts a.tmps.toList) (hd : a.defers = []) (hq : yOpT E md all n listed i K ts H)
    (hn : ∀ M' μ' ts' H' w' a', M.le M' → μ.le μ' → R E M' μ' H' w' → RelL M' μ' ts' a'.tmps.toList → a'.defers = [] → K ts' H' → next a' w') : wpOp E.P all Qx i next a w := by
  unfold yOpT at hq
  cases ho : all[i]? with
  | none =>
    simp only [ho] at hq
    unfold wpOp; simp only [ho]
    exact hn M μ ts H w a (.refl _) (.refl _) h ht hd hq
  | some o =>
    simp only [ho] at hq
    split at hq
    · obtain ⟨hg, hq⟩ := hq
      unfold wpOp; simp only [ho]
      simp only [Region.wanted, hg, if_true]
      exact .inl (aop_sound h ht hq fun d v M' μ' H' w' h1 h2 h3 h4 h5 => hn M' μ' _ H' w' _ h1 h2 h3 (rel_put (RelL.mono h1 h2 ht) o.dst h4) (by rw [put_defers]; exact hd) h5)
    · obtain ⟨d, hy, hk⟩ := hq
      refine wpOp_of_q (K := fun ts' => K ts' H) h ht hd ?_ (fun M' μ' ts' w' a' h1 h2 h3 h4 h5 hk => hn M' μ' ts' H w' a' h1 h2 h3 h4 h5 hk)
      unfold qOp
      simp only [ho]
      exact ⟨d, hy.yd (fun _ => rfl), hk⟩
theorem yOpT_put {n : Nat} {listed : Array Bool} {i j : Nat} {oi oj : Oper} {v : D} (hj : all[j]? = some oj) (hap : oi.apart all oj = true) (hst : heavyB oj = true → stayT md all n listed i = false) {K : List D → List Ob → Prop} {ts : List D} {H : List Ob} (hy : Yf E (SyT md all n listed i H) all oi v ts) (h : yOpT E md all n listed j K (putD ts oi.dst v) H) :
    yOpT E md all n listed j (fun ts' H' => Yf E (SyT md all n (listed.setIfInBounds j true) i H') all oi v ts' ∧ K (putD ts' oi.dst v) H') ts H := by
  obtain ⟨h1, h2, h3⟩ := Oper.apart_spec hap
  unfold yOpT at *
  simp only [hj] at *
  split
  · rename_i hv
    rw [if_pos hv] at h
    refine ⟨h.1, ?_⟩
    have h0 : ∀ s, oi.dst = some s → ∀ x ∈ oj.op.operands.toList, x ≠ .tmp s := fun s hs x hx ex => by
      refine h1 s hs ?_
      subst ex
      simp only [Oper.looksAt, List.mem_append, List.mem_filterMap]
      exact .inl ⟨_, hx, rfl⟩
    have h2' := h.2
    rw [aop_congr fun x hx => ev_putD fun s hs => h0 s hs x hx] at h2'
    refine aop_mono (fun d H1 k => ⟨?_, ?_⟩) h2'
    · rw [Yf_putD h3]
      exact hy.weak fun H' _ e => by rw [hst hv] at e; cases e
    · rw [putD_comm (fun s hs => h2 s hs)] at k
      exact k
  · rename_i hv
    rw [if_neg hv] at h
    obtain ⟨d, g1, g2⟩ := h
    rw [Yf_putD h1] at g1
    refine ⟨d, g1, ?_, ?_⟩
    · rw [Yf_putD h3]
      exact hy.weak fun H' hs e => hs (stayT_mono e)
    · rw [putD_comm (fun s hs => h2 s hs)] at g2
      exact g2


def yAnyT (E : Env) (md : Region.Mode) (all : Array Oper) (n : Nat) (L : Array Bool → List D → List Ob → Prop) : Nat → Array Bool → List D → List Ob → Prop
  | 0, listed, ts, H => L listed ts H
  | f + 1, listed, ts, H => Region.ready md all listed ≠ [] ∧ ∀ i ∈ Region.ready md all listed, i < n ∧ yOpT E md all n listed i (yAnyT E md all n L f (listed.setIfInBounds i true)) ts H
theorem wpAny_of_yT {n g : Nat} {L : Array Bool → List D → List Ob → Prop} {Q' : Exit → Act → World → Prop} {M0 : Mem} {μ0 : Mu}
    (hL : ∀ listed ts H M μ w a, M0.le M → μ0.le μ → R E M μ H w → RelL M μ ts a.tmps.toList → a.defers = [] → L listed ts H → wpAny E.P md all Q' g listed a w) :
    ∀ (f : Nat) (listed : Array Bool) (ts : List D) (H : List Ob) (M : Mem) (μ : Mu) (w : World) (a : Act), M0.le M → μ0.le μ → R E M μ H w → RelL M μ ts a.tmps.toList → a.defers = [] → yAnyT E md all n L f listed ts H → wpAny E.P md all Q' (f + g) listed a w
  | 0, listed, ts, H, M, μ, w, a, h1, h2, h3, h4, h5, h => by rw [Nat.zero_add]; exact hL _ _ _ _ _ _ _ h1 h2 h3 h4 h5 h
  | f + 1, listed, ts, H, M, μ, w, a, h1, h2, h3, h4, h5, h => by
    rw [show f + 1 + g = (f + g) + 1 by omega]
    exact ⟨fun h0 => absurd h0 h.1, fun i hi => wpOp_of_yT h3 h4 h5 (h.2 i hi).2 fun M' μ' ts' H' w' a' g1 g2 g3 g4 g5 g7 => wpAny_of_yT hL f _ ts' H' M' μ' w' a' (h1.trans g1) (h2.trans g2) g3 g4 g5 g7⟩
theorem inv_cl {n : Nat} {listed : Array Bool} (inv : HeadInv md all n listed) : Cl md all listed := fun k o ho hk => inv.closed k o ho (by
  have hl : k < listed.size := by rw [inv.size]; exact (Array.getElem?_eq_some_iff.1 ho).1
  simp [Array.getD_eq_getD_getElem?, hl] at hk ⊢; exact hk)
theorem yAnyT_first {n i : Nat} {oi : Oper} {v : D} {L : Array Bool → List D → List Ob → Prop} (hi : all[i]? = some oi) (hlt : heavyB oi = false)
    (hln : ∀ listed, HeadInv md all n listed → listed.getD i true = false → ∀ j ∈ Region.ready md all listed, j < n)
    (hdone : ∀ listed ts H, L listed ts H → ∀ j ∈ Region.ready md all listed, n ≤ j) :
    ∀ (f : Nat) (listed : Array Bool) (ts : List D) (H : List Ob), HeadInv md all n listed →
      (∀ j oj, all[j]? = some oj → j ≠ i → listed.getD j true = false → (∀ e ∈ oj.after, Region.binds md e = true → e.on ≠ i) → oi.apart all oj = true) →
      i ∈ Region.ready md all listed → Yf E (SyT md all n listed i H) all oi v ts →
      yAnyT E md all n L f (listed.setIfInBounds i true) (putD ts oi.dst v) H → yAnyT E md all n L (f + 1) listed ts H := by
  have self : ∀ {listed : Array Bool} {ts : List D} {H : List Ob} {K : List D → List Ob → Prop}, Yf E (SyT md all n listed i H) all oi v ts → K (putD ts oi.dst v) H → yOpT E md all n listed i K ts H := fun hy hk => by
    unfold yOpT; simp only [hi, hlt, Bool.false_eq_true, if_false]; exact ⟨v, hy, hk⟩
  intro f
  induction f with
  | zero =>
    intro listed ts H inv _ hr hy Hh
    have hun := (mem_ready.1 hr).1
    refine ⟨fun h => (by rw [h] at hr; cases hr), fun j hj => ?_⟩
    have hjn : j < n := hln listed inv hun j hj
    refine ⟨hjn, ?_⟩
    by_cases hji : j = i
    · subst hji; exact self hy Hh
    · have := hdone _ _ _ Hh j (ready_mono hj hji)
      omega
  | succ f ih =>
    intro listed ts H inv hfree hr hy Hh
    have hun := (mem_ready.1 hr).1
    have hcl := inv_cl inv
    refine ⟨fun h => (by rw [h] at hr; cases hr), fun j hj => ?_⟩
    have hjn : j < n := hln listed inv hun j hj
    refine ⟨hjn, ?_⟩
    by_cases hji : j = i
    · subst hji; exact self hy Hh
    · have h1 := (Hh.2 j (ready_mono hj hji)).2
      obtain ⟨hjun, oj, hoj, hall⟩ := mem_ready.1 hj
      have hnot : ∀ e ∈ oj.after, Region.binds md e = true → e.on ≠ i := fun e he hb heq => by
        have h1 := hall e he hb
        rw [heq, getD_both hun] at h1
        cases h1
      have h1' : yOpT E md all n listed j (yAnyT E md all n L f ((listed.setIfInBounds i true).setIfInBounds j true)) (putD ts oi.dst v) H := by
        have e : SyT md all n (listed.setIfInBounds i true) j = SyT md all n listed j := by
          funext A B; unfold SyT; rw [stayT_light hi hlt]
        unfold yOpT at h1 ⊢
        rw [e] at h1
        exact h1
      have hst : heavyB oj = true → stayT md all n listed i = false := fun hv => by
        rw [Bool.eq_false_iff]
        intro hs
        have := stayT_iff.1 hs j oj hjn hoj hjun hv
        have hw := wait_listed hcl (fun k hk => getD_up hk) 6 oj hall this
        rw [getD_both hun] at hw
        cases hw
      have h2 := yOpT_put hoj (hfree j oj hoj hji hjun hnot) hst hy h1'
      have hfree' : ∀ k ok, all[k]? = some ok → k ≠ i → (listed.setIfInBounds j true).getD k true = false →
          (∀ e ∈ ok.after, Region.binds md e = true → e.on ≠ i) → oi.apart all ok = true := fun k ok hk hki hun hno => hfree k ok hk hki (listed_mono hun) hno
      refine yOpT_mono (fun ts' H' h3 => ih (listed.setIfInBounds j true) ts' H' (inv.set hj hjn) hfree' (ready_mono hr (Ne.symm hji)) h3.1 ?_) h2
      rw [Array.setIfInBounds_comm _ _ hji]
      exact h3.2
def mixHead (md : Region.Mode) (all : Array Oper) (n : Nat) : List Oper → Nat → Array Bool → Bool
  | [], _, listed => Region.seqB md all (all.size - n) n listed
  | o :: os, k, listed => (Region.ready md all listed).contains k && (if heavyB o then o.guard.isNone && Region.ready md all listed == [k] else Region.free md all listed k) && mixHead md all n os (k + 1) (listed.setIfInBounds k true)
def mixTailB (all : Array Oper) (n : Nat) : Bool := decide (n < all.size) && Region.sinkB .any all n && Region.chainB .any all n && mixHead .any all n (all.toList.take n) 0 (Array.replicate all.size false)
theorem yAnyT_lex {n : Nat} {Lq : List D → List Ob → Prop} (hn : n < all.size) (hs : Region.sinkB md all n = true) (hc : Region.chainB md all n = true) :
    ∀ (l : List Oper) (k : Nat) (listed : Array Bool) (ts : List D) (H : List Ob), (∀ j, j < l.length → l[j]? = all[k + j]?) → k + l.length = n → (∀ m, m < k → listed.getD m true = true) → HeadInv md all n listed →
    mixHead md all n l k listed = true → yops E md all k l ts H Lq → yAnyT E md all n (fun listed ts H => Region.seqB md all (all.size - n) n listed = true ∧ Lq ts H) l.length listed ts H
  | [], k, listed, ts, H, _, _, _, _, hB, h => ⟨by simpa [mixHead] using hB, h⟩
  | o :: l, k, listed, ts, H, hl, hkn, hm, inv, hB, h => by
    have h0 : all[k]? = some o := by simpa using (hl 0 (by simp)).symm
    have hkn' : k < n := by simp only [List.length_cons] at hkn; omega
    have hl' : ∀ j, j < l.length → l[j]? = all[k + 1 + j]? := fun j hj => by have := hl (j + 1) (by simp; omega); simpa [Nat.add_assoc, Nat.add_comm 1 j] using this
    have hm' : ∀ m, m < k + 1 → (listed.setIfInBounds k true).getD m true = true := fun m hmk => by
      cases hcc : (listed.setIfInBounds k true).getD m true with
      | true => rfl
      | false =>
        have h1 := listed_mono hcc
        by_cases e : m = k
        · subst e
          by_cases hl : m < listed.size
          · simp [Array.getD_eq_getD_getElem?, hl] at hcc
          · simp [Array.getD_eq_getD_getElem?, hl] at hcc
        · rw [hm m (by omega)] at h1; cases h1
    simp only [mixHead, Bool.and_eq_true] at hB
    obtain ⟨⟨hr, hf⟩, hB'⟩ := hB
    have hr : k ∈ Region.ready md all listed := by simpa using hr
    have inv' := inv.set hr hkn'
    unfold yops at h
    obtain ⟨hg, h⟩ := h
    cases hv : heavyB o with
    | false =>
      rw [hv] at hf
      simp only [hv, Bool.false_eq_true, if_false] at h
      obtain ⟨d, hy, hK⟩ := h
      refine yAnyT_first h0 hv (fun listed inv hun j hj => by
        rcases Nat.lt_or_ge j n with h | h
        · exact h
        · exact absurd hj (tail_waits hs hc hn inv _ k rfl hkn' hun j h)) (fun listed ts H hL => seqB_ready hL.1) l.length listed ts H inv (Region.free_spec h0 (by simpa using hf)) hr (v := d) ?_ (yAnyT_lex hn hs hc l (k + 1) _ _ _ hl' (by simp only [List.length_cons] at hkn; omega) hm' inv' hB' hK)
      unfold Yf
      simp only [hg]
      intro H' hsy
      refine hy H' fun e => hsy (stayT_iff.2 fun m om hmn hom hmu hmv => ?_)
      have hmk : ¬ m < k := fun hlt => by rw [hm m hlt] at hmu; cases hmu
      have hne : m ≠ k := fun e => by subst e; rw [h0] at hom; cases hom; rw [hv] at hmv; cases hmv
      obtain ⟨j, rfl⟩ : ∃ j, m = k + 1 + j := ⟨m - (k + 1), by omega⟩
      rw [← hl' j (by simp only [List.length_cons] at hkn; omega)] at hom
      have := List.all_eq_true.1 e om (List.mem_of_getElem? hom)
      rw [hmv] at this
      simpa using this
    | true =>
      rw [hv] at hf
      simp only [if_true, Bool.and_eq_true, beq_iff_eq] at hf
      simp only [hv, if_true] at h
      refine ⟨fun e => (by rw [e] at hr; cases hr), fun j hj => ?_⟩
      rw [hf.2] at hj
      have : j = k := by simpa using hj
      subst this
      refine ⟨hkn', ?_⟩
      unfold yOpT
      simp only [h0, hv, if_true]
      exact ⟨hg, aop_mono (fun d H1 k => yAnyT_lex hn hs hc l _ _ _ _ hl' (by simp only [List.length_cons] at hkn; omega) hm' inv' hB' k) h⟩
end
/-- A region that draws its order: first what stores wait for, then some in one order. -/
theorem sat_stayTail {E : Env} {ts : List D} {H : List Ob} {Q : Exit → List D → List Ob → Prop} {id : Nat} {l : List Oper} (n : Nat) (hm : E.P.follows .mixedOrders = true) (hB : mixTailB l.toArray n = true)
    (h : yops E .any l.toArray 0 (l.take n) ts H fun ts' H' => aops E l.toArray (l.drop n) ts' H' fun ts2 H2 => Q .normal ts2 H2) : Sat E (.region id l.toArray true) ts H Q := by
  intro M μ w a h1 h2 h3 h4 h5
  simp only [mixTailB, Bool.and_eq_true, decide_eq_true_eq] at hB
  obtain ⟨⟨⟨hn, hs⟩, hc⟩, hlex⟩ := hB
  have hn' : n < l.length := by simpa using hn
  have htl : (l.take n).length = n := by simp; omega
  have hdl : (l.drop n).length = l.toArray.size - n := by simp
  refine wp_region_any hm ?_
  have hq := yAnyT_lex (E := E) (md := .any) (all := l.toArray) (n := n) hn hs hc (l.take n) 0 (Array.replicate l.toArray.size false) ts H (fun j hj => by rw [htl] at hj; simp [hj]) (by simpa using htl) (fun m hm => absurd hm (Nat.not_lt_zero _)) (HeadInv.start _) (by simpa using hlex) h
  have := wpAny_of_yT (E := E) (md := .any) (all := l.toArray) (n := n) (g := l.toArray.size - n) (M0 := M) (μ0 := μ) (L := fun listed ts' H' => Region.seqB .any l.toArray (l.toArray.size - n) n listed = true ∧ aops E l.toArray (l.drop n) ts' H' fun ts2 H2 => Q .normal ts2 H2)
    (Q' := fun e a' w' => ∃ M' μ' ts' H', E.M0.le M' ∧ E.μ0.le μ' ∧ R E M' μ' H' w' ∧ RelL M' μ' ts' a'.tmps.toList ∧ a'.defers = [] ∧ Q e ts' H')
    (fun listed ts' H' M' μ' w' a' g1 g2 g3 g4 g5 hL => by
      have := wpAny_of_seq (P := E.P) (md := .any) (ops := l.toArray) (l.drop n) n listed a' w' (Q' := fun e a' w' => ∃ M' μ' ts' H', E.M0.le M' ∧ E.μ0.le μ' ∧ R E M' μ' H' w' ∧ RelL M' μ' ts' a'.tmps.toList ∧ a'.defers = [] ∧ Q e ts' H')
        (fun j => by simp [List.getElem?_drop]) (by rw [hdl]; exact hL.1)
        (aops_sound (l.drop n) M' μ' ts' H' w' a' _ g3 g4 g5 hL.2 fun M2 μ2 ts2 H2 w2 a2 k1 k2 k3 k4 k5 k6 => ⟨M2, μ2, ts2, H2, (h1.trans g1).trans k1, (h2.trans g2).trans k2, k3, k4, k5, k6⟩)
      rwa [hdl] at this)
    n (Array.replicate l.toArray.size false) ts H M μ w.drew a (.refl _) (.refl _) h3.drew h4 h5 (by rw [htl] at hq; exact hq)
  rw [show n + (l.toArray.size - n) = l.toArray.size by omega] at this
  exact this
end Go.Ag
namespace Go.Ag
open Go Go.Proofs
variable {G : Nat → Option (List V)}
attribute [local irreducible] aops qops Sat aop

structure Act where
  kind : Int
  name : Str
  link : Str
  cho : Cho
  slaves : List Slv
def actV (a : Act) : List V := [.int .u8 a.kind, .str a.name, .str a.link, .str a.cho.path, .int .i64 a.cho.prio, strs a.cho.slaves, slvs a.slaves]
def actsV (l : List Act) : V := .list 7 (l.map actV)
def actAlt (a : Act) : Alt := ⟨a.name, a.link, false, [], a.slaves, [a.cho]⟩
def actOk (a : Act) : Prop := altSmall (actAlt a)
set_option maxRecDepth 20000 in
set_option maxHeartbeats 16000000 in
theorem spec_Few17 (l : List Act) (n : Nat) (hl : l.length ≤ 9223372036854775807) (hn : n ≤ 1000) (H : List Ob) (K : D → List Ob → Prop) (hK : ∀ b : Bool, (b = true → l.length ≤ n ∧ ∀ a ∈ l, actOk a) → K (.v (.bool b)) H) : ACalls Tryz.prog G 21 [.v (actsV l), .v (.int .i64 n)] H K := by
  refine ACalls.go Tryz.f21 _ 41 [4] Tryz.func21 rfl Tryz.ntmps21 (by kernel_rfl) rfl (by simp) (fun E hE hP hG hH => ?_)
  have hM : E.P.follows .mixedOrders = true := hP ▸ mixed
  subst hH
  simp only [args0]
  (refine W0 (c15 @actsV.eq_def t9 t3 t4 t5 t22 t26 t24 t46 t23 t37 t44 t41 t39 t48) ?_; try with_reducible intro K hK)
  refine sat_cond rfl (fun hb => ?_) (fun hb => ?_)
  · (refine W0 (c14 t9 t3 t4 t5 t22 t26 t24 t46 t23 t37 t44 t41 t39 t48) ?_; try with_reducible intro K hK)
    exact Fin.is _ (by decide) rfl (hK false (fun h => by cases h))
  have hlen : l.length ≤ n := by simp at hb; omega
  (refine W0 (c15 @actsV.eq_def t9 t3 t4 t5 t22 t26 t24 t46 t23 t37 t44 t41 t39 t48) ?_; try with_reducible intro K hK)
  refine sat_loop_ent (fun m ts H => ∃ (i : Nat), m = l.length - i ∧ i ≤ l.length ∧ (∀ a ∈ l.take i, actOk a) ∧
    ts = fr 41 [(5, .v (.int .i64 i)), (0, .v (actsV l))] ∧ H = E.H0) (l.length) (.weakFr ?_) ⟨0, rfl, Nat.zero_le _, by simp, rfl, rfl⟩ ?_
  · simp only [le, ↓reduceIte, Nat.reduceEqDiff, and_true]; repeat' (first | exact trivial | exact D.le_refl _ | exact D.le_any _ | with_reducible refine And.intro ?_ ?_)
  rintro m ts H ⟨i, rfl, hi, hall, rfl, rfl⟩
  (refine W0 (c15 @actsV.eq_def t9 t3 t4 t5 t22 t26 t24 t46 t23 t37 t44 t41 t39 t48) ?_; try with_reducible intro K hK)
  refine sat_cond rfl (fun hc => ?_) (fun hc => ?_)
  · simp at hc
    obtain ⟨a, ha⟩ : ∃ a, l[i]? = some a := ⟨_, List.getElem?_eq_getElem hc⟩
    have hw := wrap_succ (i := i) (by omega)
    (refine Q0 (c18 @actsV.eq_def @actV.eq_def t9 t3 t4 t5 t22 t26 t24 t46 t23 t37 t44 t41 t39 t48 @ha @hc) ?_; try with_reducible intro K hK)
    refine sat_stayTail 23 hM (by kernel_rfl) ?_
    simp only [List.take_succ_cons, List.take_zero, List.drop_succ_cons, List.drop_zero]
    (refine T0 (c18 @actsV.eq_def @actV.eq_def t9 t3 t4 t5 t22 t26 t24 t46 t23 t37 t44 t41 t39 t48 @ha @hc) ?_; try with_reducible intro K hK)
    repeat' (first | (refine G0 (c14 t9 t3 t4 t5 t22 t26 t24 t46 t23 t37 t44 t41 t39 t48) ?_; try with_reducible intro K hK) | ((first | refine Xs rfl rfl (by decide) rfl (fun h => ?_) fun h => ?_ | refine Ys rfl rfl (by decide) rfl (fun h => ?_) fun h => ?_ | refine Zs rfl rfl rfl (by decide) rfl (fun h => ?_) fun h => ?_); rotate_left; (focus (simp only [Bool.not_true, Bool.not_false, lp])); rotate_left))
    refine ACalls.ent (fun E' => Ent.pubArr (ts := [.own (E.H0.length + 1) 1 1]) E.H0.length (E.H0.length + 1) [cV a.cho] (by rw [hp_get0]; rfl) (by rw [hp_get]; rfl) (by omega) (Nat.zero_le _)) ?_
    have hne : ¬ (E.H0.length + 1 = E.H0.length) := by omega
    simp only [D.convL, D.conv, hne, false_and, if_false, List.map_cons, List.map_nil]
    rw [hp_set0, hp_set]
    simp only [List.set_cons_succ, List.set_cons_zero, List.length_cons, List.length_nil]
    refine ACalls.pub (E.H0.length + 1) [altV (actAlt a)] (by rw [hp_get]; rfl) (by simp) (by simp) (spec_FewA [actAlt a] (by simp) _ _ (fun b hb => hK _ _ ?_))
    clear hK K; simp only [lp]
    rw [hp_set]
    repeat' (first | (refine G0 (c14 t9 t3 t4 t5 t22 t26 t24 t46 t23 t37 t44 t41 t39 t48) ?_; try with_reducible intro K hK) | ((first | refine Xs rfl rfl (by decide) rfl (fun h => ?_) fun h => ?_ | refine Ys rfl rfl (by decide) rfl (fun h => ?_) fun h => ?_ | refine Zs rfl rfl rfl (by decide) rfl (fun h => ?_) fun h => ?_); rotate_left; (focus (simp only [Bool.not_true, Bool.not_false, lp])); rotate_left))
    refine wi ?_
    refine sat_cond rfl (fun hd => ?_) (fun hd => ?_)
    · (refine W0 (c14 t9 t3 t4 t5 t22 t26 t24 t46 t23 t37 t44 t41 t39 t48) ?_; try with_reducible intro K hK)
      refine Fin.gc (.v (.bool false)) hE (by decide) rfl (by simp only [D.lt]) (hK false (fun h => by cases h))
    · have hbt : b = true := by simpa using hd
      have hao : actOk a := (hb hbt).2 _ (by simp)
      (refine W0 (c15 t9 t3 t4 t5 t22 t26 t24 t46 t23 t37 t44 t41 t39 t48 @hw) ?_; try with_reducible intro K hK)
      refine ⟨l.length - (i + 1), _, _, by omega, ?_, i + 1, rfl, by omega, all_snoc hall ha hao, rfl, rfl⟩
      refine Ent.round0 hE ?_ ?_
      · simp only [le, ↓reduceIte, Nat.reduceEqDiff, and_true]; repeat' (first | exact trivial | exact D.le_refl _ | exact D.le_any _ | with_reducible refine And.intro ?_ ?_)
      · simp [ltAll, ltObs, Ob.lt, D.lt, D.ltL, or_imp, forall_and]
  · have e : l.take i = l := List.take_of_length_le (by simp at hc; omega)
    rw [e] at hall
    (refine W0 (c14 t9 t3 t4 t5 t22 t26 t24 t46 t23 t37 t44 t41 t39 t48) ?_; try with_reducible intro K hK)
    exact Fin.is _ (by decide) rfl (hK true (fun _ => ⟨hlen, hall⟩))
end Go.Ag
/- AGo: the arguments of the laws of acts, read by value. -/
namespace Go.Ag
open Go Go.RowKit Go.Proofs

theorem rdK : Reads Tryz.prog 5 1 (fun r => ∃ n : Int, r = [.int .u8 n] ∧ (Lit.int .u8 n).wf = true) := reads_int Tryz.underlying5 (by kernel_rfl)
theorem rdAct : Reads Tryz.prog 48 7 (fun r => ∃ a : Act, r = actV a ∧ 0 ≤ a.kind) :=
  (reads_struct Tryz.underlying48 (by kernel_rfl) ⟨1, 6, _, _, rfl, rfl, rdK, ⟨1, 5, _, _, rfl, rfl, rd9, ⟨1, 4, _, _, rfl, rfl, rd9, ⟨3, 1, _, _, rfl, rfl, rd46, ⟨1, 0, _, _, rfl, rfl, rd23, ⟨rfl, rfl⟩, rfl⟩, rfl⟩, rfl⟩, rfl⟩, rfl⟩).mono fun r h => by
    obtain ⟨_, _, rfl, ⟨k, rfl, hk⟩, _, _, rfl, ⟨a, rfl, _⟩, _, _, rfl, ⟨b, rfl, _⟩, _, _, rfl, ⟨c, rfl, _⟩, _, _, rfl, ⟨d, rfl, _⟩, rfl⟩ := h
    refine ⟨⟨k, a, b, c, d⟩, rfl, ?_⟩
    simp [Lit.wf] at hk
    exact hk.1
theorem rdActsK : Reads Tryz.prog 39 1 (fun r => ∃ l : List Act, r = [actsV l] ∧ (∀ a ∈ l, 0 ≤ a.kind) ∧ l.length ≤ 9223372036854775807) :=
  (reads_slice Tryz.underlying39 (by kernel_rfl) rdAct (by decide)).mono fun r ⟨xs, h1, h2, h3⟩ => by
    obtain ⟨l, rfl, hl⟩ := map_choose (f := actV) (S := fun a => 0 ≤ a.kind) h2
    exact ⟨l, h1, hl, by simpa using h3⟩
theorem rdActs : Reads Tryz.prog 39 1 (fun r => ∃ l : List Act, r = [actsV l] ∧ l.length ≤ 9223372036854775807) :=
  rdActsK.mono fun _ ⟨l, h1, _, h3⟩ => ⟨l, h1, h3⟩
end Go.Ag
namespace Go.Ag
open Go Go.Proofs
variable {G : Nat → Option (List V)}
attribute [local irreducible] aops qops Sat aop

def k5 (a : Act) : Int := a.kind.tmod 5
noncomputable def doF (l : List Alt) (a : Act) : List Alt × Int :=
  if (k5 a == 0) = true then instF l a.name a.link a.cho a.slaves else if (k5 a == 1) = true then remF l a.name a.cho.path else if (k5 a == 2) = true then allF l a.name else if (k5 a == 3) = true then setF l a.name a.cho.path else autoF l a.name
theorem do0 {l : List Alt} {a : Act} (h : (k5 a == 0) = true) : doF l a = instF l a.name a.link a.cho a.slaves := by rw [doF, if_pos h]
theorem do1 {l : List Alt} {a : Act} (h0 : (k5 a == 0) = false) (h : (k5 a == 1) = true) : doF l a = remF l a.name a.cho.path := by rw [doF, if_neg (by rw [h0]; decide), if_pos h]
theorem do2 {l : List Alt} {a : Act} (h0 : (k5 a == 0) = false) (h1 : (k5 a == 1) = false) (h : (k5 a == 2) = true) : doF l a = allF l a.name := by rw [doF, if_neg (by rw [h0]; decide), if_neg (by rw [h1]; decide), if_pos h]
theorem do3 {l : List Alt} {a : Act} (h0 : (k5 a == 0) = false) (h1 : (k5 a == 1) = false) (h2 : (k5 a == 2) = false) (h : (k5 a == 3) = true) : doF l a = setF l a.name a.cho.path := by rw [doF, if_neg (by rw [h0]; decide), if_neg (by rw [h1]; decide), if_neg (by rw [h2]; decide), if_pos h]
theorem do4 {l : List Alt} {a : Act} (h0 : (k5 a == 0) = false) (h1 : (k5 a == 1) = false) (h2 : (k5 a == 2) = false) (h3 : (k5 a == 3) = false) : doF l a = autoF l a.name := by rw [doF, if_neg (by rw [h0]; decide), if_neg (by rw [h1]; decide), if_neg (by rw [h2]; decide), if_neg (by rw [h3]; decide)]
set_option maxRecDepth 20000 in
set_option maxHeartbeats 16000000 in
theorem spec_do (l : List Alt) (a : Act) (m : Int) (hl : l.length ≤ 900000) (hin : ∀ y ∈ l, altIn y) (ha : actOk a) (hG0 : G 0 = some [.int .i64 m]) (H : List Ob) (K : D → List Ob → Prop) (hK : K (.tup [.v (altsV (doF l a).1), .v (.int .i64 (doF l a).2)]) H) : ACalls Tryz.prog G 22 [.v (altsV l), .agg ((actV a).map .v)] H K := by
  obtain ⟨a1, a2, _, a4, _, a6, a7⟩ := ha
  have b7 := a7 a.cho (List.mem_singleton_self _)
  have hcc : ∀ y ∈ l, y.choices.length ≤ 1000000 := fun y hy => by have := (hin y hy).2.2; omega
  have a1 : a.name.length ≤ 300 := a1
  have a2 : a.link.length ≤ 300 := a2
  have a4 : a.slaves.length ≤ 70 := a4
  have hch : choIn a.cho := ⟨by have := b7.1; omega, fun t ht => by have := b7.2.2 t ht; omega⟩
  have hsl : ∀ s ∈ a.slaves, slvIn s := fun s hs => by have := a6 s hs; exact ⟨by have := this.1; omega, by have := this.2; omega⟩
  refine ACalls.go Tryz.f22 _ 68 [4, 5] Tryz.func22 rfl Tryz.ntmps22 (by kernel_rfl) rfl (by simp) (fun E hE hP hG hH => ?_)
  have hM : E.P.follows .mixedOrders = true := hP ▸ mixed
  subst hH
  have hend : ∀ (r : List Alt × Int) (ts : List (Nat × D)) (L : List Ob), doF l a = r → look ts 4 = .v (altsV r.1) → look ts 5 = .v (.int .i64 r.2) → Fin E (fr 68 ts) (E.H0 ++ L) [4, 5] K := fun r ts L h g1 g2 => by
    rw [h] at hK
    exact Fin.gc2 (.v (altsV r.1)) (.v (.int .i64 r.2)) hE (by decide) (by decide) (by decide) g1 g2 (by simp only [D.lt]) (by simp only [D.lt]) hK
  simp only [args0]
  (refine W0 (c15 @actV.eq_def t9 t3 t4 t5 t22 t26 t24 t46 t23 t37 t44 t41 t39 t48) ?_; try with_reducible intro K hK)
  refine sat_cond rfl (fun h0 => ?_) (fun h0 => ?_)
  · (refine W0 (c14 t9 t3 t4 t5 t22 t26 t24 t46 t23 t37 t44 t41 t39 t48) ?_; try with_reducible intro K hK)
    refine spec_Install l a.name a.link a.cho a.slaves m hl hin (by omega) (by omega) hch (by have := b7.2.1; omega) (by omega) hsl hG0 _ _ (hK _ _ ?_)
    clear hK K; simp only [lp]
    (refine W0 (c14 t9 t3 t4 t5 t22 t26 t24 t46 t23 t37 t44 t41 t39 t48) ?_; try with_reducible intro K hK)
    exact hend _ _ _ (do0 h0) rfl rfl
  (refine W0 (c14 t9 t3 t4 t5 t22 t26 t24 t46 t23 t37 t44 t41 t39 t48) ?_; try with_reducible intro K hK)
  refine sat_cond rfl (fun h1 => ?_) (fun h1 => ?_)
  · (refine W0 (c14 t9 t3 t4 t5 t22 t26 t24 t46 t23 t37 t44 t41 t39 t48) ?_; try with_reducible intro K hK)
    refine spec_Remove l a.name a.cho.path (by omega) hcc _ _ (hK _ _ ?_)
    clear hK K; simp only [lp]
    (refine W0 (c14 t9 t3 t4 t5 t22 t26 t24 t46 t23 t37 t44 t41 t39 t48) ?_; try with_reducible intro K hK)
    exact hend _ _ _ (do1 h0 h1) rfl rfl
  (refine W0 (c14 t9 t3 t4 t5 t22 t26 t24 t46 t23 t37 t44 t41 t39 t48) ?_; try with_reducible intro K hK)
  refine sat_cond rfl (fun h2 => ?_) (fun h2 => ?_)
  · (refine W0 (c14 t9 t3 t4 t5 t22 t26 t24 t46 t23 t37 t44 t41 t39 t48) ?_; try with_reducible intro K hK)
    refine spec_All l a.name (by omega) _ _ (hK _ _ ?_)
    clear hK K; simp only [lp]
    (refine W0 (c14 t9 t3 t4 t5 t22 t26 t24 t46 t23 t37 t44 t41 t39 t48) ?_; try with_reducible intro K hK)
    exact hend _ _ _ (do2 h0 h1 h2) rfl rfl
  (refine W0 (c14 t9 t3 t4 t5 t22 t26 t24 t46 t23 t37 t44 t41 t39 t48) ?_; try with_reducible intro K hK)
  refine sat_cond rfl (fun h3 => ?_) (fun h3 => ?_)
  · (refine W0 (c14 t9 t3 t4 t5 t22 t26 t24 t46 t23 t37 t44 t41 t39 t48) ?_; try with_reducible intro K hK)
    refine spec_Set l a.name a.cho.path (by omega) hcc _ _ (hK _ _ ?_)
    clear hK K; simp only [lp]
    (refine W0 (c14 t9 t3 t4 t5 t22 t26 t24 t46 t23 t37 t44 t41 t39 t48) ?_; try with_reducible intro K hK)
    exact hend _ _ _ (do3 h0 h1 h2 h3) rfl rfl
  · (refine W0 (c14 t9 t3 t4 t5 t22 t26 t24 t46 t23 t37 t44 t41 t39 t48) ?_; try with_reducible intro K hK)
    refine spec_Auto l a.name (by omega) hcc _ _ (hK _ _ ?_)
    clear hK K; simp only [lp]
    (refine W0 (c14 t9 t3 t4 t5 t22 t26 t24 t46 t23 t37 t44 t41 t39 t48) ?_; try with_reducible intro K hK)
    exact hend _ _ _ (do4 h0 h1 h2 h3) rfl rfl
end Go.Ag
namespace Go.Ag
open Go Go.Proofs

def LsB (a b : Str) : Prop := Op.bytesLess a b = true
theorem lsB_irr (a : Str) : ¬ LsB a a := by
  rw [LsB, Go.Proofs.bytesLess_eq]; simp [List.lt_irrefl]
theorem lsB_trans {a b c : Str} (h1 : LsB a b) (h2 : LsB b c) : LsB a c := by
  unfold LsB at *
  rw [Go.Proofs.bytesLess_eq] at *
  simp only [decide_eq_true_eq] at *
  exact List.lt_trans h1 h2
theorem adj_pair {α : Type} (l : List α) (d : α) (f : α → Str) : (∀ j, 0 < j → j < l.length → LsB (f (l.getD (j - 1) d)) (f (l.getD j d))) ↔ (l.map f).Pairwise LsB := by
  constructor
  · intro h
    have key : ∀ k i, i + k + 1 < l.length → LsB (f (l.getD i d)) (f (l.getD (i + k + 1) d)) := by
      intro k
      induction k with
      | zero => intro i hi; have := h (i + 1) (by omega) hi; simpa using this
      | succ k ih =>
        intro i hi
        have h1 := ih i (by omega)
        have h2 := h (i + (k + 1) + 1) (by omega) hi
        rw [show i + (k + 1) + 1 - 1 = i + k + 1 by omega] at h2
        exact lsB_trans h1 h2
    rw [List.pairwise_map, List.pairwise_iff_getElem]
    intro i j hi hj hij
    have := key (j - i - 1) i (by omega)
    rw [show i + (j - i - 1) + 1 = j by omega, List.getD_eq_getElem?_getD, List.getD_eq_getElem?_getD, List.getElem?_eq_getElem hi, List.getElem?_eq_getElem hj] at this
    exact this
  · intro h j h0 hj
    rw [List.pairwise_map, List.pairwise_iff_getElem] at h
    have := h (j - 1) j (by omega) hj (by omega)
    rw [List.getD_eq_getElem?_getD, List.getD_eq_getElem?_getD, List.getElem?_eq_getElem (show j - 1 < l.length by omega), List.getElem?_eq_getElem hj]
    exact this
theorem getD_mem {α : Type} {l : List α} {d : α} {j : Nat} (h : j < l.length) : l.getD j d ∈ l := by
  rw [List.getD_eq_getElem?_getD, List.getElem?_eq_getElem h]
  exact List.getElem_mem h
theorem mem_getD {α : Type} {l : List α} {x : α} (d : α) (h : x ∈ l) : ∃ j, j < l.length ∧ l.getD j d = x := by
  obtain ⟨j, hj, rfl⟩ := List.getElem_of_mem h
  exact ⟨j, hj, by rw [List.getD_eq_getElem?_getD, List.getElem?_eq_getElem hj]; rfl⟩
theorem chk_iff (l : List Alt) : checkI l = 0 ↔ l.length ≤ 64 ∧ (∀ x ∈ l, rightP x = true) ∧ (l.map (·.name)).Pairwise LsB ∧ (l.map things).flatten.Nodup := by
  have hk : checkI l = 0 ↔ l.length ≤ 64 ∧ okTo l l.length := by
    unfold checkI
    split
    · constructor
      · intro h; cases h
      · intro h; omega
    · split
      · rename_i h1 h2; exact ⟨fun _ => ⟨by omega, h2⟩, fun _ => rfl⟩
      · rename_i h1 h2; exact ⟨fun h => (by cases h), fun h => absurd h.2 h2⟩
  rw [hk, okTo, ← adj_pair l alt0 (·.name)]
  have ht : thsTo l l.length = (l.map things).flatten := by rw [thsTo, List.take_length]
  rw [ht]
  have hb : (∀ j, j < l.length → badAt l j (l.getD j alt0) = false) ↔ (∀ x ∈ l, rightP x = true) ∧ ∀ j, 0 < j → j < l.length → LsB ((l.getD (j - 1) alt0).name) ((l.getD j alt0).name) := by
    constructor
    · intro h
      refine ⟨fun x hx => ?_, fun j h0 hj => ?_⟩
      · obtain ⟨j, hj, rfl⟩ := mem_getD alt0 hx
        have := h j hj
        simp only [badAt, Bool.or_eq_false_iff] at this
        simpa using this.1
      · have := h j hj
        simp only [badAt, Bool.or_eq_false_iff, Bool.and_eq_false_iff] at this
        rcases this.2 with h1 | h1
        · simp at h1; omega
        · simpa [LsB] using h1
    · rintro ⟨h1, h2⟩ j hj
      simp only [badAt, Bool.or_eq_false_iff, Bool.and_eq_false_iff]
      refine ⟨by rw [h1 _ (getD_mem hj)]; rfl, ?_⟩
      by_cases h0 : 0 < j
      · right
        have := h2 j h0 hj
        simp only [LsB] at this
        rw [this]; rfl
      · left; simp; omega
  rw [hb]
  constructor
  · rintro ⟨a, ⟨b, c⟩, d⟩; exact ⟨a, b, c, d⟩
  · rintro ⟨a, b, c, d⟩; exact ⟨a, ⟨b, c⟩, d⟩
theorem chk_set {l : List Alt} {i : Nat} {y y' : Alt} (h : checkI l = 0) (hi : l[i]? = some y) (hn : y'.name = y.name) (ht : things y' = things y) (hr : rightP y' = true) : checkI (l.set i y') = 0 := by
  rw [chk_iff] at h ⊢
  obtain ⟨h1, h2, h3, h4⟩ := h
  have same : ∀ {β : Type} (f : Alt → β), f y' = f y → (l.set i y').map f = l.map f := fun f hf => by
    rw [List.map_set, hf]
    apply List.ext_getElem?
    intro j
    by_cases e : i = j
    · subst e
      have hl := (List.getElem?_eq_some_iff.1 hi).1
      rw [List.getElem?_set_self (by simpa using hl), List.getElem?_map, hi]; rfl
    · rw [List.getElem?_set_ne e]
  refine ⟨by simpa using h1, fun x hx => ?_, by rw [same _ hn]; exact h3, by rw [same _ ht]; exact h4⟩
  rcases List.mem_or_eq_of_mem_set hx with hx | rfl
  · exact h2 x hx
  · exact hr
theorem chk_filter {l : List Alt} (p : Alt → Bool) (h : checkI l = 0) : checkI (l.filter p) = 0 := by
  rw [chk_iff] at h ⊢
  obtain ⟨h1, h2, h3, h4⟩ := h
  have hs := List.filter_sublist (p := p) (l := l)
  exact ⟨Nat.le_trans hs.length_le h1, fun x hx => h2 x (List.mem_filter.1 hx).1, h3.sublist (hs.map _), by
    rw [List.Nodup, List.pairwise_flatten] at h4 ⊢
    exact ⟨fun m hm => h4.1 m ((hs.map _).subset hm), h4.2.sublist (hs.map _)⟩⟩
/-! ### right ones -/
theorem choAt_ge {l : List Cho} {p : Str} : choAt l p ≥ 0 ↔ ∃ c ∈ l, c.path = p := by
  unfold choAt
  cases h : l.findIdx? (fun c => c.path == p) with
  | none =>
    rw [List.findIdx?_eq_none_iff] at h
    constructor
    · intro h0; simp at h0
    · rintro ⟨c, hc, rfl⟩; have := h c hc; simp at this
  | some i =>
    have hi := idx_lt h
    rw [List.findIdx?_eq_some_iff_getElem] at h
    obtain ⟨_, h2, _⟩ := h
    exact ⟨fun _ => ⟨l[i], List.getElem_mem hi, by simpa using h2⟩, fun _ => by simp⟩
def choGood (n : Nat) (c : Cho) : Bool := placeB c.path && !decide (c.prio < -2147483648) && !decide (c.prio > 2147483647) && (c.slaves.length == n) && !c.slaves.any subBad
theorem choOk_iff (x : Alt) : choicesOk x = true ↔ (∀ c ∈ x.choices, choGood x.slaves.length c = true) ∧ (x.choices.map (·.path)).Pairwise LsB ∧ 1 ≤ x.choices.length ∧ x.choices.length ≤ 64 := by
  rw [← adj_pair x.choices cho0 (·.path)]
  have hb : (List.range x.choices.length).all (fun i => !(choBad x i (x.choices.getD i cho0) || (x.choices.getD i cho0).slaves.any subBad)) = true ↔ (∀ c ∈ x.choices, choGood x.slaves.length c = true) ∧ ∀ j, 0 < j → j < x.choices.length → LsB ((x.choices.getD (j - 1) cho0).path) ((x.choices.getD j cho0).path) := by
    rw [List.all_eq_true]
    constructor
    · intro h
      refine ⟨fun c hc => ?_, fun j h0 hj => ?_⟩
      · obtain ⟨j, hj, rfl⟩ := mem_getD cho0 hc
        have := h j (List.mem_range.2 hj)
        simp only [choBad, Bool.not_or, Bool.not_not, Bool.and_eq_true] at this
        simp only [choGood, Bool.and_eq_true]
        exact ⟨⟨⟨⟨this.1.1.1.1.1, this.1.1.1.1.2⟩, this.1.1.1.2⟩, this.1.1.2⟩, this.2⟩
      · have := h j (List.mem_range.2 hj)
        simp only [choBad, Bool.not_or, Bool.not_not, Bool.and_eq_true] at this
        have := this.1.2
        simp only [Bool.not_and, Bool.not_not, Bool.or_eq_true] at this
        rcases this with h1 | h1
        · simp at h1; omega
        · exact h1
    · rintro ⟨h1, h2⟩ j hj
      rw [List.mem_range] at hj
      have g := h1 _ (getD_mem (d := cho0) hj)
      simp only [choGood, Bool.and_eq_true] at g
      simp only [choBad, Bool.not_or, Bool.not_not, Bool.and_eq_true]
      refine ⟨⟨⟨⟨⟨g.1.1.1.1, g.1.1.1.2⟩, g.1.1.2⟩, g.1.2⟩, ?_⟩, g.2⟩
      simp only [Bool.not_and, Bool.not_not, Bool.or_eq_true]
      by_cases h0 : 0 < j
      · exact .inr (h2 j h0 hj)
      · left; simp; omega
  simp only [choicesOk, Bool.and_eq_true, decide_eq_true_eq]
  rw [hb]
  constructor
  · rintro ⟨⟨a, b⟩, c, d⟩; exact ⟨a, b, by omega, by omega⟩
  · rintro ⟨a, b, c, d⟩; exact ⟨⟨a, b⟩, by omega, by omega⟩
theorem best_at {l : List Cho} (hp : (l.map (·.path)).Pairwise LsB) {k : Nat} {c : Cho} (hc : l[k]? = some c) : choAt l c.path = (k : Int) := by
  have hk := (List.getElem?_eq_some_iff.1 hc)
  obtain ⟨hkl, rfl⟩ := hk
  unfold choAt
  have : l.findIdx? (fun d => d.path == l[k].path) = some k := by
    rw [List.findIdx?_eq_some_iff_getElem]
    refine ⟨hkl, by simp, fun j hj => ?_⟩
    rw [List.pairwise_map, List.pairwise_iff_getElem] at hp
    have := hp j k (by omega) hkl hj
    simp only [Bool.not_eq_true, beq_eq_false_iff_ne, ne_eq]
    intro e
    rw [e] at this
    exact lsB_irr _ this
  rw [this]
theorem best_some {l : List Cho} (h : 1 ≤ l.length) : ∃ (k : Nat) (c : Cho), best l = (k : Int) ∧ l[k]? = some c := by
  rcases bestN_rng l l.length with ⟨_, h2⟩ | ⟨k, h1, h2⟩
  · omega
  · exact ⟨k, l[k], h1, List.getElem?_eq_getElem h2⟩
theorem sett_right {x y : Alt} (hy : rightP y = true) (h1 : x.name = y.name) (h2 : x.link = y.link) (h3 : x.slaves = y.slaves) (h4 : choicesOk x = true) (h5 : x.manual = true → choAt x.choices x.cur ≥ 0) : rightP (settA x) = true ∧ (settA x).name = y.name ∧ things (settA x) = things y ∧ (settA x).choices = x.choices ∧ (settA x).manual = x.manual := by
  have hc := (choOk_iff x).1 h4
  have hs : slavesOk x = slavesOk y := by
    simp only [slavesOk, slvBad, h1, h3]
  have hlk : links x = links y := by simp only [links, h2, h3]
  simp only [rightP, Bool.and_eq_true] at hy
  obtain ⟨⟨⟨⟨⟨a1, a2⟩, a3⟩, _⟩, a5⟩, _⟩ := hy
  have fin : ∀ z : Alt, z.name = x.name → z.link = x.link → z.slaves = x.slaves → z.choices = x.choices → finalB z = true → rightP z = true ∧ things z = things y := fun z e1 e2 e3 e4 hf => by
    have g1 : slavesOk z = slavesOk x := by simp only [slavesOk, slvBad, e1, e3]
    have g2 : choicesOk z = choicesOk x := by simp only [choicesOk, choBad, e3, e4]
    have g3 : links z = links x := by simp only [links, e2, e3]
    refine ⟨?_, by simp only [things, g3, hlk, e1, h1, e3, h3]⟩
    simp only [rightP, Bool.and_eq_true]
    exact ⟨⟨⟨⟨⟨by rw [e1, h1]; exact a1, by rw [e2, h2]; exact a2⟩, by rw [g1, hs]; exact a3⟩, by rw [g2]; exact h4⟩, by rw [g3, hlk]; exact a5⟩, hf⟩
  by_cases hm : x.manual = true
  · have e : settA x = x := by rw [settA, if_pos hm]
    rw [e]
    have hf : finalB x = true := by simp only [finalB, hm, Bool.true_or, Bool.and_true, decide_eq_true_eq]; exact h5 hm
    obtain ⟨g1, g2⟩ := fin x rfl rfl rfl rfl hf
    exact ⟨g1, h1, g2, rfl, rfl⟩
  · obtain ⟨k, c, hb, hk⟩ := best_some hc.2.2.1
    have e : settA x = { x with cur := c.path } := by rw [settA, if_neg hm, if_neg (by rw [hb]; omega), hb, Int.toNat_natCast, hk]; rfl
    rw [e]
    have hat := best_at hc.2.1 hk
    have hf : finalB { x with cur := c.path } = true := by
      simp only [finalB, hat, hb, Bool.and_eq_true, decide_eq_true_eq, Bool.or_eq_true, beq_self_eq_true, or_true, and_true]
      omega
    obtain ⟨g1, g2⟩ := fin { x with cur := c.path } rfl rfl rfl rfl hf
    exact ⟨g1, h1, g2, rfl, rfl⟩
/-! ### whatever is done -/
def Inv (l : List Alt) : Prop := checkI l = 0 ∧ ∀ y ∈ l, altMid y
theorem right_few' {x : Alt} (h : rightP x = true) : x.slaves.length ≤ 64 ∧ x.choices.length ≤ 64 := by
  simp only [rightP, choicesOk, slavesOk, Bool.and_eq_true, decide_eq_true_eq] at h
  omega
theorem Inv.alts {l : List Alt} (h : Inv l) : l.length ≤ 900000 ∧ ∀ y ∈ l, altIn y := by
  have hc := (chk_iff l).1 h.1
  refine ⟨by omega, fun y hy => ?_⟩
  have := right_few' (hc.2.1 y hy)
  exact ⟨h.2 y hy, by omega, by omega⟩
theorem put_name {l : List Alt} {i : Nat} {x : Alt} (hi : l.findIdx? (fun y => y.name == x.name) = some i) : putA l x = l.set i x := by rw [putA, hi]
theorem inv_set {l : List Alt} {i : Nat} {y y' : Alt} {nm : Str} (h : Inv l) (hi : l.findIdx? (fun z => z.name == nm) = some i) (hy : l[i]? = some y) (hn : y'.name = y.name) (ht : things y' = things y) (hr : rightP y' = true) (hm : altMid y') : Inv (putA l y') := by
  have hnm : y.name = nm := by
    rw [List.findIdx?_eq_some_iff_getElem] at hi
    obtain ⟨hil, h2, _⟩ := hi
    rw [List.getElem?_eq_getElem hil] at hy; cases hy
    simpa using h2
  rw [put_name (by rw [hn, hnm]; exact hi)]
  refine ⟨chk_set h.1 hy hn ht hr, fun z hz => ?_⟩
  rcases List.mem_or_eq_of_mem_set hz with hz | rfl
  · exact h.2 z hz
  · exact hm
theorem inv_drop {l : List Alt} (h : Inv l) (nm : Str) : Inv (dropA l nm) := ⟨chk_filter _ h.1, fun y hy => h.2 y (List.mem_filter.1 hy).1⟩
theorem fin_ok {out r : List Alt} (h : finI out = (r, 0)) : r = out ∧ checkI out = 0 := by
  unfold finI at h
  split at h
  · rename_i h1; cases h; exact ⟨rfl, h1⟩
  · split at h
    · cases h
    · cases h
theorem inst_inv {l r : List Alt} {nm lk : Str} {c : Cho} {ss : List Slv} (h : Inv l) (h1 : nm.length ≤ 1000000) (h2 : lk.length ≤ 1000000) (h3 : choIn c) (h4 : ss.length ≤ 400000) (h5 : ∀ s ∈ ss, slvIn s) (he : instF l nm lk c ss = (r, 0)) : Inv r := by
  unfold instF at he
  split at he
  · rename_i hn
    obtain ⟨hax, hax2⟩ := alone_in h1 h2 h3 h4 h5 hn
    split at he
    · split at he
      · obtain ⟨rfl, hc⟩ := fin_ok he
        exact ⟨hc, put_mid h.2 hax.1⟩
      · rename_i i hi
        split at he
        · obtain ⟨rfl, hc⟩ := fin_ok he
          refine ⟨hc, put_mid h.2 (sett_mid (join_in ?_ hax ?_).1)⟩
          · have hil := idx_lt hi
            rw [List.getElem?_eq_getElem hil]
            exact h.alts.2 _ (List.getElem_mem hil)
          · have := hax.1.2.2.2.2.2.2 (headC (aloneF nm lk c ss)) (by rw [hax2]; exact List.mem_singleton_self _)
            exact ⟨this.1, this.2.2⟩
        · cases he
    · cases he
  · cases he
theorem get_at {l : List Alt} {nm : Str} {i : Nat} (hi : l.findIdx? (fun z => z.name == nm) = some i) : ∃ y, l[i]? = some y ∧ (l[i]?).getD altZ = y ∧ y ∈ l := by
  have hil := idx_lt hi
  exact ⟨l[i], List.getElem?_eq_getElem hil, by rw [List.getElem?_eq_getElem hil]; rfl, List.getElem_mem hil⟩
theorem set_inv {l r : List Alt} {nm p : Str} (h : Inv l) (hp : p.length ≤ 1000000) (he : setF l nm p = (r, 0)) : Inv r := by
  unfold setF at he
  split at he
  · cases he
  · rename_i i hi
    obtain ⟨y, hy, hg, hyl⟩ := get_at hi
    rw [hg] at he
    split at he
    · cases he
    · rename_i hc
      cases he
      have hr := ((chk_iff l).1 h.1).2.1 y hyl
      obtain ⟨a1, a2, a3, a4, a5, a6, a7⟩ := h.2 y hyl
      refine inv_set h hi hy rfl rfl ?_ ⟨a1, a2, hp, a4, a5, a6, a7⟩
      have hr2 := hr
      simp only [rightP, Bool.and_eq_true] at hr2 ⊢
      obtain ⟨⟨⟨⟨⟨b1, b2⟩, b3⟩, b4⟩, b5⟩, _⟩ := hr2
      refine ⟨⟨⟨⟨⟨b1, b2⟩, b3⟩, b4⟩, b5⟩, ?_⟩
      simp only [finalB, Bool.true_or, Bool.and_true, decide_eq_true_eq]; omega
theorem auto_inv {l r : List Alt} {nm : Str} (h : Inv l) (he : autoF l nm = (r, 0)) : Inv r := by
  unfold autoF at he
  split at he
  · cases he
  · rename_i i hi
    obtain ⟨y, hy, hg, hyl⟩ := get_at hi
    rw [hg] at he
    cases he
    have hr := ((chk_iff l).1 h.1).2.1 y hyl
    have hck : choicesOk y = true := by
      have := hr
      simp only [rightP, Bool.and_eq_true] at this
      exact this.1.1.2
    obtain ⟨g1, g2, g3, _, _⟩ := sett_right (x := { y with manual := false }) hr rfl rfl rfl hck (fun h => by cases h)
    exact inv_set h hi hy g2 g3 g1 (sett_mid (h.2 y hyl))
theorem rem_inv {l r : List Alt} {nm p : Str} (h : Inv l) (he : remF l nm p = (r, 0)) : Inv r := by
  unfold remF at he
  split at he
  · cases he
  · rename_i i hi
    obtain ⟨y, hy, hg, hyl⟩ := get_at hi
    rw [hg] at he
    split at he
    · cases he
    · split at he
      · cases he; exact inv_drop h nm
      · rename_i hne
        cases he
        have hr := ((chk_iff l).1 h.1).2.1 y hyl
        have hr2 := hr
        simp only [rightP, Bool.and_eq_true] at hr2
        have hck := (choOk_iff y).1 hr2.1.1.2
        have hsub := List.filter_sublist (p := fun c : Cho => !(c.path == p)) (l := y.choices)
        have hck2 : choicesOk { y with choices := y.choices.filter fun c => !(c.path == p), manual := y.manual && !(y.cur == p) } = true := by
          rw [choOk_iff]
          refine ⟨fun c hc => hck.1 c (List.mem_filter.1 hc).1, hck.2.1.sublist (hsub.map _), ?_, Nat.le_trans hsub.length_le hck.2.2.2⟩
          exact List.length_pos_iff.2 hne
        obtain ⟨g1, g2, g3, _, _⟩ := sett_right (x := { y with choices := y.choices.filter fun c => !(c.path == p), manual := y.manual && !(y.cur == p) }) hr rfl rfl rfl hck2 (fun hm => by
          simp only [Bool.and_eq_true, Bool.not_eq_true', beq_eq_false_iff_ne, ne_eq] at hm
          have hf := hr2.2
          simp only [finalB, Bool.and_eq_true, decide_eq_true_eq] at hf
          obtain ⟨c, hc, hcp⟩ := choAt_ge.1 hf.1
          exact choAt_ge.2 ⟨c, List.mem_filter.2 ⟨hc, by simp only [Bool.not_eq_true', beq_eq_false_iff_ne, ne_eq]; rw [hcp]; exact hm.2⟩, hcp⟩)
        refine inv_set h hi hy g2 g3 g1 (sett_mid ?_)
        obtain ⟨a1, a2, a3, a4, a5, a6, a7⟩ := h.2 y hyl
        exact ⟨a1, a2, a3, a4, Nat.le_trans hsub.length_le a5, a6, fun c hc => a7 c (List.mem_filter.1 hc).1⟩
theorem all_inv {l r : List Alt} {nm : Str} (h : Inv l) (he : allF l nm = (r, 0)) : Inv r := by
  unfold allF at he
  split at he
  · cases he
  · cases he; exact inv_drop h nm
theorem do_inv {l : List Alt} {a : Act} (h : Inv l) (ha : actOk a) (he : (doF l a).2 = 0) : Inv (doF l a).1 := by
  obtain ⟨a1, a2, _, a4, _, a6, a7⟩ := ha
  have b7 := a7 a.cho (List.mem_singleton_self _)
  have a1 : a.name.length ≤ 300 := a1
  have a2 : a.link.length ≤ 300 := a2
  have a4 : a.slaves.length ≤ 70 := a4
  have hch : choIn a.cho := ⟨by have := b7.1; omega, fun t ht => by have := b7.2.2 t ht; omega⟩
  have hsl : ∀ s ∈ a.slaves, slvIn s := fun s hs => by have := a6 s hs; exact ⟨by have := this.1; omega, by have := this.2; omega⟩
  obtain ⟨r, hr⟩ : ∃ r, doF l a = (r, 0) := ⟨(doF l a).1, by rw [← he]⟩
  rw [hr]
  unfold doF at hr
  split at hr
  · exact inst_inv h (by omega) (by omega) hch (by omega) hsl hr
  · split at hr
    · exact rem_inv h hr
    · split at hr
      · exact all_inv h hr
      · split at hr
        · exact set_inv h hch.1 hr
        · exact auto_inv h hr
theorem inv_nil : Inv [] := ⟨(chk_iff []).2 ⟨by simp, by simp, by simp, by simp⟩, fun y hy => by cases hy⟩
end Go.Ag
namespace Go.Ag
open Go Go.Proofs

theorem one_name {l : List Alt} (h : (l.map (·.name)).Pairwise LsB) {y z : Alt} (hy : y ∈ l) (hz : z ∈ l) (e : z.name = y.name) : z = y := by
  obtain ⟨i, hi, rfl⟩ := List.getElem_of_mem hy
  obtain ⟨j, hj, rfl⟩ := List.getElem_of_mem hz
  rw [List.pairwise_map, List.pairwise_iff_getElem] at h
  rcases Nat.lt_trichotomy i j with g | g | g
  · have := h i j hi hj g; rw [e] at this; exact absurd this (lsB_irr _)
  · subst g; rfl
  · have := h j i hj hi g; rw [e] at this; exact absurd this (lsB_irr _)
def Kept (y z : Alt) : Prop := choAt z.choices y.cur ≥ 0 → z.manual = true ∧ z.cur = y.cur
theorem sett_man {x : Alt} (h : x.manual = true) : settA x = x := by rw [settA, if_pos h]
theorem at_name {l : List Alt} {nm : Str} {i : Nat} (hi : l.findIdx? (fun z => z.name == nm) = some i) : ((l[i]?).getD altZ).name = nm ∧ (l[i]?).getD altZ ∈ l := by
  rw [List.findIdx?_eq_some_iff_getElem] at hi
  obtain ⟨hil, h2, _⟩ := hi
  rw [List.getElem?_eq_getElem hil]
  exact ⟨by simpa using h2, List.getElem_mem hil⟩
theorem sett_name (x : Alt) : (settA x).name = x.name := by
  unfold settA
  split
  · rfl
  · split <;> rfl
theorem sett_cho (x : Alt) : (settA x).choices = x.choices := by
  unfold settA
  split
  · rfl
  · split <;> rfl
theorem inst_kept {l r : List Alt} {nm lk : Str} {c : Cho} {ss : List Slv} (h : Inv l) (he : instF l nm lk c ss = (r, 0)) {y z : Alt} (hy : y ∈ l) (hm : y.manual = true) (hz : z ∈ r) (hn : z.name = y.name) : Kept y z := by
  have hl := ((chk_iff l).1 h.1).2.2.1
  have same : z ∈ l → Kept y z := fun hz => by
    rw [one_name hl hy hz hn]; exact fun _ => ⟨hm, rfl⟩
  unfold instF at he
  split at he
  · split at he
    · split at he
      · rename_i hi
        obtain ⟨rfl, _⟩ := fin_ok he
        rcases mem_put hz with hz | rfl
        · exact same hz
        · rw [List.findIdx?_eq_none_iff] at hi
          have := hi y hy
          rw [← hn] at this
          have e : (aloneF nm lk c ss).name = nm := rfl
          rw [e] at this
          simp at this
      · rename_i i hi
        split at he
        · obtain ⟨rfl, _⟩ := fin_ok he
          rcases mem_put hz with hz | rfl
          · exact same hz
          · obtain ⟨g1, g2⟩ := at_name hi
            rw [sett_name] at hn
            have e : (l[i]?).getD altZ = y := one_name hl hy g2 hn
            rw [e]
            rw [sett_man (show (joinF y _ _).manual = true from hm)]
            exact fun _ => ⟨hm, rfl⟩
        · cases he
    · cases he
  · cases he
theorem rem_kept {l r : List Alt} {nm p : Str} (h : Inv l) (he : remF l nm p = (r, 0)) {y z : Alt} (hy : y ∈ l) (hm : y.manual = true) (hz : z ∈ r) (hn : z.name = y.name) : Kept y z := by
  have hl := ((chk_iff l).1 h.1).2.2.1
  have same : z ∈ l → Kept y z := fun hz => by
    rw [one_name hl hy hz hn]; exact fun _ => ⟨hm, rfl⟩
  unfold remF at he
  split at he
  · cases he
  · rename_i i hi
    obtain ⟨g1, g2⟩ := at_name hi
    split at he
    · cases he
    · split at he
      · cases he
        exact same (List.mem_filter.1 hz).1
      · cases he
        rcases mem_put hz with hz | rfl
        · exact same hz
        · rw [sett_name] at hn
          have e : (l[i]?).getD altZ = y := one_name hl hy g2 hn
          rw [e]
          by_cases hc : y.cur = p
          · intro h0
            rw [sett_cho] at h0
            obtain ⟨c, hc1, hc2⟩ := choAt_ge.1 h0
            have := (List.mem_filter.1 hc1).2
            rw [hc2, hc] at this
            simp at this
          · have hm2 : (y.manual && !(y.cur == p)) = true := by rw [hm]; simpa using hc
            rw [sett_man hm2]
            exact fun _ => ⟨hm2, rfl⟩
theorem all_kept {l r : List Alt} {nm : Str} (h : Inv l) (he : allF l nm = (r, 0)) {y z : Alt} (hy : y ∈ l) (hm : y.manual = true) (hz : z ∈ r) (hn : z.name = y.name) : Kept y z := by
  have hl := ((chk_iff l).1 h.1).2.2.1
  unfold allF at he
  split at he
  · cases he
  · cases he
    rw [one_name hl hy (List.mem_filter.1 hz).1 hn]; exact fun _ => ⟨hm, rfl⟩
theorem set_kept {l r : List Alt} {nm p : Str} (h : Inv l) (he : setF l nm p = (r, 0)) {y z : Alt} (hy : y ∈ l) (hm : y.manual = true) (hz : z ∈ r) (hn : z.name = y.name) (hne : nm ≠ y.name) : Kept y z := by
  have hl := ((chk_iff l).1 h.1).2.2.1
  unfold setF at he
  split at he
  · cases he
  · rename_i i hi
    obtain ⟨g1, g2⟩ := at_name hi
    split at he
    · cases he
    · cases he
      rcases mem_put hz with hz | rfl
      · rw [one_name hl hy hz hn]; exact fun _ => ⟨hm, rfl⟩
      · exact absurd (g1.symm.trans hn) hne
theorem auto_kept {l r : List Alt} {nm : Str} (h : Inv l) (he : autoF l nm = (r, 0)) {y z : Alt} (hy : y ∈ l) (hm : y.manual = true) (hz : z ∈ r) (hn : z.name = y.name) (hne : nm ≠ y.name) : Kept y z := by
  have hl := ((chk_iff l).1 h.1).2.2.1
  unfold autoF at he
  split at he
  · cases he
  · rename_i i hi
    obtain ⟨g1, g2⟩ := at_name hi
    cases he
    rcases mem_put hz with hz | rfl
    · rw [one_name hl hy hz hn]; exact fun _ => ⟨hm, rfl⟩
    · rw [sett_name] at hn
      exact absurd (g1.symm.trans hn) hne
theorem do_kept {l : List Alt} {a : Act} (h : Inv l) (hk : 0 ≤ a.kind) (he : (doF l a).2 = 0) {y z : Alt} (hy : y ∈ l) (hm : y.manual = true) (hz : z ∈ (doF l a).1) (hn : z.name = y.name) (hg : a.name = y.name → ¬ k5 a > 2) : Kept y z := by
  obtain ⟨r, hr⟩ : ∃ r, doF l a = (r, 0) := ⟨(doF l a).1, by rw [← he]⟩
  have hk5 : 0 ≤ k5 a := Int.tmod_nonneg 5 hk
  rw [hr] at hz
  unfold doF at hr
  split at hr
  · exact inst_kept h hr hy hm hz hn
  · rename_i h0
    split at hr
    · exact rem_kept h hr hy hm hz hn
    · rename_i h1
      split at hr
      · exact all_kept h hr hy hm hz hn
      · rename_i h2
        split at hr
        · rename_i h3
          exact set_kept h hr hy hm hz hn (fun e => hg e (by rw [beq_iff_eq] at h3; omega))
        · rename_i h3
          simp only [beq_iff_eq] at h0 h1 h2 h3
          exact auto_kept h hr hy hm hz hn (fun e => hg e (by omega))
theorem inv_best {l : List Alt} (h : Inv l) {z : Alt} (hz : z ∈ l) : ∃ (k : Nat) (c : Cho), best z.choices = (k : Int) ∧ z.choices[k]? = some c ∧ (z.manual = false → z.cur = c.path) := by
  have hr := ((chk_iff l).1 h.1).2.1 z hz
  simp only [rightP, Bool.and_eq_true] at hr
  obtain ⟨⟨⟨_, h4⟩, _⟩, h6⟩ := hr
  have hc := (choOk_iff z).1 h4
  obtain ⟨k, c, hb, hk⟩ := best_some hc.2.2.1
  refine ⟨k, c, hb, hk, fun hm => ?_⟩
  have hat := best_at hc.2.1 hk
  simp only [finalB, hm, Bool.false_or, hb, Bool.and_eq_true, decide_eq_true_eq, beq_iff_eq] at h6
  obtain ⟨d, hd, he⟩ := choAt_ge.1 h6.1
  obtain ⟨j, hj⟩ := List.getElem?_of_mem hd
  have hat2 := best_at hc.2.1 hj
  rw [he, h6.2] at hat2
  have : k = j := by omega
  subst this
  rw [hk] at hj
  cases hj
  exact he.symm
end Go.Ag
namespace Go.Ag
open Go Go.Proofs
variable {G : Nat → Option (List V)}
attribute [local irreducible] aops qops Sat aop

theorem find_some {l : List Alt} {p : Str} (h : ¬ findA l p < 0) : ∃ (j : Nat) (z : Alt), findA l p = (j : Int) ∧ j < l.length ∧ l[j]? = some z ∧ z.name = p := by
  unfold findA idxA at h ⊢
  cases hi : l.findIdx? (fun x => x.name == p) with
  | none => rw [hi] at h; exact absurd (by decide) h
  | some j =>
    have hjl := idx_lt hi
    rw [List.findIdx?_eq_some_iff_getElem] at hi
    obtain ⟨_, h2, _⟩ := hi
    exact ⟨j, l[j], rfl, hjl, List.getElem?_eq_getElem hjl, by simpa using h2⟩
set_option maxRecDepth 20000 in
set_option maxHeartbeats 16000000 in
theorem spec_ChooseStays (l : List Act) (m : Int) (hl : l.length ≤ 9223372036854775807) (hkd : ∀ a ∈ l, 0 ≤ a.kind) (hG0 : G 0 = some [.int .i64 m]) (H : List Ob) (K : D → List Ob → Prop) (hK : K (.v (.bool true)) H) : ACalls Tryz.prog G 6 [.v (actsV l)] H K := by
  refine ACalls.go Tryz.f6 _ 150 [2] Tryz.func6 rfl Tryz.ntmps6 (by kernel_rfl) rfl (by simp) (fun E hE hP hG hH => ?_)
  have hM : E.P.follows .mixedOrders = true := hP ▸ mixed
  subst hH
  have haw : ∀ (ts : List (Nat × D)), look ts 2 = .v (.bool true) → Fin E (fr 150 ts) E.H0 [2] K := fun ts h => Fin.is (.v (.bool true)) (by decide) h hK
  simp only [args0]
  (refine W0 (c14 t9 t3 t4 t5 t22 t26 t24 t46 t23 t37 t44 t41 t39 t48) ?_; try with_reducible intro K hK)
  refine spec_Few17 l 40 hl (by decide) _ _ (fun b hb => hK _ _ ?_)
  clear hK K; simp only [lp]
  (refine W0 (c14 t9 t3 t4 t5 t22 t26 t24 t46 t23 t37 t44 t41 t39 t48) ?_; try with_reducible intro K hK)
  refine sat_cond rfl (fun hc => ?_) (fun hc => ?_)
  · (refine W0 (c14 t9 t3 t4 t5 t22 t26 t24 t46 t23 t37 t44 t41 t39 t48) ?_; try with_reducible intro K hK)
    refine spec_awake17 m hG0 _ _ (hK _ _ ?_)
    clear hK K; simp only [lp]
    (refine W0 (c14 t9 t3 t4 t5 t22 t26 t24 t46 t23 t37 t44 t41 t39 t48) ?_; try with_reducible intro K hK)
    exact haw _ rfl
  obtain ⟨hlen, hok⟩ := hb (by simpa using hc)
  (refine W0 (c14 t9 t3 t4 t5 t22 t26 t24 t46 t23 t37 t44 t41 t39 t48) ?_; try with_reducible intro K hK)
  refine sat_loop_ent (fun n ts H => ∃ (i : Nat) (s : List Alt), n = l.length - i ∧ i ≤ l.length ∧ Inv s ∧
    ts = fr 150 [(4, .v (.int .i64 i)), (3, .v (altsV s)), (0, .v (actsV l))] ∧ H = E.H0) (l.length) (ts0 := fr 150 [(4, .v (.int .i64 (0 : Nat))), (3, .v (altsV [])), (0, .v (actsV l))]) (H0 := E.H0) (.weakFr ?_) ⟨0, [], rfl, Nat.zero_le _, inv_nil, rfl, rfl⟩ ?_
  · simp only [le, ↓reduceIte, Nat.reduceEqDiff, and_true]; repeat' (first | exact trivial | exact D.le_refl _ | exact D.le_any _ | with_reducible refine And.intro ?_ ?_)
    exact D.le_nils 6
  rintro n ts H ⟨i, s, rfl, hi, hinv, rfl, rfl⟩
  obtain ⟨hs1, hs2⟩ := hinv.alts
  (refine W0 (c15 @actsV.eq_def t9 t3 t4 t5 t22 t26 t24 t46 t23 t37 t44 t41 t39 t48) ?_; try with_reducible intro K hK)
  refine sat_cond rfl (fun hd => ?_) (fun hd => ?_)
  · simp at hd
    obtain ⟨a, ha⟩ : ∃ a, l[i]? = some a := ⟨_, List.getElem?_eq_getElem hd⟩
    have hao := hok a (List.mem_of_getElem? ha)
    have hw := wrap_succ (i := i) (by omega)
    (refine W0 (c18 @actsV.eq_def @actV.eq_def t9 t3 t4 t5 t22 t26 t24 t46 t23 t37 t44 t41 t39 t48 @ha @hd) ?_; try with_reducible intro K hK)
    refine spec_do s a m hs1 hs2 hao hG0 _ _ (hK _ _ ?_)
    clear hK K; simp only [lp]
    (refine W0 (c14 t9 t3 t4 t5 t22 t26 t24 t46 t23 t37 t44 t41 t39 t48) ?_; try with_reducible intro K hK)
    refine sat_cond rfl (fun he => ?_) (fun he => ?_)
    · (refine W0 (c15 t9 t3 t4 t5 t22 t26 t24 t46 t23 t37 t44 t41 t39 t48 @hw) ?_; try with_reducible intro K hK)
      refine ⟨l.length - (i + 1), _, _, by omega, .weakFr ?_, i + 1, s, rfl, by omega, hinv, rfl, rfl⟩
      simp only [le, ↓reduceIte, Nat.reduceEqDiff, and_true]; repeat' (first | exact trivial | exact D.le_refl _ | exact D.le_any _ | with_reducible refine And.intro ?_ ?_)
    have he : (doF s a).2 = 0 := by simpa using he
    have hinv2 := do_inv hinv hao he
    have hkept : ∀ y ∈ s, y.manual = true → ∀ z ∈ (doF s a).1, z.name = y.name → (a.name = y.name → ¬ k5 a > 2) → Kept y z := fun y hy hm z hz hn hg => do_kept hinv (hkd a (List.mem_of_getElem? ha)) he hy hm hz hn hg
    obtain ⟨ht1, ht2⟩ := hinv2.alts
    clear hao hok hb haw hc he
    generalize hr : (doF s a).1 = r at *
    clear hr
    (refine W0 (c14 t9 t3 t4 t5 t22 t26 t24 t46 t23 t37 t44 t41 t39 t48) ?_; try with_reducible intro K hK)
    refine sat_loop_ent (fun n ts H => ∃ (k : Nat), n = s.length - k ∧ k ≤ s.length ∧
      ts = fr 150 [(7, .v (.int .i64 k)), (5, .v (altsV r)), (4, .v (.int .i64 i)), (3, .v (altsV s)), (0, .v (actsV l))] ∧ H = E.H0) (s.length) (ts0 := fr 150 [(7, .v (.int .i64 (0 : Nat))), (5, .v (altsV r)), (4, .v (.int .i64 i)), (3, .v (altsV s)), (0, .v (actsV l))]) (H0 := E.H0) (.weakFr ?_) ⟨0, rfl, Nat.zero_le _, rfl, rfl⟩ ?_
    · simp only [le, ↓reduceIte, Nat.reduceEqDiff, and_true]; repeat' (first | exact trivial | exact D.le_refl _ | exact D.le_any _ | with_reducible refine And.intro ?_ ?_)
    rintro n ts H ⟨k, rfl, hks, rfl, rfl⟩
    (refine W0 (c15 @altsV.eq_def t9 t3 t4 t5 t22 t26 t24 t46 t23 t37 t44 t41 t39 t48) ?_; try with_reducible intro K hK)
    refine sat_cond rfl (fun hq => ?_) (fun hq => ?_)
    · simp at hq
      obtain ⟨y, hy⟩ : ∃ y, s[k]? = some y := ⟨_, List.getElem?_eq_getElem hq⟩
      have hys := List.mem_of_getElem? hy
      have hwk := wrap_succ (i := k) (by omega)
      (refine W0 (c18 @altsV.eq_def @altV.eq_def t9 t3 t4 t5 t22 t26 t24 t46 t23 t37 t44 t41 t39 t48 @hq @hy) ?_; try with_reducible intro K hK)
      refine spec_Find r y.name (by omega) _ _ (hK _ _ ?_)
      clear hK K; simp only [lp]
      (refine W0 (c14 t9 t3 t4 t5 t22 t26 t24 t46 t23 t37 t44 t41 t39 t48) ?_; try with_reducible intro K hK)
      refine sat_thru (fr 150 [(76, .v (.bool (decide (findA r y.name < 0) || !y.manual || ((a.name == y.name) && decide (k5 a > 2))))), (8, .v (.int .i64 (findA r y.name))), (7, .v (.int .i64 k)), (5, .v (altsV r)), (4, .v (.int .i64 i)), (3, .v (altsV s)), (0, .v (actsV l))]) E.H0 ?_ ?_
      · (first | refine wr ?_ | refine wp rfl hM ?_ | refine wq hM ?_); repeat' (first | (refine G0 (c2 (c19 @altsV.eq_def @altV.eq_def @actsV.eq_def @actV.eq_def t9 t3 t4 t5 t22 t26 t24 t46 t23 t37 t44 t41 t39 t48 @hq) (c3 @hy @hd @ha)) ?_; try with_reducible intro K hK) | ((first | refine Xs rfl rfl (by decide) rfl (fun h => ?_) fun h => ?_ | refine Ys rfl rfl (by decide) rfl (fun h => ?_) fun h => ?_ | refine Zs rfl rfl rfl (by decide) rfl (fun h => ?_) fun h => ?_); rotate_left; (focus (simp only [Bool.not_true, Bool.not_false, lp])); rotate_left))
        all_goals refine .weakFr ?_
        all_goals simp only [le, ↓reduceIte, Nat.reduceEqDiff, and_true]; repeat' (first | exact trivial | exact D.le_refl _ | exact D.le_any _ | with_reducible refine And.intro ?_ ?_)
        all_goals refine D.le_eq (congrArg D.v (congrArg V.bool ?_)); (try simp only [Bool.not_eq_eq_eq_not, Bool.not_true, Bool.not_false] at *); simp only [*, List.getD_eq_getElem?_getD, Bool.and_true, Bool.true_and, Bool.and_false, Bool.false_and, Bool.or_true, Bool.true_or, Bool.or_false, Bool.false_or, Bool.not_true, Bool.not_false, Bool.not_not, k5]
        all_goals rfl
      refine sat_cond rfl (fun hb => ?_) (fun hb => ?_)
      · (refine W0 (c15 t9 t3 t4 t5 t22 t26 t24 t46 t23 t37 t44 t41 t39 t48 @hwk) ?_; try with_reducible intro K hK)
        refine ⟨s.length - (k + 1), _, _, by omega, .weakFr ?_, k + 1, rfl, by omega, rfl, rfl⟩
        simp only [le, ↓reduceIte, Nat.reduceEqDiff, and_true]; repeat' (first | exact trivial | exact D.le_refl _ | exact D.le_any _ | with_reducible refine And.intro ?_ ?_)
      simp only [Bool.or_eq_false_iff, decide_eq_false_iff_not, Bool.not_eq_false', Bool.and_eq_false_iff, beq_eq_false_iff_ne, ne_eq] at hb
      obtain ⟨⟨h1, h2⟩, h3⟩ := hb
      obtain ⟨j, z, e, hjl, hz, hzn⟩ := find_some h1
      have hzr := List.mem_of_getElem? hz
      have hkp := hkept y hys h2 z hzr hzn (fun e => by rcases h3 with h3 | h3; exact absurd e h3; exact h3)
      have hno : (decide (choAt z.choices y.cur ≥ 0) && (!z.manual || !(z.cur == y.cur))) = false := by
        by_cases h0 : choAt z.choices y.cur ≥ 0
        · obtain ⟨g1, g2⟩ := hkp h0
          simp [g1, g2]
        · simp only [h0, decide_false, Bool.false_and]
      rw [e]
      (refine W0 trivial ?_; try with_reducible intro K hK)
      refine sat_thru (fr 150 [(108, .v (.bool (decide (choAt z.choices y.cur ≥ 0) && (!z.manual || !(z.cur == y.cur))))), (7, .v (.int .i64 k)), (5, .v (altsV r)), (4, .v (.int .i64 i)), (3, .v (altsV s)), (0, .v (actsV l))]) E.H0 ?_ ?_
      · (first | refine wr ?_ | refine wp rfl hM ?_ | refine wq hM ?_); repeat' (first | (refine G0 (c20 @altsV.eq_def @altV.eq_def t9 t3 t4 t5 t22 t26 t24 t46 t23 t37 t44 t41 t39 t48 @hq @hy @hjl @hz) ?_; try with_reducible intro K hK) | ((first | refine Xs rfl rfl (by decide) rfl (fun h => ?_) fun h => ?_ | refine Ys rfl rfl (by decide) rfl (fun h => ?_) fun h => ?_ | refine Zs rfl rfl rfl (by decide) rfl (fun h => ?_) fun h => ?_); rotate_left; (focus (simp only [Bool.not_true, Bool.not_false, lp])); rotate_left))
        refine ⟨_, spec_Choice z y.cur (by have := (ht2 z hzr).2.2; omega) _ _ ⟨rfl, rfl⟩, hK _ ?_⟩
        clear hK K; simp only [lp]
        repeat' (first | (refine G0 (c20 @altsV.eq_def @altV.eq_def t9 t3 t4 t5 t22 t26 t24 t46 t23 t37 t44 t41 t39 t48 @hq @hy @hjl @hz) ?_; try with_reducible intro K hK) | ((first | refine Xs rfl rfl (by decide) rfl (fun h => ?_) fun h => ?_ | refine Ys rfl rfl (by decide) rfl (fun h => ?_) fun h => ?_ | refine Zs rfl rfl rfl (by decide) rfl (fun h => ?_) fun h => ?_); rotate_left; (focus (simp only [Bool.not_true, Bool.not_false, lp])); rotate_left))
        all_goals refine .weakFr ?_
        all_goals simp only [le, ↓reduceIte, Nat.reduceEqDiff, and_true]; repeat' (first | exact trivial | exact D.le_refl _ | exact D.le_any _ | with_reducible refine And.intro ?_ ?_)
        all_goals refine D.le_eq (congrArg D.v (congrArg V.bool ?_)); (try simp only [Bool.not_eq_eq_eq_not, Bool.not_true, Bool.not_false] at *); simp only [*, List.getD_eq_getElem?_getD, Bool.and_true, Bool.true_and, Bool.and_false, Bool.false_and, Bool.or_true, Bool.true_or, Bool.or_false, Bool.false_or, Bool.not_true, Bool.not_false, Bool.not_not]
      refine sat_cond rfl (fun hb => ?_) (fun hb => ?_)
      · rw [hno] at hb; cases hb
      (refine W0 (c15 t9 t3 t4 t5 t22 t26 t24 t46 t23 t37 t44 t41 t39 t48 @hwk) ?_; try with_reducible intro K hK)
      refine ⟨s.length - (k + 1), _, _, by omega, .weakFr ?_, k + 1, rfl, by omega, rfl, rfl⟩
      simp only [le, ↓reduceIte, Nat.reduceEqDiff, and_true]; repeat' (first | exact trivial | exact D.le_refl _ | exact D.le_any _ | with_reducible refine And.intro ?_ ?_)
    simp at hq
    (refine W0 (c14 t9 t3 t4 t5 t22 t26 t24 t46 t23 t37 t44 t41 t39 t48) ?_; try with_reducible intro K hK)
    refine sat_loop_ent (fun n ts H => ∃ (k : Nat), n = r.length - k ∧ k ≤ r.length ∧
      ts = fr 150 [(9, .v (.int .i64 k)), (5, .v (altsV r)), (4, .v (.int .i64 i)), (0, .v (actsV l))] ∧ H = E.H0) (r.length) (ts0 := fr 150 [(9, .v (.int .i64 (0 : Nat))), (5, .v (altsV r)), (4, .v (.int .i64 i)), (0, .v (actsV l))]) (H0 := E.H0) (.weakFr ?_) ⟨0, rfl, Nat.zero_le _, rfl, rfl⟩ ?_
    · simp only [le, ↓reduceIte, Nat.reduceEqDiff, and_true]; repeat' (first | exact trivial | exact D.le_refl _ | exact D.le_any _ | with_reducible refine And.intro ?_ ?_)
    rintro n ts H ⟨k, rfl, hks, rfl, rfl⟩
    (refine W0 (c15 @altsV.eq_def t9 t3 t4 t5 t22 t26 t24 t46 t23 t37 t44 t41 t39 t48) ?_; try with_reducible intro K hK)
    refine sat_cond rfl (fun hq => ?_) (fun hq => ?_)
    · simp at hq
      obtain ⟨z, hz⟩ : ∃ z, r[k]? = some z := ⟨_, List.getElem?_eq_getElem hq⟩
      have hzr := List.mem_of_getElem? hz
      have hwk := wrap_succ (i := k) (by omega)
      obtain ⟨b, c, hb, hc, hm⟩ := inv_best hinv2 hzr
      have hbl := (List.getElem?_eq_some_iff.1 hc).1
      have hno : (!z.manual && !(z.cur == c.path)) = false := by
        cases hm2 : z.manual
        · simp [hm hm2]
        · rfl
      (refine W0 (c18 @altsV.eq_def @altV.eq_def t9 t3 t4 t5 t22 t26 t24 t46 t23 t37 t44 t41 t39 t48 @hq @hz) ?_; try with_reducible intro K hK)
      refine spec_Best z.choices (by have := (ht2 z hzr).2.2; omega) _ _ (hK _ _ ?_)
      clear hK K; simp only [lp]
      rw [hb]
      (refine W0 (c14 t9 t3 t4 t5 t22 t26 t24 t46 t23 t37 t44 t41 t39 t48) ?_; try with_reducible intro K hK)
      refine sat_thru (fr 150 [(147, .v (.bool (!z.manual && !(z.cur == c.path)))), (9, .v (.int .i64 k)), (5, .v (altsV r)), (4, .v (.int .i64 i)), (0, .v (actsV l))]) E.H0 ?_ ?_
      · (first | refine wr ?_ | refine wp rfl hM ?_ | refine wq hM ?_); repeat' (first | (refine G0 (c2 (c19 @altsV.eq_def @altV.eq_def @chos.eq_def t9 t3 t4 t5 t22 t26 t24 t46 t23 t37 t44 t41 t39 t48 @hq @hz) (c3 @hbl @hc @natneg)) ?_; try with_reducible intro K hK) | ((first | refine Xs rfl rfl (by decide) rfl (fun h => ?_) fun h => ?_ | refine Ys rfl rfl (by decide) rfl (fun h => ?_) fun h => ?_ | refine Zs rfl rfl rfl (by decide) rfl (fun h => ?_) fun h => ?_); rotate_left; (focus (simp only [Bool.not_true, Bool.not_false, lp])); rotate_left))
        all_goals refine .weakFr ?_
        all_goals simp only [le, ↓reduceIte, Nat.reduceEqDiff, and_true]; repeat' (first | exact trivial | exact D.le_refl _ | exact D.le_any _ | with_reducible refine And.intro ?_ ?_)
        all_goals refine D.le_eq (congrArg D.v (congrArg V.bool ?_)); (try simp only [Bool.not_eq_eq_eq_not, Bool.not_true, Bool.not_false] at *); simp only [*, List.getD_eq_getElem?_getD, Bool.and_true, Bool.true_and, Bool.and_false, Bool.false_and, Bool.or_true, Bool.true_or, Bool.or_false, Bool.false_or, Bool.not_true, Bool.not_false, Bool.not_not]
      refine sat_cond rfl (fun hb => ?_) (fun hb => ?_)
      · rw [hno] at hb; cases hb
      (refine W0 (c15 t9 t3 t4 t5 t22 t26 t24 t46 t23 t37 t44 t41 t39 t48 @hwk) ?_; try with_reducible intro K hK)
      refine ⟨r.length - (k + 1), _, _, by omega, .weakFr ?_, k + 1, rfl, by omega, rfl, rfl⟩
      simp only [le, ↓reduceIte, Nat.reduceEqDiff, and_true]; repeat' (first | exact trivial | exact D.le_refl _ | exact D.le_any _ | with_reducible refine And.intro ?_ ?_)
    (refine W0 (c15 t9 t3 t4 t5 t22 t26 t24 t46 t23 t37 t44 t41 t39 t48 @hw) ?_; try with_reducible intro K hK)
    refine ⟨l.length - (i + 1), _, _, by omega, .weakFr ?_, i + 1, r, rfl, by omega, hinv2, rfl, rfl⟩
    simp only [le, ↓reduceIte, Nat.reduceEqDiff, and_true]; repeat' (first | exact trivial | exact D.le_refl _ | exact D.le_any _ | with_reducible refine And.intro ?_ ?_)
  · (refine W0 (c14 t9 t3 t4 t5 t22 t26 t24 t46 t23 t37 t44 t41 t39 t48) ?_; try with_reducible intro K hK)
    refine spec_awake17 m hG0 _ _ (hK _ _ ?_)
    clear hK K; simp only [lp]
    (refine W0 (c14 t9 t3 t4 t5 t22 t26 t24 t46 t23 t37 t44 t41 t39 t48) ?_; try with_reducible intro K hK)
    exact haw _ rfl
end Go.Ag
