import Derived.Test.YtgnojlbihhnphaaGreatDoorAgCf
import Derived.DeepKeys5
set_option linter.all false
namespace Go.Ag
open Go Go.Proofs
variable {G : Nat → Option (List V)}
attribute [local irreducible] aops qops Sat aop

theorem compact_le (l : List Str) : (Lib.compact l).length ≤ l.length := by
  unfold Lib.compact Lib.compactUpTo
  simp only [List.length_map]
  exact Nat.le_trans (List.length_filter_le _ _) (by simp)
def sortS (l : List Str) : List Str := l.mergeSort fun x y => decide (x ≤ y)
def sortedS (l : List Str) : List Str := Lib.compact (sortS l)
theorem sortS_len (l : List Str) : (sortS l).length = l.length := List.length_mergeSort _

set_option maxHeartbeats 4000000 in
theorem spec_Sorted (l : List Str) (hne : l ≠ []) (hl : l.length ≤ 2000000) (H : List Ob) (K : D → List Ob → Prop) (hK : K (.v (strs (sortedS l))) H) : ACalls Tryz.prog G 60 [.v (strs l)] H K := by
  refine ACalls.go Tryz.f60 _ 10 [2] Tryz.func60 rfl Tryz.ntmps60 (by kernel_rfl) rfl (by simp) (fun E hE hP hG hH => ?_)
  have hM : E.P.follows .mixedOrders = true := hP ▸ mixed
  subst hH
  simp only [args0]
  (refine W0 trivial ?_; try with_reducible intro K hK)
  refine lib_Clone (by kernel_rfl) l hne (fun b off n c zs w h1 h2 h3 => Tryz.slices_Clone_string b off n c zs w h1 h2 h3) (by omega) (hK _ _ ?_)
  clear hK K; simp only [lp]
  (refine W0 trivial ?_; try with_reducible intro K hK)
  refine lib_Sort (by kernel_rfl) _ 1 l (by rw [hp_get0]; rfl) (fun blk off cap ss w h1 h2 h3 => Tryz.slices_Sort_string blk off cap ss w h1 h2 h3) (by omega) (hK _ _ ?_)
  clear hK K; simp only [lp]
  rw [hp_set0]
  change aops _ _ _ _ (E.H0 ++ [.arr 1 1 (rowsS (sortS l)) 0]) _
  (refine W0 trivial ?_; try with_reducible intro K hK)
  have hs := sortS_len l
  rw [← hs]
  refine lib_Compact (by kernel_rfl) _ 1 (sortS l) (by rw [hp_get0]; rfl) (fun blk off cap zs w h1 h2 h3 => Tryz.slices_Compact_string blk off cap zs w h1 h2 h3) (by omega) (compact_le _) (hK _ _ ?_)
  clear hK K; simp only [lp]
  rw [hp_set0]
  change aops _ _ _ _ (E.H0 ++ [.arr 1 1 (rowsS (Lib.compact (sortS l) ++ List.replicate ((sortS l).length - (Lib.compact (sortS l)).length) [])) 0]) _
  (refine W0 trivial ?_; try with_reducible intro K hK)
  refine Fin.acs (m := 0) (d := .own (E.H0.length + 0) 1 (sortedS l).length) (ys := (sortedS l).map fun s => [.str s]) hE (.inr ⟨1, (Lib.compact (sortS l) ++ List.replicate ((sortS l).length - (Lib.compact (sortS l)).length) []).map fun s => [.str s], Nat.le_refl _, ?_, ?_, ?_, ?_⟩) (by decide) rfl hK
  · simp [sortedS]
  · rw [List.length_map, ← List.map_take]
    unfold sortedS
    rw [List.take_append_of_le_length (Nat.le_refl _), take_len]
  · simp
  · simp [rowsS]

def rightP (x : Alt) : Bool := nameOk x.name && placeB x.link && slavesOk x && choicesOk x && ((sortedS (links x)).length == (links x).length) && finalB x
set_option maxHeartbeats 16000000 in
theorem spec_AltRight (x : Alt) (m : Int) (hm : altMid x) (hG0 : G 0 = some [.int .i64 m]) (H : List Ob) (K : D → List Ob → Prop) (hK : K (.v (.bool (rightP x))) H) : ACalls Tryz.prog G 28 [altd x] H K := by
  refine ACalls.go Tryz.f28 _ 50 [2] Tryz.func28 rfl Tryz.ntmps28 (by kernel_rfl) rfl (by simp) (fun E hE hP hG hH => ?_)
  have hM : E.P.follows .mixedOrders = true := hP ▸ mixed
  have hll := links_len x
  have hcl := compact_le (sortS (links x))
  have hsl := sortS_len (links x)
  obtain ⟨m1, m2, m3, m4, m5, m6, m7⟩ := hm
  have k1 : ∀ s ∈ x.slaves, s.name.length < 4294967281 ∧ s.link.length < 4294967281 := fun s hs => by have := m6 s hs; omega
  have k2 : ∀ c ∈ x.choices, c.path.length < 4294967281 ∧ c.slaves.length ≤ 1099511627 ∧ ∀ t ∈ c.slaves, t.length < 4294967281 := fun c hc => by
    obtain ⟨a1, a2, a3⟩ := m7 c hc
    exact ⟨by omega, by omega, fun t ht => by have := a3 t ht; omega⟩
  subst hH
  simp only [args0, altd]
  (refine W0 (c3 t3 t9 t26) ?_; try with_reducible intro K hK)
  refine sat_thru (fr 50 [(24, .v (.bool (!(nameOk x.name && placeB x.link && slavesOk x && choicesOk x)))), (2, .v (.bool false)), (1, .ptr E.H0.length 0)]) (E.H0 ++ [altB x]) ?_ ?_
  · (first | refine wr ?_ | refine wp rfl hM ?_ | refine wq hM ?_); repeat' (first | (refine G0 (c4 t3 t4 t9 t26) ?_; try with_reducible intro K hK) | ((first | refine Xs rfl rfl (by decide) rfl (fun h => ?_) fun h => ?_ | refine Ys rfl rfl (by decide) rfl (fun h => ?_) fun h => ?_ | refine Zs rfl rfl rfl (by decide) rfl (fun h => ?_) fun h => ?_); rotate_left; (focus (simp only [Bool.not_true, Bool.not_false, lp])); rotate_left))
    refine spec_Name _ (by omega) _ _ (hK _ _ ?_)
    clear hK K; simp only [lp]
    repeat' (first | (refine G0 (c4 t3 t4 t9 t26) ?_; try with_reducible intro K hK) | ((first | refine Xs rfl rfl (by decide) rfl (fun h => ?_) fun h => ?_ | refine Ys rfl rfl (by decide) rfl (fun h => ?_) fun h => ?_ | refine Zs rfl rfl rfl (by decide) rfl (fun h => ?_) fun h => ?_); rotate_left; (focus (simp only [Bool.not_true, Bool.not_false, lp])); rotate_left))
    · refine spec_place _ m (by omega) hG0 _ _ (hK _ _ ?_)
      clear hK K; simp only [lp]
      repeat' (first | (refine G0 (c4 t3 t4 t9 t26) ?_; try with_reducible intro K hK) | ((first | refine Xs rfl rfl (by decide) rfl (fun h => ?_) fun h => ?_ | refine Ys rfl rfl (by decide) rfl (fun h => ?_) fun h => ?_ | refine Zs rfl rfl rfl (by decide) rfl (fun h => ?_) fun h => ?_); rotate_left; (focus (simp only [Bool.not_true, Bool.not_false, lp])); rotate_left))
      · refine spec_slaves x m (by omega) k1 hG0 _ _ (hK _ _ ?_)
        clear hK K; simp only [lp]
        repeat' (first | (refine G0 (c4 t3 t4 t9 t26) ?_; try with_reducible intro K hK) | ((first | refine Xs rfl rfl (by decide) rfl (fun h => ?_) fun h => ?_ | refine Ys rfl rfl (by decide) rfl (fun h => ?_) fun h => ?_ | refine Zs rfl rfl rfl (by decide) rfl (fun h => ?_) fun h => ?_); rotate_left; (focus (simp only [Bool.not_true, Bool.not_false, lp])); rotate_left))
        · refine spec_choices x m (by omega) k2 hG0 _ _ (hK _ _ ?_)
          clear hK K; simp only [lp]
          repeat' (first | (refine G0 (c4 t3 t4 t9 t26) ?_; try with_reducible intro K hK) | ((first | refine Xs rfl rfl (by decide) rfl (fun h => ?_) fun h => ?_ | refine Ys rfl rfl (by decide) rfl (fun h => ?_) fun h => ?_ | refine Zs rfl rfl rfl (by decide) rfl (fun h => ?_) fun h => ?_); rotate_left; (focus (simp only [Bool.not_true, Bool.not_false, lp])); rotate_left))
          refine .weakFr ?_
          simp only [le, ↓reduceIte, Nat.reduceEqDiff, and_true]; repeat' (first | exact trivial | exact D.le_refl _ | exact D.le_any _ | with_reducible refine And.intro ?_ ?_)
          all_goals refine D.le_eq (congrArg D.v (congrArg V.bool ?_)); (try simp only [Bool.not_eq_eq_eq_not, Bool.not_true, Bool.not_false] at *); simp only [*, List.getD_eq_getElem?_getD, Bool.and_true, Bool.true_and, Bool.and_false, Bool.false_and, Bool.or_true, Bool.true_or, Bool.or_false, Bool.false_or, Bool.not_true, Bool.not_false, Bool.not_not]
        · refine .weakFr ?_
          simp only [le, ↓reduceIte, Nat.reduceEqDiff, and_true]; repeat' (first | exact trivial | exact D.le_refl _ | exact D.le_any _ | with_reducible refine And.intro ?_ ?_)
          all_goals refine D.le_eq (congrArg D.v (congrArg V.bool ?_)); (try simp only [Bool.not_eq_eq_eq_not, Bool.not_true, Bool.not_false] at *); simp only [*, List.getD_eq_getElem?_getD, Bool.and_true, Bool.true_and, Bool.and_false, Bool.false_and, Bool.or_true, Bool.true_or, Bool.or_false, Bool.false_or, Bool.not_true, Bool.not_false, Bool.not_not]
      · refine .weakFr ?_
        simp only [le, ↓reduceIte, Nat.reduceEqDiff, and_true]; repeat' (first | exact trivial | exact D.le_refl _ | exact D.le_any _ | with_reducible refine And.intro ?_ ?_)
        all_goals refine D.le_eq (congrArg D.v (congrArg V.bool ?_)); (try simp only [Bool.not_eq_eq_eq_not, Bool.not_true, Bool.not_false] at *); simp only [*, List.getD_eq_getElem?_getD, Bool.and_true, Bool.true_and, Bool.and_false, Bool.false_and, Bool.or_true, Bool.true_or, Bool.or_false, Bool.false_or, Bool.not_true, Bool.not_false, Bool.not_not]
    · refine .weakFr ?_
      simp only [le, ↓reduceIte, Nat.reduceEqDiff, and_true]; repeat' (first | exact trivial | exact D.le_refl _ | exact D.le_any _ | with_reducible refine And.intro ?_ ?_)
      all_goals refine D.le_eq (congrArg D.v (congrArg V.bool ?_)); (try simp only [Bool.not_eq_eq_eq_not, Bool.not_true, Bool.not_false] at *); simp only [*, List.getD_eq_getElem?_getD, Bool.and_true, Bool.true_and, Bool.and_false, Bool.false_and, Bool.or_true, Bool.true_or, Bool.or_false, Bool.false_or, Bool.not_true, Bool.not_false, Bool.not_not]
  refine sat_cond rfl (fun hb => ?_) (fun hb => ?_)
  · (refine W0 trivial ?_; try with_reducible intro K hK)
    refine Fin.gc (.v (.bool false)) hE (by decide) rfl (by simp only [D.lt]) ?_
    have : rightP x = false := by simp only [rightP]; rw [show (nameOk x.name && placeB x.link && slavesOk x && choicesOk x) = false by rw [Bool.not_eq_true'] at hb; exact hb]; rfl
    rwa [this] at hK
  have hb' : (nameOk x.name && placeB x.link && slavesOk x && choicesOk x) = true := by rw [Bool.not_eq_false'] at hb; exact hb
  (refine W0 (c5 @altB.eq_def @altV.eq_def t3 t9 t26) ?_; try with_reducible intro K hK)
  refine spec_Links x (by omega) _ _ (hK _ _ ?_)
  clear hK K; simp only [lp]
  (refine W0 (c5 @altB.eq_def @altV.eq_def t3 t9 t26) ?_; try with_reducible intro K hK)
  refine spec_Sorted (links x) (by simp [links]) (by omega) _ _ (hK _ _ ?_)
  clear hK K; simp only [lp]
  (refine W0 (c5 @strs.eq_def t3 t9 t26 t44) ?_; try with_reducible intro K hK)
  refine sat_cond rfl (fun hc => ?_) (fun hc => ?_)
  · (refine W0 trivial ?_; try with_reducible intro K hK)
    refine Fin.gc (.v (.bool false)) hE (by decide) rfl (by simp only [D.lt]) ?_
    have : rightP x = false := by
      rw [Bool.not_eq_true'] at hc
      simp only [rightP, hb', hc]; rfl
    rwa [this] at hK
  have e2 : rightP x = finalB x := by
    rw [Bool.not_eq_false'] at hc
    simp only [rightP, hb', hc, Bool.true_and]
  rw [e2] at hK
  (refine W0 (c5 @altB.eq_def @altV.eq_def t3 t9 t26) ?_; try with_reducible intro K hK)
  refine spec_Choice x x.cur (by omega) _ _ (hK _ _ ?_)
  clear hK K; simp only [lp]
  (refine W0 trivial ?_; try with_reducible intro K hK)
  refine sat_thru (fr 50 [(2, .v (.bool (finalB x)))]) E.H0 ?_ ?_
  · (first | refine wr ?_ | refine wp rfl hM ?_ | refine wq hM ?_); repeat' (first | (refine G0 (c7 @altB.eq_def @altV.eq_def t3 t4 t9 t26 t24) ?_; try with_reducible intro K hK) | ((first | refine Xs rfl rfl (by decide) rfl (fun h => ?_) fun h => ?_ | refine Ys rfl rfl (by decide) rfl (fun h => ?_) fun h => ?_ | refine Zs rfl rfl rfl (by decide) rfl (fun h => ?_) fun h => ?_); rotate_left; (focus (simp only [Bool.not_true, Bool.not_false, lp])); rotate_left))
    · refine spec_Best x.choices (by omega) _ _ (hK _ _ ?_)
      clear hK K; simp only [lp]
      repeat' (first | (refine G0 (c7 @altB.eq_def @altV.eq_def t3 t4 t9 t26 t24) ?_; try with_reducible intro K hK) | ((first | refine Xs rfl rfl (by decide) rfl (fun h => ?_) fun h => ?_ | refine Ys rfl rfl (by decide) rfl (fun h => ?_) fun h => ?_ | refine Zs rfl rfl rfl (by decide) rfl (fun h => ?_) fun h => ?_); rotate_left; (focus (simp only [Bool.not_true, Bool.not_false, lp])); rotate_left))
      refine Ent.round0 hE ?_ (by simp [ltAll, ltObs, Ob.lt, D.lt, D.ltL, or_imp, forall_and])
      simp only [le, ↓reduceIte, Nat.reduceEqDiff, and_true]; repeat' (first | exact trivial | exact D.le_refl _ | exact D.le_any _ | with_reducible refine And.intro ?_ ?_)
      all_goals refine D.le_eq (congrArg D.v (congrArg V.bool ?_)); (try simp only [Bool.not_eq_eq_eq_not, Bool.not_true, Bool.not_false] at *); simp only [*, List.getD_eq_getElem?_getD, Bool.and_true, Bool.true_and, Bool.and_false, Bool.false_and, Bool.or_true, Bool.true_or, Bool.or_false, Bool.false_or, Bool.not_true, Bool.not_false, Bool.not_not, finalB]
    · refine Ent.round0 hE ?_ (by simp [ltAll, ltObs, Ob.lt, D.lt, D.ltL, or_imp, forall_and])
      simp only [le, ↓reduceIte, Nat.reduceEqDiff, and_true]; repeat' (first | exact trivial | exact D.le_refl _ | exact D.le_any _ | with_reducible refine And.intro ?_ ?_)
      all_goals refine D.le_eq (congrArg D.v (congrArg V.bool ?_)); (try simp only [Bool.not_eq_eq_eq_not, Bool.not_true, Bool.not_false] at *); simp only [*, List.getD_eq_getElem?_getD, Bool.and_true, Bool.true_and, Bool.and_false, Bool.false_and, Bool.or_true, Bool.true_or, Bool.or_false, Bool.false_or, Bool.not_true, Bool.not_false, Bool.not_not, finalB]
    · refine Ent.round0 hE ?_ (by simp [ltAll, ltObs, Ob.lt, D.lt, D.ltL, or_imp, forall_and])
      simp only [le, ↓reduceIte, Nat.reduceEqDiff, and_true]; repeat' (first | exact trivial | exact D.le_refl _ | exact D.le_any _ | with_reducible refine And.intro ?_ ?_)
      all_goals refine D.le_eq (congrArg D.v (congrArg V.bool ?_)); (try simp only [Bool.not_eq_eq_eq_not, Bool.not_true, Bool.not_false] at *); simp only [*, List.getD_eq_getElem?_getD, Bool.and_true, Bool.true_and, Bool.and_false, Bool.false_and, Bool.or_true, Bool.true_or, Bool.or_false, Bool.false_or, Bool.not_true, Bool.not_false, Bool.not_not, finalB]
  (refine W0 trivial ?_; try with_reducible intro K hK)
  exact Fin.is _ (by decide) rfl hK
end Go.Ag
namespace Go.Ag
open Go Go.Proofs
variable {G : Nat → Option (List V)}
attribute [local irreducible] aops qops Sat aop

theorem laid0 : laidOutB Tryz.prog = true := by kernel_rfl
theorem keyed87 : Maps.Keyed Tryz.prog 73 := Maps.Keyed.of_law (deep_law_gate laid0 (of_decide_eq_true (by kernel_rfl)) (of_decide_eq_true (by kernel_rfl)) (by kernel_rfl) (by kernel_rfl))
def thD (t : Thg) : D := .agg ((thR t).map .v)
theorem kt87 : Tryz.prog.keyType 73 = true := by kernel_rfl
theorem co87 : Tryz.prog.cellsOf 73 = 2 := by kernel_rfl
def chkSt (a b : TypeId) (d : Option TypeDesc) : Bool := match d with
  | some (.struct fs) => (match fs.toList with
    | [f, g] => f.type == a && g.type == b && f.offset == 0 && g.offset == 1 && f.name != "_" && g.name != "_"
    | _ => false)
  | _ => false
theorem chkSt_get {a b : TypeId} {d : Option TypeDesc} (h : chkSt a b d = true) : ∃ f g : Field, d = some (.struct #[f, g]) ∧ f.type = a ∧ g.type = b ∧ f.offset = 0 ∧ g.offset = 1 ∧ (f.name != "_") = true ∧ (g.name != "_") = true := by
  unfold chkSt at h
  split at h
  · rename_i fs
    split at h
    · rename_i f g hfs
      simp only [Bool.and_eq_true, beq_iff_eq] at h
      obtain ⟨⟨⟨⟨⟨h1, h2⟩, h3⟩, h4⟩, h5⟩, h6⟩ := h
      exact ⟨f, g, by rw [show fs = #[f, g] from by apply Array.toList_inj.1; simpa using hfs], h1, h2, h3, h4, h5, h6⟩
    · cases h
  · cases h
theorem u87 : ∃ f g : Field, Tryz.prog.underlying 73 = some (.struct #[f, g]) ∧ f.type = 4 ∧ g.type = 9 ∧ f.offset = 0 ∧ g.offset = 1 ∧ (f.name != "_") = true ∧ (g.name != "_") = true := chkSt_get (by kernel_rfl)
theorem cz4 : Tryz.prog.cellsOf 4 = 1 := by kernel_rfl
theorem cz9 : Tryz.prog.cellsOf 9 = 1 := by kernel_rfl
theorem u4 : Tryz.prog.underlying 4 = some .bool := by kernel_rfl
theorem u9 : Tryz.prog.underlying 9 = some .string := by kernel_rfl
theorem tsz : ∃ n, Tryz.prog.types.size + 1 = n + 2 := ⟨Tryz.prog.types.size - 1, by have : 1 ≤ Tryz.prog.types.size := of_decide_eq_true (by kernel_rfl); omega⟩
theorem thD_key (t : Thg) (h : t.2.length ≤ 1000000) : KeyD Tryz.prog 73 (thD t) := by
  obtain ⟨f, g, hu, f1, g1, f2, g2, f3, g3⟩ := u87
  obtain ⟨n, hn⟩ := tsz
  have hl : (⟨t.2.toArray⟩ : ByteArray).size ≤ maxLen := by
    rw [size_mk]; exact Nat.le_trans h (by decide)
  have hkl : Tryz.prog.keyLits (n + 2) 73 [.bool t.1, .string ⟨t.2.toArray⟩] = some [.bool t.1, .string t.2] := by
    have k4 : Tryz.prog.keyLits (n + 1) 4 [.bool t.1] = some [.bool t.1] := by
      unfold Program.keyLits; rw [u4]
    have k9 : Tryz.prog.keyLits (n + 1) 9 [.string ⟨t.2.toArray⟩] = some [.string t.2] := by
      unfold Program.keyLits; rw [u9]; simp only [hl, if_true]
    unfold Program.keyLits
    rw [hu]
    simp only [co87]
    rw [if_pos ⟨rfl, by simp only [Array.all_eq_true']; intro x hx; simp at hx; rcases hx with rfl | rfl <;> assumption⟩]
    simp only [List.mapM_cons, List.mapM_nil, f1, g1, f2, g2, cz4, cz9, List.drop_zero, List.drop_succ_cons, List.take_succ_cons, List.take_zero, k4, k9]
    rfl
  refine ⟨.agg #[.bool t.1, .string ⟨t.2.toArray⟩], .string (keyBytes [.bool t.1, .string t.2]), by simp [thD, thR, kval, kvalL], ?_⟩
  unfold keyOf
  rw [hu]
  simp only [kt87, Bool.true_and, Value.formed, hu, co87]
  rw [hn]
  have : (Value.agg #[.bool t.1, .string ⟨t.2.toArray⟩]).cells.toList = [.bool t.1, .string ⟨t.2.toArray⟩] := rfl
  rw [this, hkl]
  rfl

theorem thD_inj {t u : Thg} (h : thD t = thD u) : t = u := by
  simp only [thD, thR, List.map_cons, List.map_nil, D.agg.injEq, List.cons.injEq, D.v.injEq, V.bool.injEq, V.str.injEq, and_true] at h
  exact Prod.ext h.1 h.2
theorem zero3 : zeroD Tryz.prog 3 = some (.v (.int .i64 0)) := by kernel_rfl
theorem aLookup_is {P : Program} {t kt et : TypeId} {b : Nat} {k v z : D} {H : List Ob} {es : List (D × D × Nat)} {K : D → Prop} (hH : H[b]? = some (.mp es)) (ht : tk P t = .mp kt et) (KD : Maps.Keyed P kt) (hk : KeyD P kt k) (hes : ∀ e ∈ es, KeyD P kt e.1) (hz : zeroD P et = some z)
    (h1 : ∀ e ∈ es, e.1 = k → e.2.1 = v) (h2 : (∃ e ∈ es, e.1 = k) ∨ z = v) (hK : K v) : aLookup P t (.map b) k false H K := by
  unfold aLookup
  simp only [hH, ht]
  refine ⟨KD, hk, hes, ?_⟩
  by_cases he : ∃ e ∈ es, e.1 = k
  · exact .inl ⟨v, he, h1, by simpa using hK⟩
  · refine .inr ⟨fun e h e' => he ⟨e, h, e'⟩, z, hz, ?_⟩
    rcases h2 with h2 | rfl
    · exact absurd h2 he
    · simpa using hK

/-- The map, as what was seen. -/
def seenAs (seen : List Thg) (es : List (D × D × Nat)) : Prop := es.length = seen.length ∧ ∀ (i : Nat) (e : D × D × Nat), es[i]? = some e → ∃ t, seen[i]? = some t ∧ e.1 = thD t ∧ e.2.1 = .v (.int .i64 1)
theorem seenAs.nil : seenAs [] [] := ⟨rfl, fun i e h => by simp at h⟩
theorem seenAs.mem {seen : List Thg} {es : List (D × D × Nat)} (h : seenAs seen es) {e : D × D × Nat} (he : e ∈ es) : ∃ t ∈ seen, e.1 = thD t ∧ e.2.1 = .v (.int .i64 1) := by
  obtain ⟨i, hi⟩ := List.mem_iff_getElem?.1 he
  obtain ⟨t, h1, h2⟩ := h.2 i e hi
  exact ⟨t, List.mem_of_getElem? h1, h2⟩
theorem seenAs.keys {seen : List Thg} {es : List (D × D × Nat)} (h : seenAs seen es) (hs : ∀ t ∈ seen, t.2.length ≤ 1000000) : ∀ e ∈ es, KeyD Tryz.prog 73 e.1 := fun e he => by
  obtain ⟨t, h1, h2, _⟩ := h.mem he
  rw [h2]; exact thD_key t (hs t h1)
theorem seenAs.none {seen : List Thg} {es : List (D × D × Nat)} (h : seenAs seen es) {t : Thg} (ht : t ∉ seen) : ∀ e ∈ es, e.1 ≠ thD t := fun e he e' => by
  obtain ⟨u, h1, h2, _⟩ := h.mem he
  rw [h2] at e'
  rw [← thD_inj e'] at ht
  exact ht h1
theorem seenAs.some {seen : List Thg} {es : List (D × D × Nat)} (h : seenAs seen es) {t : Thg} (ht : t ∈ seen) (hn : seen.Nodup) : ∃ (j n : Nat), es[j]? = some (thD t, .v (.int .i64 1), n) ∧ ∀ (i : Nat) (e : D × D × Nat), es[i]? = some e → e.1 = thD t → i = j ∧ e = (thD t, .v (.int .i64 1), n) := by
  obtain ⟨j, hj⟩ := List.mem_iff_getElem?.1 ht
  have hjl : j < es.length := by have := (List.getElem?_eq_some_iff.1 hj).1; rw [h.1]; exact this
  obtain ⟨u, h1, h2, h3⟩ := h.2 j _ (List.getElem?_eq_getElem hjl)
  rw [hj] at h1; cases h1
  have e0 : es[j]? = Option.some (thD t, .v (.int .i64 1), es[j].2.2) := by
    rw [List.getElem?_eq_getElem hjl]
    congr 1
    exact Prod.ext h2 (Prod.ext h3 rfl)
  refine ⟨j, es[j].2.2, e0, fun i e hi hk => ?_⟩
  obtain ⟨u, g1, g2, _⟩ := h.2 i e hi
  rw [g2] at hk
  obtain rfl := thD_inj hk
  have hij : i = j := by
    obtain ⟨p1, q1⟩ := List.getElem?_eq_some_iff.1 g1
    obtain ⟨p2, q2⟩ := List.getElem?_eq_some_iff.1 hj
    apply Classical.byContradiction
    intro hne
    rcases Nat.lt_or_gt_of_ne hne with hlt | hlt
    · exact (List.pairwise_iff_getElem.1 hn i j p1 p2 hlt) (q1.trans q2.symm)
    · exact (List.pairwise_iff_getElem.1 hn j i p2 p1 hlt) (q2.trans q1.symm)
  subst hij
  rw [e0] at hi; cases hi
  exact ⟨rfl, rfl⟩
theorem seenAs.snoc {seen : List Thg} {es : List (D × D × Nat)} (h : seenAs seen es) (t : Thg) (n : Nat) : seenAs (seen ++ [t]) (es ++ [(thD t, .v (.int .i64 1), n)]) := by
  refine ⟨by simp [h.1], fun i e he => ?_⟩
  by_cases hi : i < es.length
  · rw [List.getElem?_append_left hi] at he
    obtain ⟨u, h1, h2⟩ := h.2 i e he
    exact ⟨u, by rw [List.getElem?_append_left (by rw [← h.1]; exact hi)]; exact h1, h2⟩
  · have hi2 : i = es.length := by have := (List.getElem?_eq_some_iff.1 he).1; simp at this; omega
    subst hi2
    rw [List.getElem?_concat_length] at he; cases he
    exact ⟨t, by rw [h.1, List.getElem?_concat_length], rfl, rfl⟩
theorem seenAs.lt {seen : List Thg} {es : List (D × D × Nat)} (h : seenAs seen es) (n : Nat) : Ob.lt n (.mp es) := by
  simp only [Ob.lt]
  intro e he
  obtain ⟨t, _, h2, h3⟩ := h.mem he
  rw [h2, h3]
  simp [thD, thR, D.lt, D.ltL]

def alt0 : Alt := { name := [], link := [], manual := false, cur := [], slaves := [], choices := [] }
def badAt (l : List Alt) (i : Nat) (x : Alt) : Bool := !rightP x || (decide ((i : Int) > 0) && !Op.bytesLess (l.getD (i - 1) alt0).name x.name)
def thsTo (l : List Alt) (i : Nat) : List Thg := ((l.take i).map things).flatten
def okTo (l : List Alt) (i : Nat) : Prop := (∀ j, j < i → badAt l j (l.getD j alt0) = false) ∧ (thsTo l i).Nodup
open Classical in
noncomputable def checkI (l : List Alt) : Int := if l.length > 64 then 22 else if okTo l l.length then 0 else 1
theorem thsTo_succ {l : List Alt} {i : Nat} {x : Alt} (hx : l[i]? = some x) : thsTo l (i + 1) = thsTo l i ++ things x := by
  simp [thsTo, List.take_add_one, hx]
theorem thsTo_pre (l : List Alt) : ∀ n i, i ≤ n → ∃ r, thsTo l n = thsTo l i ++ r
  | 0, i, h => ⟨[], by obtain rfl : i = 0 := by omega
                       simp⟩
  | n + 1, i, h => by
    by_cases e : i = n + 1
    · exact ⟨[], by rw [e, List.append_nil]⟩
    · obtain ⟨r, hr⟩ := thsTo_pre l n i (by omega)
      cases hx : l[n]? with
      | none => exact ⟨r, by rw [← hr]; simp [thsTo, List.take_add_one, hx]⟩
      | some x => exact ⟨r ++ things x, by rw [thsTo_succ hx, hr, List.append_assoc]⟩
theorem check_bad {l : List Alt} (h : ¬ l.length > 64) {i : Nat} (hi : i < l.length) (hb : badAt l i (l.getD i alt0) = true) : checkI l = 1 := by
  unfold checkI
  rw [if_neg h, if_neg]
  rintro ⟨h1, _⟩
  rw [h1 i hi] at hb; cases hb
theorem check_dup {l : List Alt} (h : ¬ l.length > 64) {i k : Nat} {x : Alt} {t : Thg} (hx : l[i]? = some x) (ht : (things x)[k]? = some t) (hm : t ∈ thsTo l i ++ (things x).take k) : checkI l = 1 := by
  unfold checkI
  rw [if_neg h, if_neg]
  rintro ⟨_, h2⟩
  obtain ⟨r, hr⟩ := thsTo_pre l l.length (i + 1) (List.getElem?_eq_some_iff.1 hx).1
  rw [hr, thsTo_succ hx] at h2
  have e : things x = (things x).take k ++ t :: (things x).drop (k + 1) := by
    obtain ⟨hk, rfl⟩ := List.getElem?_eq_some_iff.1 ht
    rw [← List.drop_eq_getElem_cons hk, List.take_append_drop]
  rw [e] at h2
  have e2 : thsTo l i ++ (List.take k (things x) ++ t :: List.drop (k + 1) (things x)) ++ r = (thsTo l i ++ List.take k (things x)) ++ (t :: (List.drop (k + 1) (things x) ++ r)) := by simp
  rw [e2, List.nodup_append] at h2
  exact h2.2.2 t hm t (by simp) rfl
end Go.Ag
namespace Go.Ag
open Go Go.Proofs
variable {G : Nat → Option (List V)}
attribute [local irreducible] aops qops Sat aop

theorem things_mid {x : Alt} (h : altMid x) : ∀ t ∈ things x, t.2.length ≤ 1000000 := by
  obtain ⟨m1, m2, m3, m4, m5, m6, m7⟩ := h
  intro t ht
  simp only [things, links, List.mem_append, List.mem_cons, List.mem_map, List.map_cons] at ht
  rcases ht with (rfl | ⟨s, hs, rfl⟩) | (rfl | ⟨s, ⟨u, hu, rfl⟩, rfl⟩)
  · exact m1
  · exact (m6 s hs).1
  · exact m2
  · exact (m6 u hu).2
theorem thsTo_mid {l : List Alt} (hm : ∀ x ∈ l, altMid x) (i : Nat) : ∀ t ∈ thsTo l i, t.2.length ≤ 1000000 := by
  intro t ht
  simp only [thsTo, List.mem_flatten, List.mem_map] at ht
  obtain ⟨_, ⟨x, hx, rfl⟩, ht⟩ := ht
  exact things_mid (hm x (List.mem_of_mem_take hx)) t ht

set_option maxRecDepth 20000 in
set_option maxHeartbeats 16000000 in
theorem spec_Check (l : List Alt) (m : Int) (hl : l.length ≤ 1099511627) (hm : ∀ x ∈ l, altMid x) (hG0 : G 0 = some [.int .i64 m]) (H : List Ob) (K : D → List Ob → Prop) (hK : K (.v (.int .i64 (checkI l))) H) : ACalls Tryz.prog G 23 [.v (altsV l)] H K := by
  refine ACalls.go Tryz.f23 _ 56 [2] Tryz.func23 rfl Tryz.ntmps23 (by kernel_rfl) rfl (by simp) (fun E hE hP hG hH => ?_)
  have hM : E.P.follows .mixedOrders = true := hP ▸ mixed
  subst hH
  have w01 : IntKind.i64.wrap (0 + 1) = 1 := by decide
  have w12 : IntKind.i64.wrap (1 + 1) = 2 := by decide
  simp only [args0]
  (refine W0 (c5 @altsV.eq_def t3 t9 t41 t22) ?_; try with_reducible intro K hK)
  refine sat_cond rfl (fun hc => ?_) (fun hc => ?_)
  · (refine W0 t41 ?_; try with_reducible intro K hK)
    refine Fin.is (.v (.int .i64 22)) (by decide) rfl ?_
    have : checkI l = 22 := by simp at hc; unfold checkI; rw [if_pos (by omega)]
    rwa [this] at hK
  have hlen : ¬ l.length > 64 := by simp at hc; omega
  (refine W0 (c4 @altsV.eq_def t3 t69 t22) ?_; try with_reducible intro K hK)
  refine sat_loop_ent (fun n ts H => ∃ (i : Nat) (es : List (D × D × Nat)), n = l.length - i ∧ i ≤ l.length ∧ okTo l i ∧ seenAs (thsTo l i) es ∧
    ts = fr 56 [(14, .v (.int .i64 i)), (13, .v (.int .i64 l.length)), (12, .v (altsV l)), (3, .map E.H0.length), (0, .v (altsV l))] ∧ H = E.H0 ++ [.mp es]) (l.length) (.weakFr ?_) ⟨0, [], rfl, Nat.zero_le _, ⟨fun j hj => by omega, by simp [thsTo]⟩, by simpa [thsTo] using seenAs.nil, rfl, rfl⟩ ?_
  · simp only [le, ↓reduceIte, Nat.reduceEqDiff, and_true]; repeat' (first | exact trivial | exact D.le_refl _ | exact D.le_any _ | with_reducible refine And.intro ?_ ?_)
  rintro n ts H ⟨i, es, rfl, hi, hok, hse, rfl, rfl⟩
  (refine W0 (c4 @altsV.eq_def t3 t9 t22) ?_; try with_reducible intro K hK)
  refine sat_cond rfl (fun hc => ?_) (fun hc => ?_)
  · simp at hc
    obtain ⟨x, hx⟩ : ∃ s, l[i]? = some s := ⟨_, List.getElem?_eq_getElem hc⟩
    have hxm := hm x (List.mem_of_getElem? hx)
    obtain ⟨m1, m2, m3, m4, m5, m6, m7⟩ := hxm
    have hw := wrap_succ (i := i) (by omega)
    have gx : l.getD i alt0 = x := by simp [List.getD_eq_getElem?_getD, hx]
    (refine W0 (c8 @altsV.eq_def @altV.eq_def t3 t9 t22 t26 @hc @hx) ?_; try with_reducible intro K hK)
    refine sat_thru (fr 56 [(36, .v (.bool (badAt l i x))), (5, .ptr (E.H0.length + 1) 0), (14, .v (.int .i64 i)), (13, .v (.int .i64 l.length)), (12, .v (altsV l)), (3, .map E.H0.length), (0, .v (altsV l))]) (E.H0 ++ [.mp es, altB x]) ?_ ?_
    · rcases i with _ | j
      · (first | refine wr ?_ | refine wp rfl hM ?_ | refine wq hM ?_); repeat' (first | (refine G0 (c9 @altB.eq_def @altV.eq_def @altsV.eq_def t3 t4 t9 t22 t26 @gz) ?_; try with_reducible intro K hK) | ((first | refine Xs rfl rfl (by decide) rfl (fun h => ?_) fun h => ?_ | refine Ys rfl rfl (by decide) rfl (fun h => ?_) fun h => ?_ | refine Zs rfl rfl rfl (by decide) rfl (fun h => ?_) fun h => ?_); rotate_left; (focus (simp only [Bool.not_true, Bool.not_false, lp])); rotate_left))
        refine ⟨_, spec_AltRight x m (hm x (List.mem_of_getElem? hx)) hG0 _ _ ⟨rfl, rfl⟩, hK _ ?_⟩
        clear hK K; simp only [lp]
        repeat' (first | (refine G0 (c9 @altB.eq_def @altV.eq_def @altsV.eq_def t3 t4 t9 t22 t26 @gz) ?_; try with_reducible intro K hK) | ((first | refine Xs rfl rfl (by decide) rfl (fun h => ?_) fun h => ?_ | refine Ys rfl rfl (by decide) rfl (fun h => ?_) fun h => ?_ | refine Zs rfl rfl rfl (by decide) rfl (fun h => ?_) fun h => ?_); rotate_left; (focus (simp only [Bool.not_true, Bool.not_false, lp])); rotate_left))
        all_goals refine .weakFr ?_
        all_goals simp only [le, ↓reduceIte, Nat.reduceEqDiff, and_true]; repeat' (first | exact trivial | exact D.le_refl _ | exact D.le_any _ | with_reducible refine And.intro ?_ ?_)
        all_goals clear hok
        all_goals refine D.le_eq (congrArg D.v (congrArg V.bool ?_)); (try simp only [Bool.not_eq_eq_eq_not, Bool.not_true, Bool.not_false] at *); simp only [*, List.getD_eq_getElem?_getD, Bool.and_true, Bool.true_and, Bool.and_false, Bool.false_and, Bool.or_true, Bool.true_or, Bool.or_false, Bool.false_or, Bool.not_true, Bool.not_false, Bool.not_not, badAt, gz]
      · obtain ⟨p, hp⟩ : ∃ p, l[j]? = some p := ⟨_, List.getElem?_eq_getElem (by omega)⟩
        have hj : j < l.length := by omega
        have gp : l.getD j alt0 = p := by simp [List.getD_eq_getElem?_getD, hp]
        have hwj := wpred j (by omega)
        (first | refine wr ?_ | refine wp rfl hM ?_ | refine wq hM ?_); repeat' (first | (refine G0 (c12 @altB.eq_def @altV.eq_def @altsV.eq_def t3 t4 t9 t22 t26 @gs @hwj @hp @hj) ?_; try with_reducible intro K hK) | ((first | refine Xs rfl rfl (by decide) rfl (fun h => ?_) fun h => ?_ | refine Ys rfl rfl (by decide) rfl (fun h => ?_) fun h => ?_ | refine Zs rfl rfl rfl (by decide) rfl (fun h => ?_) fun h => ?_); rotate_left; (focus (simp only [Bool.not_true, Bool.not_false, lp])); rotate_left))
        refine ⟨_, spec_AltRight x m (hm x (List.mem_of_getElem? hx)) hG0 _ _ ⟨rfl, rfl⟩, hK _ ?_⟩
        clear hK K; simp only [lp]
        repeat' (first | (refine G0 (c12 @altB.eq_def @altV.eq_def @altsV.eq_def t3 t4 t9 t22 t26 @gs @hwj @hp @hj) ?_; try with_reducible intro K hK) | ((first | refine Xs rfl rfl (by decide) rfl (fun h => ?_) fun h => ?_ | refine Ys rfl rfl (by decide) rfl (fun h => ?_) fun h => ?_ | refine Zs rfl rfl rfl (by decide) rfl (fun h => ?_) fun h => ?_); rotate_left; (focus (simp only [Bool.not_true, Bool.not_false, lp])); rotate_left))
        all_goals refine .weakFr ?_
        all_goals simp only [le, ↓reduceIte, Nat.reduceEqDiff, and_true]; repeat' (first | exact trivial | exact D.le_refl _ | exact D.le_any _ | with_reducible refine And.intro ?_ ?_)
        all_goals clear hok
        all_goals refine D.le_eq (congrArg D.v (congrArg V.bool ?_)); (try simp only [Bool.not_eq_eq_eq_not, Bool.not_true, Bool.not_false] at *); simp only [*, List.getD_eq_getElem?_getD, Bool.and_true, Bool.true_and, Bool.and_false, Bool.false_and, Bool.or_true, Bool.true_or, Bool.or_false, Bool.false_or, Bool.not_true, Bool.not_false, Bool.not_not, badAt, gs, Nat.add_sub_cancel, gp, Option.getD_some]
    refine sat_cond rfl (fun hb => ?_) (fun hb => ?_)
    · (refine W0 t41 ?_; try with_reducible intro K hK)
      refine Fin.gc (.v (.int .i64 1)) hE (by decide) rfl (by simp only [D.lt]) ?_
      have := check_bad hlen hc (by rw [gx]; exact hb)
      rwa [this] at hK
    (refine W0 (c4 @altB.eq_def @altV.eq_def t9 t26) ?_; try with_reducible intro K hK)
    refine spec_things x (by omega) _ _ (hK _ _ ?_)
    clear hK K; simp only [lp]
    have htl := things_len x
    have htm : ∀ t ∈ things x, t.2.length ≤ 1000000 := things_mid (hm x (List.mem_of_getElem? hx))
    have hsm : ∀ t ∈ thsTo l i, t.2.length ≤ 1000000 := thsTo_mid hm i
    (refine W0 (c3 @thgs.eq_def t3 t70) ?_; try with_reducible intro K hK)
    refine sat_loop_ent (fun n ts H => ∃ (k : Nat) (es2 : List (D × D × Nat)), n = (things x).length - k ∧ k ≤ (things x).length ∧ (thsTo l i ++ (things x).take k).Nodup ∧ seenAs (thsTo l i ++ (things x).take k) es2 ∧
      ts = fr 56 [(40, .v (.int .i64 k)), (39, .v (.int .i64 (things x).length)), (38, .v (thgs (things x))), (14, .v (.int .i64 i)), (13, .v (.int .i64 l.length)), (12, .v (altsV l)), (3, .map E.H0.length), (0, .v (altsV l))] ∧ H = E.H0 ++ [.mp es2]) ((things x).length) (Ent.rnd hE ?_ rfl ?_ ?_) ⟨0, es, rfl, Nat.zero_le _, by simpa using hok.2, by simpa using hse, rfl, rfl⟩ ?_
    · simp only [le, ↓reduceIte, Nat.reduceEqDiff, and_true]; repeat' (first | exact trivial | exact D.le_refl _ | exact D.le_any _ | with_reducible refine And.intro ?_ ?_)
    · simp [ltAll, ltObs, Ob.lt, D.lt, D.ltL, or_imp, forall_and]
    · exact ⟨hse.lt _, trivial⟩
    rintro n ts H ⟨k, es2, rfl, hk, hnd, hse2, rfl, rfl⟩
    (refine W0 (c3 @thgs.eq_def t3 t70) ?_; try with_reducible intro K hK)
    refine sat_cond rfl (fun hd => ?_) (fun hd => ?_)
    · simp at hd
      obtain ⟨t, ht⟩ : ∃ s, (things x)[k]? = some s := ⟨_, List.getElem?_eq_getElem hd⟩
      have hwk := wrap_succ (i := k) (by omega)
      have ht2 := htm t (List.mem_of_getElem? ht)
      have hkeys := hse2.keys (fun u hu => by
        rcases List.mem_append.1 hu with hu | hu
        · exact hsm u hu
        · exact htm u (List.mem_of_mem_take hu))
      repeat (first | refine wa ?_ | refine wo ?_ | (refine wl ?_; simp only [lt]))
      refine wb rfl ?_
      repeat' (first | (refine G0 (c9 @thgs.eq_def @thR.eq_def t3 t4 t9 t70 t73 @hd @ht) ?_; try with_reducible intro K hK) | ((first | refine Xs rfl rfl (by decide) rfl (fun h => ?_) fun h => ?_ | refine Ys rfl rfl (by decide) rfl (fun h => ?_) fun h => ?_ | refine Zs rfl rfl rfl (by decide) rfl (fun h => ?_) fun h => ?_); rotate_left; (focus (simp only [Bool.not_true, Bool.not_false, lp])); rotate_left))
      refine wa ?_
      by_cases hdup : t ∈ thsTo l i ++ (things x).take k
      · obtain ⟨j, n, hj, hu⟩ := hse2.some hdup hnd
        have hu2 : ∀ e ∈ es2, e.1 = thD t → e = (thD t, .v (.int .i64 1), n) := fun e he he2 => by
          obtain ⟨i', hi'⟩ := List.mem_iff_getElem?.1 he
          exact (hu i' e hi' he2).2
        refine ub (fun H => ∃ es1, H[E.H0.length]? = some (.mp es1) ∧ H[E.H0.length + 1]? = some (.box [.v (.bool t.1), .v (.str t.2)]) ∧ (∀ e ∈ es1, KeyD Tryz.prog 73 e.1) ∧ (∀ e ∈ es1, e.1 = thD t → e.2.1 = .v (.int .i64 1)) ∧ (∃ e ∈ es1, e.1 = thD t)) hM ⟨es2, by rw [hp_get0]; rfl, by rw [hp_get]; rfl, hkeys, fun e he he2 => by rw [(hu2 e he he2)], ⟨_, List.mem_of_getElem? hj, rfl⟩⟩ ?_
        refine ug rfl rfl fun K hK => ⟨.map E.H0.length, fun H hS => ?_, hK _ ?_⟩
        · simp only [lo, ld, ↓aop, ↓aCall, hP, hG, Nat.reduceLT, ↓reduceIte, Nat.reduceEqDiff, Nat.reduceAdd, Nat.reduceMul, Nat.reduceLeDiff, reduceCtorEq, D.cs, D.plain, fillD, chop, List.replicate]
        clear hK K
        simp only [lp]
        refine ug rfl rfl fun K hK => ⟨thD t, fun H hS => ?_, hK _ ?_⟩
        · obtain ⟨es1, q1, q2, _⟩ := hS
          simp only [lo, ld, ↓aop, ↓aCall, hP, hG, Nat.reduceLT, ↓reduceIte, Nat.reduceEqDiff, Nat.reduceAdd, Nat.reduceMul, Nat.reduceLeDiff, reduceCtorEq, D.cs, D.plain, fillD, chop, List.replicate, tk_73, ze_73, sz_73, kn_73, q2]
          rfl
        clear hK K
        simp only [lp]
        refine ug rfl rfl fun K hK => ⟨.v (.int .i64 1), fun H hS => ?_, hK _ ?_⟩
        · obtain ⟨es1, q1, q2, q3, q4, q5⟩ := hS
          simp only [lo, ld, ↓aop, ↓aCall, hP, hG, Nat.reduceLT, ↓reduceIte, Nat.reduceEqDiff, Nat.reduceAdd, Nat.reduceMul, Nat.reduceLeDiff, reduceCtorEq, D.cs, D.plain, fillD, chop, List.replicate]
          exact aLookup_is q1 tk_69 keyed87 (thD_key t ht2) q3 zero3 q4 (.inl q5) rfl
        clear hK K
        simp only [lp]
        refine ug rfl rfl fun K hK => ⟨.v (.int .i64 2), fun H hS => ?_, hK _ ?_⟩
        · simp only [lo, ld, ↓aop, ↓aCall, hP, hG, Nat.reduceLT, ↓reduceIte, Nat.reduceEqDiff, Nat.reduceAdd, Nat.reduceMul, Nat.reduceLeDiff, reduceCtorEq, D.cs, D.plain, fillD, chop, List.replicate, tk_3, ze_3, sz_3, w12]
        clear hK K
        simp only [lp]
        refine uf rfl rfl fun K hK => ?_
        simp only [lo, ld, ↓aop, ↓aCall, hP, hG, Nat.reduceLT, ↓reduceIte, Nat.reduceEqDiff, Nat.reduceAdd, Nat.reduceMul, Nat.reduceLeDiff, reduceCtorEq, D.cs, D.plain, fillD, chop, List.replicate]
        unfold aMapEntry
        simp only [hp_get0, List.getElem?_cons_zero, tk_69]
        refine ⟨keyed87, thD_key t ht2, hkeys, .inl ⟨_, n, ⟨_, List.mem_of_getElem? hj, rfl⟩, hu2, hK _ _ ⟨es2, by rw [hp_get0]; rfl, by rw [hp_get]; rfl, hkeys, fun e he he2 => by rw [(hu2 e he he2)], ⟨_, List.mem_of_getElem? hj, rfl⟩⟩ ?_⟩⟩
        clear hK K
        simp only [lp]
        refine ug rfl rfl fun K hK => ⟨.v (.int .i64 n), fun H hS => ?_, hK _ ?_⟩
        · simp only [lo, ld, ↓aop, ↓aCall, hP, hG, Nat.reduceLT, ↓reduceIte, Nat.reduceEqDiff, Nat.reduceAdd, Nat.reduceMul, Nat.reduceLeDiff, reduceCtorEq, D.cs, D.plain, fillD, chop, List.replicate]
        clear hK K
        simp only [lp]
        refine ul rfl rfl fun K hK => ?_
        simp only [lo, ld, ↓aop, ↓aCall, hP, hG, Nat.reduceLT, ↓reduceIte, Nat.reduceEqDiff, Nat.reduceAdd, Nat.reduceMul, Nat.reduceLeDiff, reduceCtorEq, D.cs, D.plain, fillD, chop, List.replicate]
        unfold aEntryStore
        simp only [hp_get0, List.getElem?_cons_zero]
        refine ⟨j, (thD t, .v (.int .i64 1), n), hj, rfl, hK _ _ ?_⟩
        clear hK K
        simp only [lp, hp_set0, List.set_cons_zero]
        refine uk ?_
        simp only [lt]
        repeat (first | refine wa ?_)
        refine wb rfl ?_
        refine we rfl fun K hK => ?_
        simp only [lo, ld, ↓aop, ↓aCall, hP, hG, Nat.reduceLT, ↓reduceIte, Nat.reduceEqDiff, Nat.reduceAdd, Nat.reduceMul, Nat.reduceLeDiff, reduceCtorEq, D.cs, D.plain, fillD, chop, List.replicate]
        refine hK _ _ ?_
        clear hK K
        simp only [lp]
        refine we rfl fun K hK => ?_
        simp only [lo, ld, ↓aop, ↓aCall, hP, hG, Nat.reduceLT, ↓reduceIte, Nat.reduceEqDiff, Nat.reduceAdd, Nat.reduceMul, Nat.reduceLeDiff, reduceCtorEq, D.cs, D.plain, fillD, chop, List.replicate, tk_73, ze_73, sz_73, kn_73]
        refine hK _ _ ?_
        clear hK K
        simp only [lp]
        refine we rfl fun K hK => ?_
        simp only [lo, ld, ↓aop, ↓aCall, hP, hG, Nat.reduceLT, ↓reduceIte, Nat.reduceEqDiff, Nat.reduceAdd, Nat.reduceMul, Nat.reduceLeDiff, reduceCtorEq, D.cs, D.plain, fillD, chop, List.replicate]
        have hjl : j < es2.length := (List.getElem?_eq_some_iff.1 hj).1
        refine aLookup_is (es := es2.set j (thD t, .v (.int .i64 2), n)) (v := .v (.int .i64 2)) (by rw [hp_get0]; rfl) tk_69 keyed87 (thD_key t ht2) ?_ zero3 ?_ (.inl ⟨(thD t, .v (.int .i64 2), n), List.mem_of_getElem? (List.getElem?_set_self hjl), rfl⟩) (hK _ _ ?_)
        · intro e he
          rcases List.mem_or_eq_of_mem_set he with he | rfl
          · exact hkeys e he
          · exact thD_key t ht2
        · intro e he he2
          obtain ⟨i', hi'⟩ := List.mem_iff_getElem?.1 he
          by_cases e' : i' = j
          · subst e'
            rw [List.getElem?_set_self hjl] at hi'; cases hi'; rfl
          · rw [List.getElem?_set_ne (fun x => e' x.symm)] at hi'
            exact absurd (hu i' e hi' he2).1 e'
        clear hK K
        simp only [lp]
        (refine W0 t3 ?_; try with_reducible intro K hK)
        refine sat_cond rfl (fun hb => ?_) (fun hb => ?_)
        · (refine W0 t41 ?_; try with_reducible intro K hK)
          refine Fin.gc (.v (.int .i64 1)) hE (by decide) rfl (by simp only [D.lt]) ?_
          have := check_dup hlen hx ht hdup
          rwa [this] at hK
        · exact absurd hb (by decide)
      have hno := hse2.none hdup
      refine ub (fun H => ∃ es1, H[E.H0.length]? = some (.mp es1) ∧ H[E.H0.length + 1]? = some (.box [.v (.bool t.1), .v (.str t.2)]) ∧ (∀ e ∈ es1, KeyD Tryz.prog 73 e.1) ∧ (∀ e ∈ es1, e.1 = thD t → e.2.1 = .v (.int .i64 0))) hM ⟨es2, by rw [hp_get0]; rfl, by rw [hp_get]; rfl, hkeys, fun e he he2 => absurd he2 (hno e he)⟩ ?_
      refine ug rfl rfl fun K hK => ⟨.map E.H0.length, fun H hS => ?_, hK _ ?_⟩
      · simp only [lo, ld, ↓aop, ↓aCall, hP, hG, Nat.reduceLT, ↓reduceIte, Nat.reduceEqDiff, Nat.reduceAdd, Nat.reduceMul, Nat.reduceLeDiff, reduceCtorEq, D.cs, D.plain, fillD, chop, List.replicate]
      clear hK K
      simp only [lp]
      refine ug rfl rfl fun K hK => ⟨thD t, fun H hS => ?_, hK _ ?_⟩
      · obtain ⟨es1, q1, q2, _⟩ := hS
        simp only [lo, ld, ↓aop, ↓aCall, hP, hG, Nat.reduceLT, ↓reduceIte, Nat.reduceEqDiff, Nat.reduceAdd, Nat.reduceMul, Nat.reduceLeDiff, reduceCtorEq, D.cs, D.plain, fillD, chop, List.replicate, tk_73, ze_73, sz_73, kn_73, q2]
        rfl
      clear hK K
      simp only [lp]
      refine ug rfl rfl fun K hK => ⟨.v (.int .i64 0), fun H hS => ?_, hK _ ?_⟩
      · obtain ⟨es1, q1, q2, q3, q4⟩ := hS
        simp only [lo, ld, ↓aop, ↓aCall, hP, hG, Nat.reduceLT, ↓reduceIte, Nat.reduceEqDiff, Nat.reduceAdd, Nat.reduceMul, Nat.reduceLeDiff, reduceCtorEq, D.cs, D.plain, fillD, chop, List.replicate]
        exact aLookup_is q1 tk_69 keyed87 (thD_key t ht2) q3 zero3 q4 (.inr rfl) rfl
      clear hK K
      simp only [lp]
      refine ug rfl rfl fun K hK => ⟨.v (.int .i64 1), fun H hS => ?_, hK _ ?_⟩
      · simp only [lo, ld, ↓aop, ↓aCall, hP, hG, Nat.reduceLT, ↓reduceIte, Nat.reduceEqDiff, Nat.reduceAdd, Nat.reduceMul, Nat.reduceLeDiff, reduceCtorEq, D.cs, D.plain, fillD, chop, List.replicate, tk_3, ze_3, sz_3, w01]
      clear hK K
      simp only [lp]
      refine uf rfl rfl fun K hK => ?_
      simp only [lo, ld, ↓aop, ↓aCall, hP, hG, Nat.reduceLT, ↓reduceIte, Nat.reduceEqDiff, Nat.reduceAdd, Nat.reduceMul, Nat.reduceLeDiff, reduceCtorEq, D.cs, D.plain, fillD, chop, List.replicate]
      unfold aMapEntry
      simp only [hp_get0, List.getElem?_cons_zero, tk_69]
      refine ⟨keyed87, thD_key t ht2, hkeys, .inr ⟨hno, _, zero3, fun n hn => hK _ _ ⟨es2 ++ [(thD t, .v (.int .i64 0), n)], by rw [hp_set0, hp_get0]; rfl, by rw [hp_set0, hp_get]; rfl, ?_, ?_⟩ ?_⟩⟩
      · intro e he
        rcases List.mem_append.1 he with he | he
        · exact hkeys e he
        · rw [List.mem_singleton] at he; subst he; exact thD_key t ht2
      · intro e he he2
        rcases List.mem_append.1 he with he | he
        · exact absurd he2 (hno e he)
        · rw [List.mem_singleton] at he; subst he; rfl
      clear hK K
      simp only [lp, hp_set0, List.set_cons_zero]
      refine ug rfl rfl fun K hK => ⟨.v (.int .i64 n), fun H hS => ?_, hK _ ?_⟩
      · simp only [lo, ld, ↓aop, ↓aCall, hP, hG, Nat.reduceLT, ↓reduceIte, Nat.reduceEqDiff, Nat.reduceAdd, Nat.reduceMul, Nat.reduceLeDiff, reduceCtorEq, D.cs, D.plain, fillD, chop, List.replicate]
      clear hK K
      simp only [lp]
      refine ul rfl rfl fun K hK => ?_
      simp only [lo, ld, ↓aop, ↓aCall, hP, hG, Nat.reduceLT, ↓reduceIte, Nat.reduceEqDiff, Nat.reduceAdd, Nat.reduceMul, Nat.reduceLeDiff, reduceCtorEq, D.cs, D.plain, fillD, chop, List.replicate]
      unfold aEntryStore
      simp only [hp_get0, List.getElem?_cons_zero]
      refine ⟨es2.length, (thD t, .v (.int .i64 0), n), by simp, rfl, hK _ _ ?_⟩
      clear hK K
      have hset : (es2 ++ [(thD t, D.v (.int .i64 0), n)]).set es2.length (thD t, .v (.int .i64 1), n) = es2 ++ [(thD t, .v (.int .i64 1), n)] := by simp
      simp only [lp, hp_set0, List.set_cons_zero, hset]
      refine uk ?_
      simp only [lt]
      repeat (first | refine wa ?_)
      refine wb rfl ?_
      refine we rfl fun K hK => ?_
      simp only [lo, ld, ↓aop, ↓aCall, hP, hG, Nat.reduceLT, ↓reduceIte, Nat.reduceEqDiff, Nat.reduceAdd, Nat.reduceMul, Nat.reduceLeDiff, reduceCtorEq, D.cs, D.plain, fillD, chop, List.replicate]
      refine hK _ _ ?_
      clear hK K
      simp only [lp]
      refine we rfl fun K hK => ?_
      simp only [lo, ld, ↓aop, ↓aCall, hP, hG, Nat.reduceLT, ↓reduceIte, Nat.reduceEqDiff, Nat.reduceAdd, Nat.reduceMul, Nat.reduceLeDiff, reduceCtorEq, D.cs, D.plain, fillD, chop, List.replicate, tk_73, ze_73, sz_73, kn_73]
      refine hK _ _ ?_
      clear hK K
      simp only [lp]
      refine we rfl fun K hK => ?_
      simp only [lo, ld, ↓aop, ↓aCall, hP, hG, Nat.reduceLT, ↓reduceIte, Nat.reduceEqDiff, Nat.reduceAdd, Nat.reduceMul, Nat.reduceLeDiff, reduceCtorEq, D.cs, D.plain, fillD, chop, List.replicate]
      have hse3 := hse2.snoc t n
      refine aLookup_is (es := es2 ++ [(thD t, .v (.int .i64 1), n)]) (v := .v (.int .i64 1)) (by rw [hp_get0]; rfl) tk_69 keyed87 (thD_key t ht2) ?_ zero3 ?_ (.inl ⟨(thD t, .v (.int .i64 1), n), by simp, rfl⟩) (hK _ _ ?_)
      · intro e he
        rcases List.mem_append.1 he with he | he
        · exact hkeys e he
        · rw [List.mem_singleton] at he; subst he; exact thD_key t ht2
      · intro e he he2
        obtain ⟨_, _, _, h3⟩ := hse3.mem he
        exact h3
      clear hK K
      simp only [lp]
      (refine W0 t3 ?_; try with_reducible intro K hK)
      refine sat_cond rfl (fun hb => ?_) (fun hb => ?_)
      · exact absurd hb (by decide)
      (refine W0 (c2 t3 @hwk) ?_; try with_reducible intro K hK)
      have e1 : (things x).take (k + 1) = (things x).take k ++ [t] := take_snoc ht
      have e2 : thsTo l i ++ (things x).take (k + 1) = (thsTo l i ++ (things x).take k) ++ [t] := by rw [e1, List.append_assoc]
      refine ⟨(things x).length - (k + 1), _, _, by omega, ?_, k + 1, es2 ++ [(thD t, .v (.int .i64 1), n)], rfl, by omega, ?_, by rw [e2]; exact hse3, rfl, rfl⟩
      · refine Ent.rnd hE ?_ rfl ?_ ⟨hse3.lt _, trivial⟩
        · simp only [le, ↓reduceIte, Nat.reduceEqDiff, and_true]; repeat' (first | exact trivial | exact D.le_refl _ | exact D.le_any _ | with_reducible refine And.intro ?_ ?_)
        · simp [ltAll, ltObs, Ob.lt, D.lt, D.ltL, or_imp, forall_and]
      · rw [e2, List.nodup_append]
        exact ⟨hnd, by simp, fun a ha b hb => by rw [List.mem_singleton] at hb; subst hb; exact fun e => hdup (e ▸ ha)⟩
    simp at hd
    have e1 : (things x).take k = things x := List.take_of_length_le (by omega)
    rw [e1, ← thsTo_succ hx] at hnd hse2
    (refine W0 (c2 @hw t3) ?_; try with_reducible intro K hK)
    refine ⟨l.length - (i + 1), _, _, by omega, .weakFr ?_, i + 1, es2, rfl, by omega, ⟨fun j hj => ?_, hnd⟩, hse2, rfl, rfl⟩
    · simp only [le, ↓reduceIte, Nat.reduceEqDiff, and_true]; repeat' (first | exact trivial | exact D.le_refl _ | exact D.le_any _ | with_reducible refine And.intro ?_ ?_)
    · rcases Nat.lt_succ_iff_lt_or_eq.1 hj with h | rfl
      · exact hok.1 j h
      · rw [gx]; exact hb
  simp at hc
  obtain rfl : i = l.length := by omega
  (refine W0 t41 ?_; try with_reducible intro K hK)
  refine Fin.gc (.v (.int .i64 0)) hE (by decide) rfl (by simp only [D.lt]) ?_
  have : checkI l = 0 := by unfold checkI; rw [if_neg hlen, if_pos hok]
  rwa [this] at hK
end Go.Ag
namespace Go.Ag
open Go Go.Proofs
variable {G : Nat → Option (List V)}
attribute [local irreducible] aops qops Sat aop

noncomputable def finI (out : List Alt) : List Alt × Int := if checkI out = 0 then (out, 0) else if checkI out = 22 then ([], 22) else ([], 20)
def headC (x : Alt) : Cho := x.choices.headD cho0
noncomputable def instF (l : List Alt) (nm lk : Str) (c : Cho) (ss : List Slv) : List Alt × Int :=
  if c.slaves.length = ss.length then (if rightP (aloneF nm lk c ss) = true then (match l.findIdx? (fun y => y.name == nm) with
    | none => finI (putA l (aloneF nm lk c ss))
    | some i => if okJ ((l[i]?).getD altZ) (aloneF nm lk c ss) = true then finI (putA l (settA (joinF ((l[i]?).getD altZ) (aloneF nm lk c ss) (headC (aloneF nm lk c ss))))) else ([], 20)) else ([], 1)) else ([], 1)
def altIn (y : Alt) : Prop := altMid y ∧ y.slaves.length ≤ 400000 ∧ y.choices.length ≤ 400000
def choIn (c : Cho) : Prop := c.path.length ≤ 1000000 ∧ ∀ t ∈ c.slaves, t.length ≤ 1000000
def slvIn (s : Slv) : Prop := s.name.length ≤ 1000000 ∧ s.link.length ≤ 1000000
theorem prs_mem : ∀ {ss : List Slv} {ps : List Str} {x : Pr}, x ∈ prs ss ps → x.s ∈ ss ∧ x.p ∈ ps
  | [], _, _, h => by simp [prs] at h
  | _ :: _, [], _, h => by simp [prs] at h
  | s :: ss, p :: ps, x, h => by
    simp only [prs, List.zipWith_cons_cons, List.mem_cons] at h
    rcases h with rfl | h
    · simp
    · have := prs_mem (ss := ss) (ps := ps) h
      exact ⟨List.mem_cons_of_mem _ this.1, List.mem_cons_of_mem _ this.2⟩
theorem alone_in {nm lk : Str} {c : Cho} {ss : List Slv} (h1 : nm.length ≤ 1000000) (h2 : lk.length ≤ 1000000) (h3 : choIn c) (h4 : ss.length ≤ 400000) (h5 : ∀ s ∈ ss, slvIn s) (hn : c.slaves.length = ss.length) : altIn (aloneF nm lk c ss) ∧ (aloneF nm lk c ss).choices = [headC (aloneF nm lk c ss)] := by
  have hp := stab_perm (fun x y : Pr => Lib.compareBytes x.s.name y.s.name) (prs ss c.slaves)
  have hl := hp.length_eq
  rw [prs_len hn] at hl
  have hm : ∀ x ∈ stab (fun x y : Pr => Lib.compareBytes x.s.name y.s.name) (prs ss c.slaves), x.s ∈ ss ∧ x.p ∈ c.slaves := fun x hx => prs_mem (hp.mem_iff.1 hx)
  refine ⟨⟨⟨h1, h2, h3.1, ?_, ?_, ?_, ?_⟩, ?_, ?_⟩, rfl⟩
  · simp only [aloneF, aloneA, List.length_map, hl]; omega
  · simp [aloneF, aloneA]
  · intro s hs
    simp only [aloneF, aloneA, List.mem_map] at hs
    obtain ⟨x, hx, rfl⟩ := hs
    exact h5 _ (hm x hx).1
  · intro o ho
    simp only [aloneF, aloneA, List.mem_singleton] at ho
    subst ho
    refine ⟨h3.1, ?_, fun t ht => ?_⟩
    · simp only [List.length_map, hl]; omega
    · simp only [List.mem_map] at ht
      obtain ⟨x, hx, rfl⟩ := ht
      exact h3.2 _ (hm x hx).2
  · simp only [aloneF, aloneA, List.length_map, hl]; exact h4
  · simp [aloneF, aloneA]
theorem sprA_in {c : Cho} {fs ts : List Slv} (h : choIn c) : choIn (sprA c fs ts) := by
  refine ⟨h.1, fun t ht => ?_⟩
  simp only [sprA, List.mem_map] at ht
  obtain ⟨s, _, rfl⟩ := ht
  unfold sprF
  split
  · rename_i i _
    by_cases hi : i < c.slaves.length
    · rw [List.getD_eq_getElem?_getD, List.getElem?_eq_getElem hi]
      exact h.2 _ (List.getElem_mem _)
    · rw [List.getD_eq_getElem?_getD, List.getElem?_eq_none (by omega)]; simp
  · simp
theorem join_in {x y : Alt} {c0 : Cho} (hx : altIn x) (hy : altIn y) (hc : choIn c0) : altMid (joinF x y c0) ∧ (joinF x y c0).choices.length ≤ 400001 := by
  obtain ⟨⟨a1, a2, a3, a4, a5, a6, a7⟩, a8, a9⟩ := hx
  obtain ⟨⟨_, _, _, _, _, b6, _⟩, b8, _⟩ := hy
  have hp := stab_perm (fun a b : Slv => Lib.compareBytes a.name b.name) (allJ x y)
  have hal : (joinS x y).length ≤ 800000 := by
    rw [joinS, hp.length_eq, allJ, List.length_append]
    have := List.length_filter_le (newS x) y.slaves
    omega
  have hq := stab_perm (fun a b : Cho => Lib.compareBytes a.path b.path) (outJ x (sprA c0 y.slaves (joinS x y)) (joinS x y))
  have hcl : (joinF x y c0).choices.length ≤ 400001 := by
    simp only [joinF]
    rw [hq.length_eq, outJ, List.length_cons, List.length_map]
    have := List.length_filter_le (fun o => o.path != (sprA c0 y.slaves (joinS x y)).path) x.choices
    omega
  refine ⟨⟨a1, a2, a3, by simp only [joinF]; omega, by omega, fun s hs => ?_, fun o ho => ?_⟩, hcl⟩
  · simp only [joinF, joinS] at hs
    rw [hp.mem_iff, allJ, List.mem_append, List.mem_filter] at hs
    rcases hs with hs | hs
    · exact a6 s hs
    · exact b6 s hs.1
  · simp only [joinF] at ho
    rw [hq.mem_iff, outJ, List.mem_cons, List.mem_map] at ho
    have key : ∀ c : Cho, ∀ fs : List Slv, choIn c → o = sprA c fs (joinS x y) → o.path.length ≤ 1000000 ∧ o.slaves.length ≤ 1000000 ∧ ∀ t ∈ o.slaves, t.length ≤ 1000000 := fun c fs h e => by
      have := sprA_in (fs := fs) (ts := joinS x y) h
      rw [← e] at this
      refine ⟨this.1, ?_, this.2⟩
      rw [e]; simp only [sprA, List.length_map]; omega
    rcases ho with ho | ⟨q, hq1, ho⟩
    · exact key c0 _ hc ho
    · have := a7 q (List.mem_filter.1 hq1).1
      exact key q _ ⟨this.1, this.2.2⟩ ho.symm
theorem sett_mid {x : Alt} (h : altMid x) : altMid (settA x) := by
  unfold settA
  split
  · exact h
  · split
    · exact h
    · obtain ⟨a1, a2, a3, a4, a5, a6, a7⟩ := h
      refine ⟨a1, a2, ?_, a4, a5, a6, a7⟩
      simp only
      cases hk : x.choices[(best x.choices).toNat]? with
      | none => simp
      | some c => exact (a7 c (List.mem_of_getElem? hk)).1
theorem put_mid {l : List Alt} {x : Alt} (hl : ∀ y ∈ l, altMid y) (hx : altMid x) : ∀ y ∈ putA l x, altMid y := fun y hy => by
  rcases mem_put hy with h | rfl
  · exact hl y h
  · exact hx
theorem checkI_cases (l : List Alt) : checkI l = 22 ∨ checkI l = 0 ∨ checkI l = 1 := by
  unfold checkI
  split
  · exact .inl rfl
  · split
    · exact .inr (.inl rfl)
    · exact .inr (.inr rfl)
theorem sat_thruQ {ι : Type} {E : Env} {x y : Code} {ts : List D} {H : List Ob} {Q : Exit → List D → List Ob → Prop} (C : ι → Prop) (T : ι → List D) (Hf : ι → List Ob)
    (h1 : Sat E x ts H (Th (fun ts' H' => ∃ i, C i ∧ Ent E ts' H' (T i) (Hf i)) Q)) (h2 : ∀ i, C i → Sat E y (T i) (Hf i) Q) : Sat E x ts H (Th (fun ts H => Sat E y ts H Q) Q) :=
  h1.mono fun e ts1 H1 h => by
    cases e with
    | normal => obtain ⟨i, hc, he⟩ := h; exact sat_ent he (h2 i hc)
    | _ => exact h
set_option maxRecDepth 20000 in
set_option maxHeartbeats 16000000 in
theorem spec_Install (l : List Alt) (nm lk : Str) (c : Cho) (ss : List Slv) (m : Int) (hl : l.length ≤ 900000) (hin : ∀ y ∈ l, altIn y) (h1 : nm.length ≤ 1000000) (h2 : lk.length ≤ 1000000) (h3 : choIn c) (h3s : c.slaves.length ≤ 1000000) (h4 : ss.length ≤ 400000) (h5 : ∀ s ∈ ss, slvIn s) (hG0 : G 0 = some [.int .i64 m]) (H : List Ob) (K : D → List Ob → Prop)
    (hK : K (.tup [.v (altsV (instF l nm lk c ss).1), .v (.int .i64 (instF l nm lk c ss).2)]) H) : ACalls Tryz.prog G 38 [.v (altsV l), .v (.str nm), .v (.str lk), choD c, .v (slvs ss)] H K := by
  refine ACalls.go Tryz.f38 _ 59 [10, 11] Tryz.func38 rfl Tryz.ntmps38 (by kernel_rfl) rfl (by simp) (fun E hE hP hG hH => ?_)
  have hM : E.P.follows .mixedOrders = true := hP ▸ mixed
  subst hH
  have e0 : choD c = .agg ((cV c).map .v) := rfl
  have hbad : ∀ (e : Int) (ts : List (Nat × D)) (L : List Ob), instF l nm lk c ss = ([], e) → look ts 10 = .nils → look ts 11 = .v (.int .i64 e) → Fin E (fr 59 ts) (E.H0 ++ L) [10, 11] K := fun e ts L h g1 g2 => by
    rw [h] at hK
    exact Fin.gcle2 (.v (altsV [])) (.v (.int .i64 e)) hE (by decide) (by decide) (by decide) (g1 ▸ D.le_nils 6) (g2 ▸ D.le_refl _) (by simp only [D.lt]) (by simp only [D.lt]) hK
  simp only [args0, e0]
  (refine W0 (c13 @cV.eq_def @slvs.eq_def @strs.eq_def t9 t3 t4 t22 t26 t24 t46 t23 t44 t41) ?_; try with_reducible intro K hK)
  refine sat_cond rfl (fun hd => ?_) (fun hd => ?_)
  · (refine W0 (c10 t9 t3 t4 t22 t26 t24 t46 t23 t44 t41) ?_; try with_reducible intro K hK)
    refine hbad 1 _ _ ?_ rfl rfl
    rw [instF, if_neg (by simp at hd; omega)]
  have hn : c.slaves.length = ss.length := by simp at hd; omega
  (refine Q0 (c11 @cV.eq_def t9 t3 t4 t22 t26 t24 t46 t23 t44 t41) ?_; try with_reducible intro K hK)
  obtain ⟨hax, hax2⟩ := alone_in h1 h2 h3 h4 h5 hn
  refine spec_alone nm lk c ss hn (by omega) _ _ (hK _ _ ?_)
  clear hK K; simp only [lp]
  have hI : instF l nm lk c ss = (if rightP (aloneF nm lk c ss) = true then (match l.findIdx? (fun y => y.name == nm) with
    | none => finI (putA l (aloneF nm lk c ss))
    | some i => if okJ ((l[i]?).getD altZ) (aloneF nm lk c ss) = true then finI (putA l (settA (joinF ((l[i]?).getD altZ) (aloneF nm lk c ss) (headC (aloneF nm lk c ss))))) else ([], 20)) else ([], 1)) := by rw [instF, if_pos hn]
  generalize aloneF nm lk c ss = x at *
  (refine W0 (c11 @altd.eq_def t9 t3 t4 t22 t26 t24 t46 t23 t44 t41) ?_; try with_reducible intro K hK)
  refine spec_AltRight x m hax.1 hG0 _ _ (hK _ _ ?_)
  clear hK K; simp only [lp]
  (refine W0 (c10 t9 t3 t4 t22 t26 t24 t46 t23 t44 t41) ?_; try with_reducible intro K hK)
  refine sat_cond rfl (fun hr => ?_) (fun hr => ?_)
  · (refine W0 (c10 t9 t3 t4 t22 t26 t24 t46 t23 t44 t41) ?_; try with_reducible intro K hK)
    refine hbad 1 _ _ ?_ rfl rfl
    rw [hI, if_neg (by simpa using hr)]
  have hr : rightP x = true := by simpa using hr
  rw [if_pos hr] at hI
  (refine W0 (c10 t9 t3 t4 t22 t26 t24 t46 t23 t44 t41) ?_; try with_reducible intro K hK)
  refine spec_Find l nm (by omega) _ _ (hK _ _ ?_)
  clear hK K; simp only [lp]
  (refine W0 (c10 t9 t3 t4 t22 t26 t24 t46 t23 t44 t41) ?_; try with_reducible intro K hK)
  refine sat_thruQ (ι := Alt) (fun z => altMid z ∧ instF l nm lk c ss = finI (putA l z)) (fun _ => fr 59 [(12, .ptr (E.H0.length + 1) 0), (0, .v (altsV l))]) (fun x => E.H0 ++ [.box [.v (.str c.path), .v (.int .i64 c.prio), .v (strs c.slaves)], .box [.v (.str x.name), .v (.str x.link), .v (.bool x.manual), .v (.str x.cur), .v (slvs x.slaves), .v (chos x.choices)]]) ?_ ?_
  · cases hi : l.findIdx? (fun y => y.name == nm) with
    | none =>
      rw [hi] at hI
      rw [idx_none hi]
      refine sat_cond rfl (fun hb => ?_) (fun hb => ?_)
      · exact absurd hb (by decide)
      (refine W0 (c10 t9 t3 t4 t22 t26 t24 t46 t23 t44 t41) ?_; try with_reducible intro K hK)
      refine ⟨x, ⟨hax.1, hI⟩, ?_⟩
      refine Ent.rnd hE ?_ ?_ ?_ ?_
      · simp only [le, ↓reduceIte, Nat.reduceEqDiff, and_true]; repeat' (first | exact trivial | exact D.le_refl _ | exact D.le_any _ | with_reducible refine And.intro ?_ ?_)
      · simp [strs]
      · simp [ltAll, ltObs, Ob.lt, D.lt, D.ltL, or_imp, forall_and]
      · simp [ltAll, ltObs, Ob.lt, D.lt, D.ltL, or_imp, forall_and]
    | some i =>
      obtain ⟨hf, hil⟩ := idx_some hi
      obtain ⟨y, hy⟩ : ∃ y, l[i]? = some y := ⟨_, List.getElem?_eq_getElem hil⟩
      have hyin := hin y (List.mem_of_getElem? hy)
      rw [hi] at hI
      simp only [hy, Option.getD_some] at hI
      rw [hf]
      refine sat_cond rfl (fun hb => ?_) (fun hb => ?_)
      rotate_left
      · have := of_decide_eq_false hb; omega
      have hhc : choIn (headC x) := by
        have := hax.1.2.2.2.2.2.2 (headC x) (by rw [hax2]; exact List.mem_singleton_self _)
        exact ⟨this.1, this.2.2⟩
      have hhs : (headC x).slaves.length ≤ 1000000 := (hax.1.2.2.2.2.2.2 (headC x) (by rw [hax2]; exact List.mem_singleton_self _)).2.1
      have hji := join_in (c0 := headC x) hyin hax hhc
      have hcs : ∀ o ∈ y.choices, o.slaves.length ≤ 1099511627 := fun o ho => by have := (hyin.1.2.2.2.2.2.2 o ho).2.1; omega
      (refine Q0 (c10 t9 t3 t4 t22 t26 t24 t46 t23 t44 t41) ?_; try with_reducible intro K hK)
      refine vb (E.H0.length + 1) [.v (.str x.name), .v (.str x.link), .v (.bool x.manual), .v (.str x.cur), .v (slvs x.slaves), .v (chos x.choices)] hM (by rw [hp_get]; rfl) ?_
      repeat (first | refine wa ?_ | ((first | refine vl rfl rfl fun K hK => ?_ | refine vf rfl rfl fun K hK => ?_ | refine vg rfl rfl fun K hK => ?_); (simp only [lo, ld, ↓aop, ↓aCall, hP, hG, Nat.reduceLT, ↓reduceIte, Nat.reduceEqDiff, Nat.reduceAdd, Nat.reduceMul, Nat.reduceLeDiff, reduceCtorEq, D.cs, D.plain, fillD, chop, List.replicate, putB_get, altsV, altV, tk_9, ze_9, sz_9, tk_3, ze_3, sz_3, tk_4, ze_4, sz_4, tk_22, ze_22, sz_22, tk_26, ze_26, sz_26, kn_26, tk_24, ze_24, sz_24, tk_46, ze_46, sz_46, kn_46, tk_23, ze_23, sz_23, tk_44, ze_44, sz_44, tk_41, ze_41, sz_41, hil, hy]; repeat (with_reducible refine And.intro ?_ ?_; focus (first | decide | omega | (simp only [ln]; omega)))); try ((first | refine hK _ _ (by first | (rw [hp_get]; rfl) | exact hp_old (by assumption)) ?_ | refine hK _ _ ?_ | refine hK _ ?_); clear hK K; simp only [lp])) | (refine vk ?_; simp only [lt, ↓reduceIte, Nat.reduceEqDiff]))
      by_cases hj : okJ y x = true
      · rw [if_pos hj] at hI
        refine ⟨_, fun H => spec_joined y x (headC x) [] hax2 hyin.2.1 hax.2.1 hyin.2.2 (by omega) hcs _ _ (fun h => by rw [hj] at h; cases h) (fun _ => ⟨rfl, rfl⟩), hK _ ?_⟩
        clear hK K; simp only [lp]
        repeat (first | refine wa ?_ | ((first | refine vl rfl rfl fun K hK => ?_ | refine vf rfl rfl fun K hK => ?_ | refine vg rfl rfl fun K hK => ?_); (simp only [lo, ld, ↓aop, ↓aCall, hP, hG, Nat.reduceLT, ↓reduceIte, Nat.reduceEqDiff, Nat.reduceAdd, Nat.reduceMul, Nat.reduceLeDiff, reduceCtorEq, D.cs, D.plain, fillD, chop, List.replicate, putB_get, altd, tk_9, ze_9, sz_9, tk_3, ze_3, sz_3, tk_4, ze_4, sz_4, tk_22, ze_22, sz_22, tk_26, ze_26, sz_26, kn_26, tk_24, ze_24, sz_24, tk_46, ze_46, sz_46, kn_46, tk_23, ze_23, sz_23, tk_44, ze_44, sz_44, tk_41, ze_41, sz_41]; repeat (with_reducible refine And.intro ?_ ?_; focus (first | decide | omega | (simp only [ln]; omega)))); try ((first | refine hK _ _ (by first | (rw [hp_get]; rfl) | exact hp_old (by assumption)) ?_ | refine hK _ _ ?_ | refine hK _ ?_); clear hK K; simp only [lp])) | (refine vk ?_; simp only [lt, ↓reduceIte, Nat.reduceEqDiff]))
        (refine W0 (c10 t9 t3 t4 t22 t26 t24 t46 t23 t44 t41) ?_; try with_reducible intro K hK)
        refine sat_cond rfl (fun hb => ?_) (fun hb => ?_)
        · cases hb
        (refine W0 (c10 t9 t3 t4 t22 t26 t24 t46 t23 t44 t41) ?_; try with_reducible intro K hK)
        refine spec_settled (joinF y x (headC x)) (by omega) _ _ (hK _ _ ?_)
        clear hK K; simp only [lp]
        (refine W0 (c11 @altd.eq_def t9 t3 t4 t22 t26 t24 t46 t23 t44 t41) ?_; try with_reducible intro K hK)
        refine ⟨settA (joinF y x (headC x)), ⟨sett_mid hji.1, hI⟩, ?_⟩
        refine Ent.rnd hE ?_ ?_ ?_ ?_
        · simp only [le, ↓reduceIte, Nat.reduceEqDiff, and_true]; repeat' (first | exact trivial | exact D.le_refl _ | exact D.le_any _ | with_reducible refine And.intro ?_ ?_)
        · simp [strs]
        · simp [ltAll, ltObs, Ob.lt, D.lt, D.ltL, or_imp, forall_and]
        · simp [ltAll, ltObs, Ob.lt, D.lt, D.ltL, or_imp, forall_and]
      · have hj : okJ y x = false := by simpa using hj
        rw [if_neg (by rw [hj]; decide)] at hI
        refine ⟨_, fun H => spec_joined y x (headC x) [] hax2 hyin.2.1 hax.2.1 hyin.2.2 (by omega) hcs _ _ (fun _ => ⟨rfl, rfl⟩) (fun h => by rw [hj] at h; cases h), hK _ ?_⟩
        clear hK K; simp only [lp]
        repeat (first | refine wa ?_ | ((first | refine vl rfl rfl fun K hK => ?_ | refine vf rfl rfl fun K hK => ?_ | refine vg rfl rfl fun K hK => ?_); (simp only [lo, ld, ↓aop, ↓aCall, hP, hG, Nat.reduceLT, ↓reduceIte, Nat.reduceEqDiff, Nat.reduceAdd, Nat.reduceMul, Nat.reduceLeDiff, reduceCtorEq, D.cs, D.plain, fillD, chop, List.replicate, putB_get, altd, altZ, tk_9, ze_9, sz_9, tk_3, ze_3, sz_3, tk_4, ze_4, sz_4, tk_22, ze_22, sz_22, tk_26, ze_26, sz_26, kn_26, tk_24, ze_24, sz_24, tk_46, ze_46, sz_46, kn_46, tk_23, ze_23, sz_23, tk_44, ze_44, sz_44, tk_41, ze_41, sz_41]; repeat (with_reducible refine And.intro ?_ ?_; focus (first | decide | omega | (simp only [ln]; omega)))); try ((first | refine hK _ _ (by first | (rw [hp_get]; rfl) | exact hp_old (by assumption)) ?_ | refine hK _ _ ?_ | refine hK _ ?_); clear hK K; simp only [lp])) | (refine vk ?_; simp only [lt, ↓reduceIte, Nat.reduceEqDiff]))
        (refine W0 (c10 t9 t3 t4 t22 t26 t24 t46 t23 t44 t41) ?_; try with_reducible intro K hK)
        refine sat_cond rfl (fun hb => ?_) (fun hb => ?_)
        · (refine W0 (c10 t9 t3 t4 t22 t26 t24 t46 t23 t44 t41) ?_; try with_reducible intro K hK)
          exact hbad 20 _ _ hI rfl rfl
        · cases hb
  rintro z ⟨hzm, hzI⟩
  (refine W0 (c10 t9 t3 t4 t22 t26 t24 t46 t23 t44 t41) ?_; try with_reducible intro K hK)
  refine spec_Put l z (by omega) _ _ (hK _ _ ?_)
  clear hK K; simp only [lp]
  (refine W0 (c10 t9 t3 t4 t22 t26 t24 t46 t23 t44 t41) ?_; try with_reducible intro K hK)
  have hpl := put_len l z
  refine spec_Check (putA l z) m (by omega) (put_mid (fun y hy => (hin y hy).1) hzm) hG0 _ _ (hK _ _ ?_)
  clear hK K; simp only [lp]
  (refine W0 (c10 t9 t3 t4 t22 t26 t24 t46 t23 t44 t41) ?_; try with_reducible intro K hK)
  refine sat_cond rfl (fun hb => ?_) (fun hb => ?_)
  · have hb : checkI (putA l z) = 0 := by simpa using hb
    (refine W0 (c10 t9 t3 t4 t22 t26 t24 t46 t23 t44 t41) ?_; try with_reducible intro K hK)
    refine Fin.gc2 (.v (altsV (putA l z))) (.v (.int .i64 0)) hE (by decide) (by decide) (by decide) rfl rfl (by simp only [D.lt]) (by simp only [D.lt]) ?_
    rw [hzI, finI, if_pos hb] at hK
    exact hK
  have hb : ¬ checkI (putA l z) = 0 := by simpa using hb
  rw [finI, if_neg hb] at hzI
  (refine W0 (c10 t9 t3 t4 t22 t26 t24 t46 t23 t44 t41) ?_; try with_reducible intro K hK)
  refine sat_cond rfl (fun hb2 => ?_) (fun hb2 => ?_)
  · have hb2 : checkI (putA l z) = 22 := by simpa using hb2
    rw [if_pos hb2] at hzI
    (refine W0 (c10 t9 t3 t4 t22 t26 t24 t46 t23 t44 t41) ?_; try with_reducible intro K hK)
    exact hbad 22 _ _ hzI rfl rfl
  · have hb2 : ¬ checkI (putA l z) = 22 := by simpa using hb2
    rw [if_neg hb2] at hzI
    (refine W0 (c10 t9 t3 t4 t22 t26 t24 t46 t23 t44 t41) ?_; try with_reducible intro K hK)
    exact hbad 20 _ _ hzI rfl rfl
end Go.Ag
namespace Go.Ag
open Go Go.Proofs
variable {G : Nat → Option (List V)}
attribute [local irreducible] aops qops Sat aop

theorem check1 {x : Alt} (h : rightP x = true) (hn : (things x).Nodup) : checkI [x] = 0 := by
  have h1 : okTo [x] [x].length := by
    refine ⟨fun j hj => ?_, ?_⟩
    · obtain rfl : j = 0 := by simp at hj; exact hj
      show badAt [x] 0 x = false
      simp [badAt, h]
    · simpa [thsTo] using hn
  rw [checkI, if_neg (show ¬ [x].length > 64 from (by decide : ¬ 1 > 64)), if_pos h1]
def wX : Str := [120]
def wL : Str := [47, 120]
def wA : Str := [47, 97]
def wB : Str := [47, 98]
def wCA : Cho := ⟨wA, 5, []⟩
def wCB : Cho := ⟨wB, 9, []⟩
def w1 : Alt := ⟨wX, wL, false, wA, [], [wCA]⟩
def w2 : Alt := ⟨wX, wL, false, wB, [], [wCB]⟩
def w3 : Alt := ⟨wX, wL, false, wB, [], [wCA, wCB]⟩
def w4 : Alt := ⟨wX, wL, true, wA, [], [wCA, wCB]⟩
theorem stab_nil {α : Type} (c : α → α → Int) : stab c [] = [] := stab_few c [] (show 0 < 20 by decide)
theorem alone_none (nm lk : Str) (c : Cho) : aloneF nm lk c [] = ⟨nm, lk, false, c.path, [], [⟨c.path, c.prio, []⟩]⟩ := by
  rw [aloneF, show prs [] c.slaves = [] from rfl, stab_nil]; rfl
theorem w1_right : rightP w1 = true := by kernel_rfl
theorem w2_right : rightP w2 = true := by kernel_rfl
theorem w3_right : rightP w3 = true := by kernel_rfl
theorem w1_inst : instF [] wX wL wCA [] = ([w1], 0) := by
  have e : aloneF wX wL wCA [] = w1 := alone_none _ _ _
  rw [instF, if_pos (show wCA.slaves.length = ([] : List Slv).length from rfl), e, if_pos w1_right]
  show finI (putA [] w1) = _
  have : putA [] w1 = [w1] := rfl
  rw [this, finI, if_pos (check1 w1_right (by decide))]
theorem w12_join : joinF w1 w2 (headC w2) = { w3 with cur := wA } := by
  have h1 : joinS w1 w2 = [] := by rw [joinS, show allJ w1 w2 = [] from rfl, stab_nil]
  have h2 : outJ w1 (sprA (headC w2) w2.slaves []) [] = [wCB, wCA] := by rfl
  have h3 : stab (fun a b : Cho => Lib.compareBytes a.path b.path) [wCB, wCA] = [wCA, wCB] := by
    rw [stab_few _ [wCB, wCA] (show 2 < 20 by decide)]; rfl
  rw [joinF, h1, h2, h3]; rfl
theorem w2_inst : instF [w1] wX wL wCB [] = ([w3], 0) := by
  have e : aloneF wX wL wCB [] = w2 := alone_none _ _ _
  rw [instF, if_pos (show wCB.slaves.length = ([] : List Slv).length from rfl), e, if_pos w2_right]
  show (if okJ w1 w2 = true then finI (putA [w1] (settA (joinF w1 w2 (headC w2)))) else ([], 20)) = _
  rw [if_pos (by decide), w12_join]
  have : putA [w1] (settA { w3 with cur := wA }) = [w3] := by rfl
  rw [this, finI, if_pos (check1 w3_right (by decide))]
theorem w3_set : setF [w3] wX wA = ([w4], 0) := by rfl
theorem w4_rem : remF [w4] wX wA = ([w2], 0) := by rfl
theorem w2_targ : targA w2 wX = wB := by rfl
theorem inst_nil {nm lk : Str} {c : Cho} {m : Int} (h1 : nm.length ≤ 1000000) (h2 : lk.length ≤ 1000000) (h3 : choIn c) (h3s : c.slaves.length ≤ 1000000) (l : List Alt) (hl : l.length ≤ 900000) (hin : ∀ y ∈ l, altIn y) (hG0 : G 0 = some [.int .i64 m]) (H : List Ob) (K : D → List Ob → Prop) (d : D) (hd : D.le d (.v (altsV l)))
    (hK : K (.tup [.v (altsV (instF l nm lk c []).1), .v (.int .i64 (instF l nm lk c []).2)]) H) : ACalls Tryz.prog G 38 [d, .v (.str nm), .v (.str lk), choD c, .nils] H K :=
  ACalls.ent (fun E => Ent.weak (ts := [d, .v (.str nm), .v (.str lk), choD c, .nils]) (ts' := [.v (altsV l), .v (.str nm), .v (.str lk), choD c, .v (slvs [])]) ⟨hd, D.le_refl _, D.le_refl _, D.le_refl _, D.le_nils 2, trivial⟩)
    (spec_Install l nm lk c [] m hl hin h1 h2 h3 h3s (Nat.zero_le _) (fun s hs => by cases hs) hG0 H K hK)
theorem w1_in : ∀ y ∈ [w1], altIn y := fun y hy => by
  obtain rfl := List.mem_singleton.1 hy
  refine ⟨⟨by decide, by decide, by decide, by decide, by decide, by decide, ?_⟩, by decide, by decide⟩
  intro c hc
  obtain rfl := List.mem_singleton.1 hc
  decide
set_option maxRecDepth 20000 in
set_option maxHeartbeats 16000000 in
theorem spec_awake17 (m : Int) (hG0 : G 0 = some [.int .i64 m]) (H : List Ob) (K : D → List Ob → Prop) (hK : K (.v (.bool true)) H) : ACalls Tryz.prog G 18 [] H K := by
  refine ACalls.go Tryz.f18 _ 97 [0] Tryz.func18 rfl Tryz.ntmps18 (by kernel_rfl) rfl (by simp) (fun E hE hP hG hH => ?_)
  have hM : E.P.follows .mixedOrders = true := hP ▸ mixed
  subst hH
  simp only [args0]
  (refine W0 (c10 t9 t3 t4 t22 t26 t24 t46 t23 t44 t41) ?_; try with_reducible intro K hK)
  have hcA : choIn wCA := ⟨by decide, fun t ht => by cases ht⟩
  have hcB : choIn wCB := ⟨by decide, fun t ht => by cases ht⟩
  refine spec_choice wA 5 _ _ (hK _ _ ?_)
  clear hK K; simp only [lp]
  (refine W0 (c10 t9 t3 t4 t22 t26 t24 t46 t23 t44 t41) ?_; try with_reducible intro K hK)
  refine inst_nil (nm := wX) (lk := wL) (c := wCA) (m := m) (by decide) (by decide) hcA (by decide) [] (by decide) (fun y hy => by cases hy) hG0 _ _ .nils (D.le_nils 6) (hK _ _ ?_)
  clear hK K; simp only [lp]
  rw [w1_inst]
  (refine W0 (c10 t9 t3 t4 t22 t26 t24 t46 t23 t44 t41) ?_; try with_reducible intro K hK)
  refine spec_choice wB 9 _ _ (hK _ _ ?_)
  clear hK K; simp only [lp]
  (refine W0 (c10 t9 t3 t4 t22 t26 t24 t46 t23 t44 t41) ?_; try with_reducible intro K hK)
  refine inst_nil (nm := wX) (lk := wL) (c := wCB) (m := m) (by decide) (by decide) hcB (by decide) [w1] (by decide) w1_in hG0 _ _ _ (D.le_refl _) (hK _ _ ?_)
  clear hK K; simp only [lp]
  rw [w2_inst]
  (refine W0 (c10 t9 t3 t4 t22 t26 t24 t46 t23 t44 t41) ?_; try with_reducible intro K hK)
  refine spec_Set [w3] wX wA (by decide) (fun y hy => by obtain rfl := List.mem_singleton.1 hy; decide) _ _ (hK _ _ ?_)
  clear hK K; simp only [lp]
  rw [w3_set]
  (refine W0 (c10 t9 t3 t4 t22 t26 t24 t46 t23 t44 t41) ?_; try with_reducible intro K hK)
  refine spec_Remove [w4] wX wA (by decide) (fun y hy => by obtain rfl := List.mem_singleton.1 hy; decide) _ _ (hK _ _ ?_)
  clear hK K; simp only [lp]
  rw [w4_rem]
  (refine Q0 (c10 t9 t3 t4 t22 t26 t24 t46 t23 t44 t41) ?_; try with_reducible intro K hK)
  refine sat_ent (.weakFr (l' := [(1, .v (altsV [w3])), (2, .v (.int .i64 0)), (3, .v (.int .i64 0)), (4, .v (altsV [w4])), (5, .v (.int .i64 0)), (6, .v (altsV [w2])), (7, .v (.int .i64 0)), (0, .v (.bool false))]) ?_) ?_
  · simp only [le, ↓reduceIte, Nat.reduceEqDiff, and_true]; repeat' (first | exact trivial | exact D.le_refl _ | exact D.le_any _ | with_reducible refine And.intro ?_ ?_)
  have z0 : ((0 : Int) == 0) = true := rfl
  have z1 : (((1 : Nat) : Int) == 1) = true := rfl
  have hg0 : ∀ (X : List V), (([X] : List (List V))[Int.toNat 0]?).getD [] = X := fun _ => rfl
  have z2 : (wB == ([47, 98] : List UInt8)) = true := by decide
  have z3 : (wA == ([47, 97] : List UInt8)) = true := by decide
  (first | refine wr ?_ | refine wp rfl hM ?_ | refine wq hM ?_); repeat' (first | (refine G0 (c14 @altsV.eq_def t9 t3 t4 t22 t26 t24 t46 t23 t44 t41 @z0 @z1 @Bool.not_true) ?_; try with_reducible intro K hK) | ((first | refine Xs rfl rfl (by decide) rfl (fun h => ?_) fun h => ?_ | refine Ys rfl rfl (by decide) rfl (fun h => ?_) fun h => ?_ | refine Zs rfl rfl rfl (by decide) rfl (fun h => ?_) fun h => ?_); rotate_left; (focus (simp only [Bool.not_true, Bool.not_false, lp])); rotate_left))
  refine sat_cond rfl (fun hb => ?_) (fun hb => ?_)
  · cases hb
  refine sat_skip ?_
  repeat (first | ((first | refine wi ?_ | refine wj ?_ | refine wk ?_ | refine wl ?_ | refine wm ?_ | refine wn ?_); simp only [lt, ↓reduceIte, Nat.reduceEqDiff]) | refine wo ?_)
  repeat refine wa ?_
  (first | refine wr ?_ | refine wp rfl hM ?_ | refine wq hM ?_); repeat' (first | (refine G0 (c19 @altsV.eq_def @altV.eq_def @w2.eq_def @w3.eq_def @w4.eq_def t9 t3 t4 t22 t26 t24 t46 t23 t44 t41 @hg0 @z2 @z3 @Bool.not_false) ?_; try with_reducible intro K hK) | ((first | refine Xs rfl rfl (by decide) rfl (fun h => ?_) fun h => ?_ | refine Ys rfl rfl (by decide) rfl (fun h => ?_) fun h => ?_ | refine Zs rfl rfl rfl (by decide) rfl (fun h => ?_) fun h => ?_); rotate_left; (focus (simp only [Bool.not_true, Bool.not_false, lp])); rotate_left))
  refine spec_Target w2 wX (by decide) (by decide) _ _ (hK _ _ ?_)
  clear hK K; simp only [lp]
  rw [w2_targ]
  repeat' (first | (refine G0 (c11 t9 t3 t4 t22 t26 t24 t46 t23 t44 t41 @z2) ?_; try with_reducible intro K hK) | ((first | refine Xs rfl rfl (by decide) rfl (fun h => ?_) fun h => ?_ | refine Ys rfl rfl (by decide) rfl (fun h => ?_) fun h => ?_ | refine Zs rfl rfl rfl (by decide) rfl (fun h => ?_) fun h => ?_); rotate_left; (focus (simp only [Bool.not_true, Bool.not_false, lp])); rotate_left))
  (refine W0 trivial ?_; try with_reducible intro K hK)
  exact Fin.is (.v (.bool true)) (by decide) rfl hK
/-! ### the law -/
set_option maxRecDepth 20000 in
set_option maxHeartbeats 16000000 in
theorem spec_ChooseTargets (x : Alt) (p : Str) (m : Int) (hG0 : G 0 = some [.int .i64 m]) (H : List Ob) (K : D → List Ob → Prop) (hK : K (.v (.bool true)) H) : ACalls Tryz.prog G 4 [altd x, .v (.str p)] H K := by
  refine ACalls.go Tryz.f4 _ 50 [4] Tryz.func4 rfl Tryz.ntmps4 (by kernel_rfl) rfl (by simp) (fun E hE hP hG hH => ?_)
  have hM : E.P.follows .mixedOrders = true := hP ▸ mixed
  subst hH
  have e0 : altd x = .agg ((altV x).map .v) := rfl
  simp only [args0, e0]
  (refine W0 (c10 @altV.eq_def t9 t3 t4 t22 t26 t24 t46 t23 t37) ?_; try with_reducible intro K hK)
  (first | refine wr ?_ | refine wp rfl hM ?_ | refine wq hM ?_); repeat' (first | (refine G0 (c9 t9 t3 t4 t22 t26 t24 t46 t23 t37) ?_; try with_reducible intro K hK) | ((first | refine Xs rfl rfl (by decide) rfl (fun h => ?_) fun h => ?_ | refine Ys rfl rfl (by decide) rfl (fun h => ?_) fun h => ?_ | refine Zs rfl rfl rfl (by decide) rfl (fun h => ?_) fun h => ?_); rotate_left; (focus (simp only [Bool.not_true, Bool.not_false, lp])); rotate_left))
  refine ACalls.pub (E.H0.length + 1) [altV x] (by rw [hp_get]; rfl) (by simp) (by simp) (spec_FewA [x] (by simp) _ _ (fun b hb => hK _ _ ?_))
  clear hK K; simp only [lp]
  rw [hp_set]
  simp only [List.set_cons_succ, List.set_cons_zero]
  have haw : ∀ (ts : List (Nat × D)) (L : List Ob), look ts 4 = .v (.bool true) → Fin E (fr 50 ts) (E.H0 ++ L) [4] K := fun ts L h => Fin.gc (.v (.bool true)) hE (by decide) h (by simp only [D.lt]) hK
  cases b with
  | false =>
    repeat' (first | (refine G0 (c10 t9 t3 t4 t22 t26 t24 t46 t23 t37 @Bool.not_false) ?_; try with_reducible intro K hK) | ((first | refine Xs rfl rfl (by decide) rfl (fun h => ?_) fun h => ?_ | refine Ys rfl rfl (by decide) rfl (fun h => ?_) fun h => ?_ | refine Zs rfl rfl rfl (by decide) rfl (fun h => ?_) fun h => ?_); rotate_left; (focus (simp only [Bool.not_true, Bool.not_false, lp])); rotate_left))
    refine sat_cond rfl (fun hc => ?_) (fun hc => ?_)
    · (refine W0 (c9 t9 t3 t4 t22 t26 t24 t46 t23 t37) ?_; try with_reducible intro K hK)
      refine spec_awake17 m hG0 _ _ (hK _ _ ?_)
      clear hK K; simp only [lp]
      (refine W0 (c9 t9 t3 t4 t22 t26 t24 t46 t23 t37) ?_; try with_reducible intro K hK)
      exact haw _ _ rfl
    · cases hc
  | true =>
    have hs : altSmall x := (hb rfl).2 x (by simp)
    obtain ⟨_, _, _, hs4, hs5, _, _⟩ := hs
    repeat' (first | (refine G0 (c10 t9 t3 t4 t22 t26 t24 t46 t23 t37 @Bool.not_true) ?_; try with_reducible intro K hK) | ((first | refine Xs rfl rfl (by decide) rfl (fun h => ?_) fun h => ?_ | refine Ys rfl rfl (by decide) rfl (fun h => ?_) fun h => ?_ | refine Zs rfl rfl rfl (by decide) rfl (fun h => ?_) fun h => ?_); rotate_left; (focus (simp only [Bool.not_true, Bool.not_false, lp])); rotate_left))
    refine sat_cond rfl (fun hc => ?_) (fun hc => ?_)
    · (refine W0 (c9 t9 t3 t4 t22 t26 t24 t46 t23 t37) ?_; try with_reducible intro K hK)
      refine spec_awake17 m hG0 _ _ (hK _ _ ?_)
      clear hK K; simp only [lp]
      (refine W0 (c9 t9 t3 t4 t22 t26 t24 t46 t23 t37) ?_; try with_reducible intro K hK)
      exact haw _ _ rfl
    (refine W0 (c9 t9 t3 t4 t22 t26 t24 t46 t23 t37) ?_; try with_reducible intro K hK)
    refine sat_loop_ent (fun n ts H => ∃ (i : Nat), n = x.slaves.length - i ∧ i ≤ x.slaves.length ∧
      ts = fr 50 [(5, .v (.int .i64 i)), (2, .ptr E.H0.length 0), (1, .v (.str p))] ∧ H = E.H0 ++ [.box [.v (.str x.name), .v (.str x.link), .v (.bool x.manual), .v (.str x.cur), .v (slvs x.slaves), .v (chos x.choices)]]) (x.slaves.length) ?_ ⟨0, rfl, Nat.zero_le _, rfl, rfl⟩ ?_
    · refine Ent.rnd hE ?_ ?_ ?_ ?_
      · simp only [le, ↓reduceIte, Nat.reduceEqDiff, and_true]; repeat' (first | exact trivial | exact D.le_refl _ | exact D.le_any _ | with_reducible refine And.intro ?_ ?_)
      · simp
      · simp [ltAll, ltObs, Ob.lt, D.lt, D.ltL, or_imp, forall_and]
      · simp [ltAll, ltObs, Ob.lt, D.lt, D.ltL, or_imp, forall_and]
    rintro n ts H ⟨i, rfl, hi, rfl, rfl⟩
    (refine W0 (c10 @slvs.eq_def t9 t3 t4 t22 t26 t24 t46 t23 t37) ?_; try with_reducible intro K hK)
    refine sat_cond rfl (fun hd => ?_) (fun hd => ?_)
    · simp at hd
      obtain ⟨s, hss⟩ : ∃ s, x.slaves[i]? = some s := ⟨_, List.getElem?_eq_getElem hd⟩
      have hw := wrap_succ (i := i) (by omega)
      (refine W0 (c12 @slvs.eq_def t9 t3 t4 t22 t26 t24 t46 t23 t37 @hss @hd) ?_; try with_reducible intro K hK)
      refine ⟨_, spec_Target x s.name (by omega) (by omega) _ _ ⟨rfl, rfl⟩, hK _ ?_⟩
      clear hK K; simp only [lp]
      (refine W0 (c12 @slvs.eq_def t9 t3 t4 t22 t26 t24 t46 t23 t37 @hss @hd) ?_; try with_reducible intro K hK)
      refine ⟨_, spec_rTarget x s.name (by omega) (by omega) _ _ ⟨rfl, rfl⟩, hK _ ?_⟩
      clear hK K; simp only [lp]
      (refine W0 (c10 t9 t3 t4 t22 t26 t24 t46 t23 t37 @bne_self_eq_false.{0}) ?_; try with_reducible intro K hK)
      refine sat_cond rfl (fun hq => ?_) (fun hq => ?_)
      · exact absurd hq (by simp)
      (refine W0 (c10 t9 t3 t4 t22 t26 t24 t46 t23 t37 @hw) ?_; try with_reducible intro K hK)
      refine ⟨x.slaves.length - (i + 1), _, _, by omega, ?_, i + 1, rfl, by omega, rfl, rfl⟩
      refine Ent.rnd hE ?_ ?_ ?_ ?_
      · simp only [le, ↓reduceIte, Nat.reduceEqDiff, and_true]; repeat' (first | exact trivial | exact D.le_refl _ | exact D.le_any _ | with_reducible refine And.intro ?_ ?_)
      · simp [slvs]
      · simp [ltAll, ltObs, Ob.lt, D.lt, D.ltL, or_imp, forall_and]
      · simp [ltAll, ltObs, Ob.lt, D.lt, D.ltL, or_imp, forall_and]
    · (refine W0 (c9 t9 t3 t4 t22 t26 t24 t46 t23 t37) ?_; try with_reducible intro K hK)
      (first | refine wr ?_ | refine wp rfl hM ?_ | refine wq hM ?_); repeat' (first | (refine G0 (c10 @slvs.eq_def t9 t3 t4 t22 t26 t24 t46 t23 t37) ?_; try with_reducible intro K hK) | ((first | refine Xs rfl rfl (by decide) rfl (fun h => ?_) fun h => ?_ | refine Ys rfl rfl (by decide) rfl (fun h => ?_) fun h => ?_ | refine Zs rfl rfl rfl (by decide) rfl (fun h => ?_) fun h => ?_); rotate_left; (focus (simp only [Bool.not_true, Bool.not_false, lp])); rotate_left))
      refine ⟨_, spec_Target x p (by omega) (by omega) _ _ ⟨rfl, rfl⟩, hK _ ?_⟩
      clear hK K; simp only [lp]
      repeat' (first | (refine G0 (c9 t9 t3 t4 t22 t26 t24 t46 t23 t37) ?_; try with_reducible intro K hK) | ((first | refine Xs rfl rfl (by decide) rfl (fun h => ?_) fun h => ?_ | refine Ys rfl rfl (by decide) rfl (fun h => ?_) fun h => ?_ | refine Zs rfl rfl rfl (by decide) rfl (fun h => ?_) fun h => ?_); rotate_left; (focus (simp only [Bool.not_true, Bool.not_false, lp])); rotate_left))
      refine ⟨_, spec_rTarget x p (by omega) (by omega) _ _ ⟨rfl, rfl⟩, hK _ ?_⟩
      clear hK K; simp only [lp]
      have hbeq : (targA x p == targA x p) = true := by simp
      repeat' (first | (refine G0 (c10 t9 t3 t4 t22 t26 t24 t46 t23 t37 @hbeq) ?_; try with_reducible intro K hK) | ((first | refine Xs rfl rfl (by decide) rfl (fun h => ?_) fun h => ?_ | refine Ys rfl rfl (by decide) rfl (fun h => ?_) fun h => ?_ | refine Zs rfl rfl rfl (by decide) rfl (fun h => ?_) fun h => ?_); rotate_left; (focus (simp only [Bool.not_true, Bool.not_false, lp])); rotate_left))
      refine ⟨_, spec_awake17 m hG0 _ _ ⟨rfl, rfl⟩, hK _ ?_⟩
      clear hK K; simp only [lp]
      repeat' (first | (refine G0 (c9 t9 t3 t4 t22 t26 t24 t46 t23 t37) ?_; try with_reducible intro K hK) | ((first | refine Xs rfl rfl (by decide) rfl (fun h => ?_) fun h => ?_ | refine Ys rfl rfl (by decide) rfl (fun h => ?_) fun h => ?_ | refine Zs rfl rfl rfl (by decide) rfl (fun h => ?_) fun h => ?_); rotate_left; (focus (simp only [Bool.not_true, Bool.not_false, lp])); rotate_left))
      (refine W0 (c9 t9 t3 t4 t22 t26 t24 t46 t23 t37) ?_; try with_reducible intro K hK)
      exact haw _ _ rfl
end Go.Ag
