import Derived.Test.YtgnojlbihhnphaaGreatDoorAgSc
import Derived.Test.YtgnojlbihhnphaaGreatDoorShelf
set_option linter.all false
namespace Go.Ag
open Go Go.Proofs
variable {G : Nat → Option (List V)}
attribute [local irreducible] aops qops Sat aop

theorem take_snoc {α : Type} {s : List α} {i : Nat} {b : α} (h : s[i]? = some b) : s.take (i + 1) = s.take i ++ [b] := by rw [List.take_add_one, h]; rfl
def altV (x : Alt) : List V := [.str x.name, .str x.link, .bool x.manual, .str x.cur, slvs x.slaves, chos x.choices]
def altsV (l : List Alt) : V := .list 6 (l.map altV)
theorem all_snoc {α : Type} {p : α → Prop} {l : List α} {i : Nat} {x : α} (h : ∀ y ∈ l.take i, p y) (hx : l[i]? = some x) (hp : p x) : ∀ y ∈ l.take (i + 1), p y := by
  intro y hy
  rw [take_snoc hx] at hy
  rcases List.mem_append.1 hy with hy | hy
  · exact h y hy
  · simp at hy; subst hy; exact hp

def slvSmall (s : Slv) : Prop := s.name.length ≤ 300 ∧ s.link.length ≤ 300
def choSmall (c : Cho) : Prop := c.path.length ≤ 300 ∧ c.slaves.length ≤ 70 ∧ ∀ t ∈ c.slaves, t.length ≤ 3000
def altSmall (x : Alt) : Prop := x.name.length ≤ 300 ∧ x.link.length ≤ 300 ∧ x.cur.length ≤ 300 ∧ x.slaves.length ≤ 70 ∧ x.choices.length ≤ 70 ∧ (∀ s ∈ x.slaves, slvSmall s) ∧ ∀ c ∈ x.choices, choSmall c
def fewA (l : List Alt) : Prop := l.length ≤ 70 ∧ ∀ x ∈ l, altSmall x

set_option maxHeartbeats 8000000 in
theorem spec_FewA (l : List Alt) (hl : l.length ≤ 9223372036854775807) (H : List Ob) (K : D → List Ob → Prop) (hK : ∀ b : Bool, (b = true → fewA l) → K (.v (.bool b)) H) : ACalls Tryz.prog G 7 [.v (altsV l)] H K := by
  refine ACalls.go Tryz.f7 _ 138 [2] Tryz.func7 rfl Tryz.ntmps7 (by kernel_rfl) rfl (by simp) (fun E hE hP hG hH => ?_)
  have hM : E.P.follows .mixedOrders = true := hP ▸ mixed
  subst hH
  simp only [args0]
  (refine W0 (c5 @altsV.eq_def t3 t9 t22 t26) ?_; try with_reducible intro K hK)
  refine sat_cond rfl (fun hb => ?_) (fun hb => ?_)
  · (refine W0 (c2 t9 t3) ?_; try with_reducible intro K hK)
    exact Fin.is _ (by decide) rfl (hK false (fun h => by cases h))
  have hlen : l.length ≤ 70 := by simp only [decide_eq_false_iff_not] at hb; omega
  (refine W0 (c5 @altsV.eq_def t3 t9 t22 t26) ?_; try with_reducible intro K hK)
  refine sat_loop_ent (fun n ts H => ∃ (i m : Nat), n = l.length - i ∧ i ≤ l.length ∧ m ≤ 3000 ∧ (∀ x ∈ l.take i, altSmall x) ∧
    ts = fr 138 [(4, .v (.int .i64 i)), (3, .v (.int .i64 m)), (2, .v (.bool false)), (0, .v (altsV l))] ∧ H = E.H0) (l.length) (.weakFr ?_) ⟨0, 0, rfl, Nat.zero_le _, Nat.zero_le _, by simp, rfl, rfl⟩ ?_
  · simp only [le, ↓reduceIte, Nat.reduceEqDiff, and_true]; repeat' (first | exact trivial | exact D.le_refl _ | exact D.le_any _ | with_reducible refine And.intro ?_ ?_)
  rintro n ts H ⟨i, m, rfl, hi, hm, hall, rfl, rfl⟩
  (refine W0 (c5 @altsV.eq_def t3 t9 t22 t26) ?_; try with_reducible intro K hK)
  refine sat_cond rfl (fun hc => ?_) (fun hc => ?_)
  · simp at hc
    obtain ⟨x, hx⟩ : ∃ x, l[i]? = some x := ⟨_, List.getElem?_eq_getElem hc⟩
    have hw := wrap_succ (i := i) (by omega)
    (refine W0 (c8 @altsV.eq_def t3 t9 t22 t26 @hc @hx @altV.eq_def) ?_; try with_reducible intro K hK)
    refine sat_thru (fr 138 [(49, .v (.bool (decide ((x.name.length : Int) > 300) || decide ((x.link.length : Int) > 300) || decide ((x.cur.length : Int) > 300) || decide ((x.slaves.length : Int) > 70) || decide ((x.choices.length : Int) > 70)))), (5, .ptr E.H0.length 0), (4, .v (.int .i64 i)), (3, .v (.int .i64 m)), (2, .v (.bool false)), (0, .v (altsV l))]) (E.H0 ++ [.box ((altV x).map .v)]) ?_ ?_
    · (first | refine wr ?_ | refine wp rfl hM ?_ | refine wq hM ?_); repeat' (first | (refine G0 (c8 t3 t9 t22 t26 t23 t24 @slvs.eq_def @chos.eq_def) ?_; try with_reducible intro K hK) | ((first | refine Xs rfl rfl (by decide) rfl (fun h => ?_) fun h => ?_ | refine Ys rfl rfl (by decide) rfl (fun h => ?_) fun h => ?_ | refine Zs rfl rfl rfl (by decide) rfl (fun h => ?_) fun h => ?_); rotate_left; (focus (simp only [Bool.not_true, Bool.not_false, lp])); rotate_left))
      all_goals refine .weakFr ?_
      all_goals simp only [le, ↓reduceIte, Nat.reduceEqDiff, and_true]; repeat' (first | exact trivial | exact D.le_refl _ | exact D.le_any _ | with_reducible refine And.intro ?_ ?_)
      all_goals clear hall
      all_goals refine D.le_eq (congrArg D.v (congrArg V.bool ?_)); (try simp only [Bool.not_eq_eq_eq_not, Bool.not_true, Bool.not_false] at *); simp only [*, List.getD_eq_getElem?_getD, Bool.and_true, Bool.true_and, Bool.and_false, Bool.false_and, Bool.or_true, Bool.true_or, Bool.or_false, Bool.false_or, Bool.not_true, Bool.not_false, Bool.not_not]
    refine sat_cond rfl (fun hb => ?_) (fun hb => ?_)
    · (refine W0 trivial ?_; try with_reducible intro K hK)
      exact Fin.gc (.v (.bool false)) hE (by decide) rfl (by simp only [D.lt]) (hK false (fun h => by cases h))
    simp only [Bool.or_eq_false_iff, decide_eq_false_iff_not] at hb
    have hsl : x.slaves.length ≤ 70 := by omega
    have hcl : x.choices.length ≤ 70 := by omega
    (refine W0 t3 ?_; try with_reducible intro K hK)
    refine sat_loop_ent (fun n ts H => ∃ (k : Nat), n = x.slaves.length - k ∧ k ≤ x.slaves.length ∧ (∀ s ∈ x.slaves.take k, slvSmall s) ∧
      ts = fr 138 [(6, .v (.int .i64 k)), (5, .ptr E.H0.length 0), (4, .v (.int .i64 i)), (3, .v (.int .i64 m)), (2, .v (.bool false)), (0, .v (altsV l))] ∧ H = E.H0 ++ [.box ((altV x).map .v)]) (x.slaves.length) (.weakFr ?_) ⟨0, rfl, Nat.zero_le _, by simp, rfl, rfl⟩ ?_
    · simp only [le, ↓reduceIte, Nat.reduceEqDiff, and_true]; repeat' (first | exact trivial | exact D.le_refl _ | exact D.le_any _ | with_reducible refine And.intro ?_ ?_)
    · rintro n ts H ⟨k, rfl, hk, hks, rfl, rfl⟩
      (refine W0 (c7 @altV.eq_def @slvs.eq_def t3 t9 t26 t23 t37) ?_; try with_reducible intro K hK)
      refine sat_cond rfl (fun hd => ?_) (fun hd => ?_)
      · simp at hd
        obtain ⟨s, hs⟩ : ∃ s, x.slaves[k]? = some s := ⟨_, List.getElem?_eq_getElem hd⟩
        have hwk := wrap_succ (i := k) (by omega)
        (refine W0 trivial ?_; try with_reducible intro K hK)
        refine sat_thru (fr 138 [(74, .v (.bool (decide ((s.name.length : Int) > 300) || decide ((s.link.length : Int) > 300)))), (6, .v (.int .i64 k)), (5, .ptr E.H0.length 0), (4, .v (.int .i64 i)), (3, .v (.int .i64 m)), (2, .v (.bool false)), (0, .v (altsV l))]) (E.H0 ++ [.box ((altV x).map .v)]) ?_ ?_
        · (first | refine wr ?_ | refine wp rfl hM ?_ | refine wq hM ?_); repeat' (first | (refine G0 (c9 @altV.eq_def @slvs.eq_def t3 t9 t26 t23 t37 @hd @hs) ?_; try with_reducible intro K hK) | ((first | refine Xs rfl rfl (by decide) rfl (fun h => ?_) fun h => ?_ | refine Ys rfl rfl (by decide) rfl (fun h => ?_) fun h => ?_ | refine Zs rfl rfl rfl (by decide) rfl (fun h => ?_) fun h => ?_); rotate_left; (focus (simp only [Bool.not_true, Bool.not_false, lp])); rotate_left))
          all_goals refine .weakFr ?_
          all_goals simp only [le, ↓reduceIte, Nat.reduceEqDiff, and_true]; repeat' (first | exact trivial | exact D.le_refl _ | exact D.le_any _ | with_reducible refine And.intro ?_ ?_)
          all_goals clear hall hks
          all_goals refine D.le_eq (congrArg D.v (congrArg V.bool ?_)); (try simp only [Bool.not_eq_eq_eq_not, Bool.not_true, Bool.not_false] at *); simp only [*, List.getD_eq_getElem?_getD, Bool.and_true, Bool.true_and, Bool.and_false, Bool.false_and, Bool.or_true, Bool.true_or, Bool.or_false, Bool.false_or, Bool.not_true, Bool.not_false, Bool.not_not]
        refine sat_cond rfl (fun he => ?_) (fun he => ?_)
        · (refine W0 trivial ?_; try with_reducible intro K hK)
          exact Fin.gc (.v (.bool false)) hE (by decide) rfl (by simp only [D.lt]) (hK false (fun h => by cases h))
        · (refine W0 (c2 @hwk t3) ?_; try with_reducible intro K hK)
          simp only [Bool.or_eq_false_iff, decide_eq_false_iff_not] at he
          refine ⟨x.slaves.length - (k + 1), _, _, by omega, .weakFr ?_, k + 1, rfl, by omega, all_snoc hks hs ⟨by omega, by omega⟩, rfl, rfl⟩
          simp only [le, ↓reduceIte, Nat.reduceEqDiff, and_true]; repeat' (first | exact trivial | exact D.le_refl _ | exact D.le_any _ | with_reducible refine And.intro ?_ ?_)
      · simp at hd
        have e : x.slaves.take k = x.slaves := List.take_of_length_le (by omega)
        rw [e] at hks
        (refine W0 t3 ?_; try with_reducible intro K hK)
        refine sat_loop_ent (fun n ts H => ∃ (k m : Nat), n = x.choices.length - k ∧ k ≤ x.choices.length ∧ m ≤ 3000 ∧ (∀ c ∈ x.choices.take k, choSmall c) ∧
          ts = fr 138 [(7, .v (.int .i64 k)), (5, .ptr E.H0.length 0), (4, .v (.int .i64 i)), (3, .v (.int .i64 m)), (2, .v (.bool false)), (0, .v (altsV l))] ∧ H = E.H0 ++ [.box ((altV x).map .v)]) (x.choices.length) (.weakFr ?_) ⟨0, m, rfl, Nat.zero_le _, hm, by simp, rfl, rfl⟩ ?_
        · simp only [le, ↓reduceIte, Nat.reduceEqDiff, and_true]; repeat' (first | exact trivial | exact D.le_refl _ | exact D.le_any _ | with_reducible refine And.intro ?_ ?_)
        clear hm
        rintro n ts H ⟨k, m, rfl, hk, hm, hkc, rfl, rfl⟩
        (refine W0 (c7 @altV.eq_def @chos.eq_def t3 t9 t26 t24 t46) ?_; try with_reducible intro K hK)
        refine sat_cond rfl (fun hd => ?_) (fun hd => ?_)
        · simp at hd
          obtain ⟨c, hcc⟩ : ∃ c, x.choices[k]? = some c := ⟨_, List.getElem?_eq_getElem hd⟩
          have hwk := wrap_succ (i := k) (by omega)
          (refine W0 trivial ?_; try with_reducible intro K hK)
          refine sat_thru (fr 138 [(99, .v (.bool (decide ((c.path.length : Int) > 300) || decide ((c.slaves.length : Int) > 70)))), (7, .v (.int .i64 k)), (5, .ptr E.H0.length 0), (4, .v (.int .i64 i)), (3, .v (.int .i64 m)), (2, .v (.bool false)), (0, .v (altsV l))]) (E.H0 ++ [.box ((altV x).map .v)]) ?_ ?_
          · (first | refine wr ?_ | refine wp rfl hM ?_ | refine wq hM ?_); repeat' (first | (refine G0 (c11 @altV.eq_def @chos.eq_def @strs.eq_def t3 t9 t26 t24 t46 t44 @hd @hcc) ?_; try with_reducible intro K hK) | ((first | refine Xs rfl rfl (by decide) rfl (fun h => ?_) fun h => ?_ | refine Ys rfl rfl (by decide) rfl (fun h => ?_) fun h => ?_ | refine Zs rfl rfl rfl (by decide) rfl (fun h => ?_) fun h => ?_); rotate_left; (focus (simp only [Bool.not_true, Bool.not_false, lp])); rotate_left))
            all_goals refine .weakFr ?_
            all_goals simp only [le, ↓reduceIte, Nat.reduceEqDiff, and_true]; repeat' (first | exact trivial | exact D.le_refl _ | exact D.le_any _ | with_reducible refine And.intro ?_ ?_)
            all_goals clear hall hks hkc
            all_goals refine D.le_eq (congrArg D.v (congrArg V.bool ?_)); (try simp only [Bool.not_eq_eq_eq_not, Bool.not_true, Bool.not_false] at *); simp only [*, List.getD_eq_getElem?_getD, Bool.and_true, Bool.true_and, Bool.and_false, Bool.false_and, Bool.or_true, Bool.true_or, Bool.or_false, Bool.false_or, Bool.not_true, Bool.not_false, Bool.not_not]
          refine sat_cond rfl (fun he => ?_) (fun he => ?_)
          · (refine W0 trivial ?_; try with_reducible intro K hK)
            exact Fin.gc (.v (.bool false)) hE (by decide) rfl (by simp only [D.lt]) (hK false (fun h => by cases h))
          simp only [Bool.or_eq_false_iff, decide_eq_false_iff_not] at he
          (refine W0 t3 ?_; try with_reducible intro K hK)
          refine sat_loop_ent (fun n ts H => ∃ (j m : Nat), n = c.slaves.length - j ∧ j ≤ c.slaves.length ∧ m ≤ 3000 ∧ (∀ t ∈ c.slaves.take j, t.length ≤ 3000) ∧
            ts = fr 138 [(8, .v (.int .i64 j)), (7, .v (.int .i64 k)), (5, .ptr E.H0.length 0), (4, .v (.int .i64 i)), (3, .v (.int .i64 m)), (2, .v (.bool false)), (0, .v (altsV l))] ∧ H = E.H0 ++ [.box ((altV x).map .v)]) (c.slaves.length) (.weakFr ?_) ⟨0, m, rfl, Nat.zero_le _, hm, by simp, rfl, rfl⟩ ?_
          · simp only [le, ↓reduceIte, Nat.reduceEqDiff, and_true]; repeat' (first | exact trivial | exact D.le_refl _ | exact D.le_any _ | with_reducible refine And.intro ?_ ?_)
          clear hm
          rintro n ts H ⟨j, m, rfl, hj, hm, hjt, rfl, rfl⟩
          (refine W0 (c11 @altV.eq_def @chos.eq_def @strs.eq_def t3 t9 t26 t24 t46 t44 @hd @hcc) ?_; try with_reducible intro K hK)
          refine sat_cond rfl (fun hf => ?_) (fun hf => ?_)
          · simp at hf
            obtain ⟨t, ht⟩ : ∃ t, c.slaves[j]? = some t := ⟨_, List.getElem?_eq_getElem hf⟩
            have hwj := wrap_succ (i := j) (by omega)
            have hm1 : IntKind.i64.wrap ((m : Int) + IntKind.i64.wrap (1 + if 3000 < (t.length : Int) then 3000 else (t.length : Int))) = ((m + (1 + min t.length 3000) : Nat) : Int) := by
              have h1 : (1 + if 3000 < (t.length : Int) then 3000 else (t.length : Int)) = ((1 + min t.length 3000 : Nat) : Int) := by split <;> omega
              rw [h1, wrap_nat (by omega), ← Int.natCast_add, wrap_nat (by omega)]
            (refine W0 (c14 @altV.eq_def @chos.eq_def @strs.eq_def t3 t9 t26 t24 t46 t44 @hd @hcc @hf @ht @hm1) ?_; try with_reducible intro K hK)
            refine sat_cond rfl (fun hg => ?_) (fun hg => ?_)
            · (refine W0 trivial ?_; try with_reducible intro K hK)
              exact Fin.gc (.v (.bool false)) hE (by decide) rfl (by simp only [D.lt]) (hK false (fun h => by cases h))
            · simp only [decide_eq_false_iff_not] at hg
              (refine W0 (c2 @hwj t3) ?_; try with_reducible intro K hK)
              refine ⟨c.slaves.length - (j + 1), _, _, by omega, .weakFr ?_, j + 1, m + (1 + min t.length 3000), rfl, by omega, by omega, all_snoc hjt ht (by omega), rfl, rfl⟩
              simp only [le, ↓reduceIte, Nat.reduceEqDiff, and_true]; repeat' (first | exact trivial | exact D.le_refl _ | exact D.le_any _ | with_reducible refine And.intro ?_ ?_)
          · simp at hf
            have e : c.slaves.take j = c.slaves := List.take_of_length_le (by omega)
            rw [e] at hjt
            (refine W0 (c2 @hwk t3) ?_; try with_reducible intro K hK)
            refine ⟨x.choices.length - (k + 1), _, _, by omega, .weakFr ?_, k + 1, m, rfl, by omega, hm, all_snoc hkc hcc ⟨by omega, by omega, hjt⟩, rfl, rfl⟩
            simp only [le, ↓reduceIte, Nat.reduceEqDiff, and_true]; repeat' (first | exact trivial | exact D.le_refl _ | exact D.le_any _ | with_reducible refine And.intro ?_ ?_)
        · simp at hd
          have e : x.choices.take k = x.choices := List.take_of_length_le (by omega)
          rw [e] at hkc
          have hm1 : IntKind.i64.wrap ((m : Int) + IntKind.i64.wrap ((x.slaves.length : Int) + (x.choices.length : Int))) = ((m + (x.slaves.length + x.choices.length) : Nat) : Int) := by
            rw [← Int.natCast_add, wrap_nat (by omega), ← Int.natCast_add, wrap_nat (by omega)]
          (refine W0 (c9 @altV.eq_def @slvs.eq_def @chos.eq_def t3 t9 t26 t24 t23 @hm1) ?_; try with_reducible intro K hK)
          refine sat_cond rfl (fun hg => ?_) (fun hg => ?_)
          · (refine W0 trivial ?_; try with_reducible intro K hK)
            exact Fin.gc (.v (.bool false)) hE (by decide) rfl (by simp only [D.lt]) (hK false (fun h => by cases h))
          · simp only [decide_eq_false_iff_not] at hg
            (refine W0 (c2 @hw t3) ?_; try with_reducible intro K hK)
            refine ⟨l.length - (i + 1), _, _, by omega, Ent.round0 hE ?_ ?_, i + 1, m + (x.slaves.length + x.choices.length), rfl, by omega, by omega, all_snoc hall hx ⟨by omega, by omega, by omega, hsl, hcl, hks, hkc⟩, rfl, rfl⟩
            · simp only [le, ↓reduceIte, Nat.reduceEqDiff, and_true]; repeat' (first | exact trivial | exact D.le_refl _ | exact D.le_any _ | with_reducible refine And.intro ?_ ?_)
            · simp [ltAll, ltObs, Ob.lt, D.lt, D.ltL, or_imp, forall_and]
  · simp at hc
    have e : l.take i = l := List.take_of_length_le (by omega)
    rw [e] at hall
    (refine W0 trivial ?_; try with_reducible intro K hK)
    exact Fin.is _ (by decide) rfl (hK true (fun _ => ⟨hlen, hall⟩))
end Go.Ag
namespace Go.Ag
open Go Go.Proofs
variable {G : Nat → Option (List V)}
attribute [local irreducible] aops qops Sat aop

theorem spec_HasPrefix (s p : Str) (H : List Ob) (K : D → List Ob → Prop) (hK : K (.v (.bool (Lib.hasPrefix s p))) H) : ACalls Tryz.prog G 137 [.v (.str s), .v (.str p)] H K :=
  lib_bool2 Lib.hasPrefix (by kernel_rfl) s p (fun w => Tryz.strings_HasPrefix _ _ w) hK
theorem spec_HasSuffix (s p : Str) (hs : s.length ≤ 1099511627776) (H : List Ob) (K : D → List Ob → Prop) (hK : K (.v (.bool (Lib.hasSuffix s p))) H) : ACalls Tryz.prog G 74 [.v (.str s), .v (.str p)] H K :=
  lib_bool2 Lib.hasSuffix (by kernel_rfl) s p (fun w => Tryz.strings_HasSuffix _ _ w (by rw [size_mk]; omega)) hK
theorem spec_Join (l : List Str) (sep : Str) (hl : l.length ≤ 1099511627776) (hj : (Lib.join l sep).length ≤ 140737488355328) (H : List Ob) (K : D → List Ob → Prop) (hK : K (.v (.str (Lib.join l sep))) H) : ACalls Tryz.prog G 49 [.v (.list 1 (l.map fun s => [.str s])), .v (.str sep)] H K :=
  lib_Join (by kernel_rfl) l sep (fun a c sep w => Tryz.strings_Join_none a c sep w) (fun bk o c xs sep w h1 h2 h3 h4 h5 => Tryz.strings_Join bk o c xs sep w h1 h2 h3 h4 h5) (by omega) hj hK
theorem spec_Split (s : Str) (c : UInt8) (m : Int) (hG : G 0 = some [.int .i64 m]) (hs : s.length < 4294967281) (H : List Ob) (K : D → List Ob → Prop) (hK : K (.v (.list 1 ((splitC c s).map fun s => [.str s]))) H) : ACalls Tryz.prog G 75 [.v (.str s), .v (.str [c])] H K :=
  lib_Split (by kernel_rfl) s c 9 0 m hG (fun s sep m w h1 h2 h3 => Tryz.strings_Split s sep m w h1 h2 h3) hs hK

set_option maxHeartbeats 4000000 in
theorem spec_plain (s : Str) (hs : s.length ≤ 1099511627776) (H : List Ob) (K : D → List Ob → Prop) (hK : K (.v (.bool (plainOk s))) H) : ACalls Tryz.prog G 113 [.v (.str s)] H K := by
  refine ACalls.go Tryz.f113 _ 22 [2] Tryz.func113 rfl Tryz.ntmps113 (by kernel_rfl) rfl (by simp) (fun E hE hP hG hH => ?_)
  subst hH
  simp only [args0]
  (refine W0 t9 ?_; try with_reducible intro K hK)
  refine sat_loop_ent (fun n ts H => ∃ (i : Nat), n = s.length - i ∧ i ≤ s.length ∧ (∀ j, j < i → dullAt s j = false) ∧
    ts = fr 22 [(6, .v (.int .i64 i)), (5, .v (.int .i64 s.length)), (2, .v (.bool false)), (0, .v (.str s))] ∧ H = E.H0) (s.length) (.weakFr ?_) ⟨0, rfl, Nat.zero_le _, by simp, rfl, rfl⟩ ?_
  · simp only [le, ↓reduceIte, Nat.reduceEqDiff, and_true]; repeat' (first | exact trivial | exact D.le_refl _ | exact D.le_any _ | with_reducible refine And.intro ?_ ?_)
  rintro n ts H ⟨i, rfl, hi, hall, rfl, rfl⟩
  (refine W0 t9 ?_; try with_reducible intro K hK)
  refine sat_cond rfl (fun hc => ?_) (fun hc => ?_)
  · simp at hc
    (refine W0 (c2 t9 @hc) ?_; try with_reducible intro K hK)
    refine sat_thru (fr 22 [(18, .v (.bool (dullAt s i))), (6, .v (.int .i64 i)), (5, .v (.int .i64 s.length)), (2, .v (.bool false)), (0, .v (.str s))]) E.H0 ?_ ?_
    · (first | refine wr ?_ | refine wp rfl hM ?_ | refine wq hM ?_); repeat' (first | (refine G0 (c2 t9 @hc) ?_; try with_reducible intro K hK) | ((first | refine Xs rfl rfl (by decide) rfl (fun h => ?_) fun h => ?_ | refine Ys rfl rfl (by decide) rfl (fun h => ?_) fun h => ?_ | refine Zs rfl rfl rfl (by decide) rfl (fun h => ?_) fun h => ?_); rotate_left; (focus (simp only [Bool.not_true, Bool.not_false, lp])); rotate_left))
      all_goals refine .weakFr ?_
      all_goals simp only [le, ↓reduceIte, Nat.reduceEqDiff, and_true]; repeat' (first | exact trivial | exact D.le_refl _ | exact D.le_any _ | with_reducible refine And.intro ?_ ?_)
      all_goals clear hall
      all_goals refine D.le_eq (congrArg D.v (congrArg V.bool ?_)); (try simp only [Bool.not_eq_eq_eq_not, Bool.not_true, Bool.not_false] at *); simp only [*, List.getD_eq_getElem?_getD, Bool.and_true, Bool.true_and, Bool.and_false, Bool.false_and, Bool.or_true, Bool.true_or, Bool.or_false, Bool.false_or, Bool.not_true, Bool.not_false, Bool.not_not, dullAt]
    refine sat_cond rfl (fun hb => ?_) (fun hb => ?_)
    · (refine W0 trivial ?_; try with_reducible intro K hK)
      refine Fin.is (.v (.bool false)) (by decide) rfl ?_
      have : plainOk s = false := by
        simp only [plainOk, Bool.and_eq_false_iff]
        left
        rw [List.all_eq_false]
        exact ⟨i, by simpa using hc, by simpa using hb⟩
      rwa [this] at hK
    · have hw := wrap_succ (i := i) (by omega)
      (refine W0 @hw ?_; try with_reducible intro K hK)
      refine ⟨s.length - (i + 1), _, _, by omega, .weakFr ?_, i + 1, rfl, by omega, fun j hj => ?_, rfl, rfl⟩
      · simp only [le, ↓reduceIte, Nat.reduceEqDiff, and_true]; repeat' (first | exact trivial | exact D.le_refl _ | exact D.le_any _ | with_reducible refine And.intro ?_ ?_)
      · rcases Nat.lt_succ_iff_lt_or_eq.1 hj with h | rfl
        · exact hall j h
        · exact hb
  · simp at hc
    (refine W0 t9 ?_; try with_reducible intro K hK)
    refine spec_HasPrefix _ _ _ _ (hK _ _ ?_)
    clear hK K; simp only [lp]
    (refine W0 t9 ?_; try with_reducible intro K hK)
    refine Fin.is (.v (.bool (plainOk s))) (by decide) ?_ hK
    have : (List.range s.length).all (fun i => !dullAt s i) = true := by
      simp only [List.all_eq_true, List.mem_range]
      exact fun j hj => by rw [hall j (by omega)]; rfl
    simp only [plainOk, this, Bool.true_and]
    rfl
end Go.Ag
namespace Go.Ag
open Go Go.Proofs
variable {G : Nat → Option (List V)}
attribute [local irreducible] aops qops Sat aop


set_option maxHeartbeats 4000000 in
theorem spec_keep (l : List Str) (f : FuncId) (p : Str → Bool) (hl : l.length ≤ 1099511627776) (H : List Ob)
    (hp : ∀ (x : Str) (H : List Ob) (K : D → List Ob → Prop), K (.v (.bool (p x))) H → ACalls Tryz.prog G f [.v (.str x)] H K)
    (K : D → List Ob → Prop) (hK : K (.v (strs (l.filter p))) H) : ACalls Tryz.prog G 138 [.v (strs l), .fn f []] H K := by
  refine ACalls.go Tryz.f138 _ 23 [4] Tryz.func138 rfl Tryz.ntmps138 (by kernel_rfl) rfl (by simp) (fun E hE hP hG hH => ?_)
  subst hH
  simp only [args0]
  (refine W0 (c3 @strs.eq_def t9 t44) ?_; try with_reducible intro K hK)
  refine sat_loop_ent (fun n ts H => ∃ (i : Nat) (d : D) (L : List Ob), n = l.length - i ∧ i ≤ l.length ∧ Acc E 1 1 (((l.take i).filter p).map fun s => [.str s]) d L ∧
    ts = fr 23 [(10, .v (.int .i64 i)), (9, .v (.int .i64 l.length)), (8, .v (strs l)), (5, d), (1, .fn f [])] ∧ H = E.H0 ++ L) (l.length) (.weakFr ?_) ⟨0, _, [], rfl, Nat.zero_le _, Acc.start 1 1, rfl, (List.append_nil _).symm⟩ ?_
  · simp only [le, ↓reduceIte, Nat.reduceEqDiff, and_true]; repeat' (first | exact trivial | exact D.le_refl _ | exact D.le_any _ | with_reducible refine And.intro ?_ ?_)
  rintro n ts H ⟨i, d, L, rfl, hi, hA, rfl, rfl⟩
  (refine W0 (c3 @strs.eq_def t9 t44) ?_; try with_reducible intro K hK)
  refine sat_cond rfl (fun hc => ?_) (fun hc => ?_)
  · simp at hc
    obtain ⟨x, hx⟩ : ∃ x, l[i]? = some x := ⟨_, List.getElem?_eq_getElem hc⟩
    have hw := wrap_succ (i := i) (by omega)
    (refine W0 (c5 @strs.eq_def t9 t44 @hc @hx) ?_; try with_reducible intro K hK)
    refine hp _ _ _ (hK _ _ ?_)
    clear hK K; simp only [lp]
    (refine W0 trivial ?_; try with_reducible intro K hK)
    refine sat_cond rfl (fun hb => ?_) (fun hb => ?_)
    · have hlen : ((l.take i).filter p).length ≤ i := Nat.le_trans (List.length_filter_le _ _) (by simp; omega)
      rcases hA with ⟨h0, rfl, rfl⟩ | ⟨ver, hv, rfl, rfl⟩
      · (refine W0 (c3 t9 t44 @hw) ?_; try with_reducible intro K hK)
        have e : ((l.take (i + 1)).filter p).map (fun s => [V.str s]) = [[.str x]] := by
          have h1 : (l.take i).filter p = [] := by simpa using h0
          simp [List.take_add_one, hx, List.filter_append, hb, h1]
        refine ⟨l.length - (i + 1), _, _, by omega, ?_, i + 1, .own (E.H0.length + 1) 1 1, [.dead, .arr 1 1 [[.v (.str x)]] 0], rfl, by omega, .inr ⟨1, Nat.le_refl _, by rw [e]; rfl, by rw [e]; rfl⟩, rfl, rfl⟩
        refine Ent.trip hE ?_ ?_ ?_ ?_
        · simp only [le, ↓reduceIte, Nat.reduceEqDiff, and_true]; repeat' (first | exact trivial | exact D.le_refl _ | exact D.le_any _ | with_reducible refine And.intro ?_ ?_)
        · simp [leObs_cons, leObs_nil]
        · simp [ltAll, ltObs, Ob.lt, D.lt, D.ltL, or_imp, forall_and]
        · simp [ltAll, ltObs, Ob.lt, D.lt, D.ltL, or_imp, forall_and]
      · (refine W0 (c3 t9 t44 @hw) ?_; try with_reducible intro K hK)
        have e : ((l.take (i + 1)).filter p).map (fun s => [V.str s]) = ((l.take i).filter p).map (fun s => [V.str s]) ++ [[.str x]] := by
          simp [List.take_add_one, hx, List.filter_append, hb]
        refine ⟨l.length - (i + 1), _, _, by omega, ?_, i + 1, .own (E.H0.length + 1) (ver + 1) (((l.take i).filter p).length + 1), [.dead, .arr (ver + 1) 1 ((((l.take (i + 1)).filter p).map fun s => [V.str s]).map (·.map .v)) 0], rfl, by omega, .inr ⟨ver + 1, by omega, by rw [e]; simp, rfl⟩, rfl, rfl⟩
        refine Ent.trip hE ?_ ?_ ?_ ?_
        · simp only [le, ↓reduceIte, Nat.reduceEqDiff, and_true]; repeat' (first | exact trivial | exact D.le_refl _ | exact D.le_any _ | with_reducible refine And.intro ?_ ?_)
        · rw [e]; simp [leObs_cons, leObs_nil]; exact List.take_of_length_le (by simp)
        · simp [ltAll, ltObs, Ob.lt, D.lt, D.ltL, or_imp, forall_and]
        · exact ⟨trivial, ltRows _ _, trivial⟩
    · (refine W0 @hw ?_; try with_reducible intro K hK)
      have e : ((l.take (i + 1)).filter p) = ((l.take i).filter p) := by
        simp [List.take_add_one, hx, List.filter_append, hb]
      refine ⟨l.length - (i + 1), _, _, by omega, .weakFr ?_, i + 1, d, L, rfl, by omega, by rw [e]; exact hA, rfl, rfl⟩
      simp only [le, ↓reduceIte, Nat.reduceEqDiff, and_true]; repeat' (first | exact trivial | exact D.le_refl _ | exact D.le_any _ | with_reducible refine And.intro ?_ ?_)
  · simp at hc
    (refine W0 trivial ?_; try with_reducible intro K hK)
    have e : l.take i = l := List.take_of_length_le (by omega)
    rw [e] at hA
    exact Fin.acc d hA hE (by decide) rfl hK
end Go.Ag
namespace Go.Ag
open Go Go.Proofs
variable {G : Nat → Option (List V)}
attribute [local irreducible] aops qops Sat aop

theorem spec_notEmpty (x : Str) (H : List Ob) (K : D → List Ob → Prop) (hK : K (.v (.bool (!(x == [])))) H) : ACalls Tryz.prog G 139 [.v (.str x)] H K := by
  refine ACalls.go Tryz.f139 _ 5 [2] Tryz.func139 rfl Tryz.ntmps139 (by kernel_rfl) rfl (by simp) (fun E hE hP hG hH => ?_)
  subst hH
  simp only [args0]
  (refine W0 t9 ?_; try with_reducible intro K hK)
  exact Fin.is _ (by decide) rfl hK

theorem spec_Parts (s : Str) (m : Int) (hs : s.length < 4294967281) (hG0 : G 0 = some [.int .i64 m]) (H : List Ob) (K : D → List Ob → Prop) (hK : K (.v (strs (parts s))) H) : ACalls Tryz.prog G 114 [.v (.str s)] H K := by
  refine ACalls.go Tryz.f114 _ 6 [2] Tryz.func114 rfl Tryz.ntmps114 (by kernel_rfl) rfl (by simp) (fun E hE hP hG hH => ?_)
  subst hH
  simp only [args0]
  (refine W0 t9 ?_; try with_reducible intro K hK)
  refine spec_Split s 47 m hG0 hs _ _ (hK _ _ ?_)
  clear hK K; simp only [lp]
  (refine W0 t9 ?_; try with_reducible intro K hK)
  refine spec_keep _ _ (fun p => !(p == [])) ?_ _ (fun x H K hK => spec_notEmpty x H K hK) _ (hK _ _ ?_)
  · exact Nat.le_trans (splitC_len _ _) (by omega)
  clear hK K; simp only [lp]
  (refine W0 trivial ?_; try with_reducible intro K hK)
  exact Fin.is _ (by decide) rfl hK
end Go.Ag
namespace Go.Ag
open Go Go.Proofs
variable {G : Nat → Option (List V)}
attribute [local irreducible] aops qops Sat aop

theorem take_map_take {α β : Type} (f : α → β) (zs : List β) (l : List α) (k : Nat) (hk : k ≤ l.length) (hz : zs.take l.length = l.map f) : zs.take ((l.take k).map f).length = (l.take k).map f := by
  rw [List.length_map, List.length_take, Nat.min_eq_left hk, List.map_take, ← hz, List.take_take, Nat.min_eq_left hk]

set_option maxHeartbeats 4000000 in
theorem spec_Clean (s : Str) (m : Int) (hs : s.length < 4294967281) (hG0 : G 0 = some [.int .i64 m]) (H : List Ob) (K : D → List Ob → Prop) (hK : K (.tup [.v (.str (clean s).1), .v (.int .i64 (clean s).2)]) H) : ACalls Tryz.prog G 95 [.v (.str s)] H K := by
  refine ACalls.go Tryz.f95 _ 42 [2, 3] Tryz.func95 rfl Tryz.ntmps95 (by kernel_rfl) rfl (by simp) (fun E hE hP hG hH => ?_)
  subst hH
  simp only [args0]
  (refine W0 t9 ?_; try with_reducible intro K hK)
  refine spec_plain s (by omega) _ _ (hK _ _ ?_)
  clear hK K; simp only [lp]
  (refine W0 t9 ?_; try with_reducible intro K hK)
  refine sat_cond rfl (fun hb => ?_) (fun hb => ?_)
  · (refine W0 t9 ?_; try with_reducible intro K hK)
    refine Fin.is2 (.v (.str [])) (.v (.int .i64 1)) (by decide) (by decide) rfl rfl ?_
    have : clean s = ([], 1) := by simp only [clean]; rw [if_neg (by simpa using hb)]
    rwa [this] at hK
  have hpl : plainOk s = true := by simpa using hb
  clear hb
  (refine W0 (c2 t9 t44) ?_; try with_reducible intro K hK)
  refine spec_Parts s m hs hG0 _ _ (hK _ _ ?_)
  clear hK K; simp only [lp]
  (refine W0 (c3 @strs.eq_def t9 t44) ?_; try with_reducible intro K hK)
  refine sat_loop_ent (fun n ts H => ∃ (i : Nat) (d : D) (L : List Ob), n = (parts s).length - i ∧ i ≤ (parts s).length ∧ Acs E 1 1 ((((parts s).take i).foldl cleanStep []).map fun s => [.str s]) d L ∧
    ts = fr 42 [(14, .v (.int .i64 i)), (13, .v (.int .i64 (parts s).length)), (12, .v (strs (parts s))), (4, d), (3, .v (.int .i64 0)), (2, .v (.str []))] ∧ H = E.H0 ++ L) ((parts s).length) (.weakFr ?_) ⟨0, _, [], rfl, Nat.zero_le _, Acs.start 1 1, rfl, (List.append_nil _).symm⟩ ?_
  · simp only [le, ↓reduceIte, Nat.reduceEqDiff, and_true]; repeat' (first | exact trivial | exact D.le_refl _ | exact D.le_any _ | with_reducible refine And.intro ?_ ?_)
  rintro n ts H ⟨i, d, L, rfl, hi, hA, rfl, rfl⟩
  (refine W0 (c3 @strs.eq_def t9 t44) ?_; try with_reducible intro K hK)
  refine sat_cond rfl (fun hc => ?_) (fun hc => ?_)
  · simp at hc
    obtain ⟨x, hx⟩ : ∃ x, (parts s)[i]? = some x := ⟨_, List.getElem?_eq_getElem hc⟩
    have hpl := parts_len s
    have hw := wrap_succ (i := i) (by omega)
    have e : (parts s).take (i + 1) = (parts s).take i ++ [x] := by rw [List.take_add_one, hx]; rfl
    have e2 : ((parts s).take (i + 1)).foldl cleanStep [] = cleanStep (((parts s).take i).foldl cleanStep []) x := by rw [e, List.foldl_append]; rfl
    have hlen : (((parts s).take i).foldl cleanStep []).length ≤ s.length + 1 := Nat.le_trans (tot_len _) (tot_clean s i)
    revert hA
    generalize ((parts s).take i).foldl cleanStep [] = left at hlen e2 ⊢
    intro hA
    (refine W0 (c5 @strs.eq_def t9 t44 @hc @hx) ?_; try with_reducible intro K hK)

    refine sat_cond rfl (fun h1 => ?_) (fun h1 => ?_)
    · (refine W0 (c3 t9 t44 @hw) ?_; try with_reducible intro K hK)
      have e3 : cleanStep left x = left := by simp only [cleanStep, h1, if_true]
      refine ⟨(parts s).length - (i + 1), _, _, by omega, .weakFr ?_, i + 1, d, L, rfl, by omega, by rw [e2, e3]; exact hA, rfl, rfl⟩
      simp only [le, ↓reduceIte, Nat.reduceEqDiff, and_true]; repeat' (first | exact trivial | exact D.le_refl _ | exact D.le_any _ | with_reducible refine And.intro ?_ ?_)
    · (refine W0 (c3 t9 t44 @hw) ?_; try with_reducible intro K hK)
      refine sat_cond rfl (fun h2 => ?_) (fun h2 => ?_)
      · have e3 : cleanStep left x = left.take (max left.length 1 - 1) := by simp only [cleanStep, h1, h2, if_true, Bool.false_eq_true, if_false]
        rcases hA with ⟨h0, rfl, rfl⟩ | ⟨ver, zs, hv, hle, hz, rfl, rfl⟩
        · (refine W0 (c3 t9 t44 @hw) ?_; try with_reducible intro K hK)
          have h0 : left = [] := by simpa using h0
          subst h0
          refine ⟨(parts s).length - (i + 1), _, _, by omega, ?_, i + 1, .nils, [], rfl, by omega, by rw [e2, e3]; exact Acs.start 1 1, rfl, (List.append_nil _).symm⟩
          refine .weakFr ?_
          simp only [le, ↓reduceIte, Nat.reduceEqDiff, and_true]; repeat' (first | exact trivial | exact D.le_refl _ | exact D.le_any _ | with_reducible refine And.intro ?_ ?_)
        · simp only [List.length_map] at hle
          have hw2 : IntKind.i64.wrap ((if 1 > (left.length : Int) then 1 else (left.length : Int)) - 1) = ((max left.length 1 - 1 : Nat) : Int) := by
            rw [IntKind.wrap_i64]; split <;> omega
          have hne : max left.length 1 - 1 ≤ left.length := by omega
          (refine W0 (c4 t9 t44 @hw @hw2) ?_; try with_reducible intro K hK)
          refine ⟨(parts s).length - (i + 1), _, _, by omega, ?_, i + 1, .own (E.H0.length + 1) ver (max left.length 1 - 1), _, rfl, by omega, .inr ⟨ver, zs, hv, ?_, ?_, ?_, rfl⟩, rfl, rfl⟩
          · refine .weakFr ?_
            simp only [le, ↓reduceIte, Nat.reduceEqDiff, and_true]; repeat' (first | exact trivial | exact D.le_refl _ | exact D.le_any _ | with_reducible refine And.intro ?_ ?_)
          · rw [e2, e3]; simp; omega
          · rw [e2, e3]; exact take_map_take _ _ _ _ hne (by simpa using hz)
          · rw [e2, e3, List.length_map, List.length_take, Nat.min_eq_left hne]
      · have e3 : cleanStep left x = left ++ [x] := by simp only [cleanStep, h1, h2, Bool.false_eq_true, if_false]
        rcases hA with ⟨h0, rfl, rfl⟩ | ⟨ver, zs, hv, hle, hz, rfl, rfl⟩
        · (refine W0 (c3 t9 t44 @hw) ?_; try with_reducible intro K hK)
          have h0 : left = [] := by simpa using h0
          subst h0
          refine ⟨(parts s).length - (i + 1), _, _, by omega, ?_, i + 1, .own (E.H0.length + 1) 1 1, [.dead, .arr 1 1 [[.v (.str x)]] 0], rfl, by omega, .inr ⟨1, [[.str x]], Nat.le_refl _, by rw [e2, e3]; exact Nat.le_refl _, by rw [e2, e3]; rfl, by rw [e2, e3]; rfl, rfl⟩, rfl, rfl⟩
          refine Ent.trip hE ?_ ?_ ?_ ?_
          · simp only [le, ↓reduceIte, Nat.reduceEqDiff, and_true]; repeat' (first | exact trivial | exact D.le_refl _ | exact D.le_any _ | with_reducible refine And.intro ?_ ?_)
          · simp [leObs_cons, leObs_nil]
          · simp [ltAll, ltObs, Ob.lt, D.lt, D.ltL, or_imp, forall_and]
          · simp [ltAll, ltObs, Ob.lt, D.lt, D.ltL, or_imp, forall_and]
        · simp only [List.length_map] at hle hz
          (refine W0 (c3 t9 t44 @hw) ?_; try with_reducible intro K hK)
          refine ⟨(parts s).length - (i + 1), _, _, by omega, ?_, i + 1, .own (E.H0.length + 1) (ver + 1) (left.length + 1), [.dead, .arr (ver + 1) 1 (((left ++ [x]).map fun s => [V.str s]).map (·.map .v)) 0], rfl, by omega, .inr ⟨ver + 1, (left ++ [x]).map fun s => [V.str s], by omega, by rw [e2, e3]; exact Nat.le_refl _, by rw [e2, e3]; exact take_len _, by rw [e2, e3]; simp, rfl⟩, rfl, rfl⟩
          refine Ent.trip hE ?_ ?_ ?_ ?_
          · simp only [le, ↓reduceIte, Nat.reduceEqDiff, and_true]; repeat' (first | exact trivial | exact D.le_refl _ | exact D.le_any _ | with_reducible refine And.intro ?_ ?_)
          · simp [leObs_cons, leObs_nil]
            rw [← List.map_take, hz]; simp
          · simp [ltAll, ltObs, Ob.lt, D.lt, D.ltL, or_imp, forall_and]
          · exact ⟨trivial, ltRows _ _, trivial⟩
  · simp at hc
    have e : (parts s).take i = parts s := List.take_of_length_le (by omega)
    rw [e] at hA
    refine sat_ent (Ent.acs 4 [(3, .v (.int .i64 0)), (2, .v (.str []))] hE hA rfl ?_ ?_) ?_
    · simp only [le, ↓reduceIte, Nat.reduceEqDiff, and_true]; repeat' (first | exact trivial | exact D.le_refl _ | exact D.le_any _ | with_reducible refine And.intro ?_ ?_)
    · simp [ltAll, ltObs, Ob.lt, D.lt, D.ltL, or_imp, forall_and]
    change Sat E _ (fr 42 [(4, .v (strs (cleanL s))), (3, .v (.int .i64 0)), (2, .v (.str []))]) _ _
    (refine W0 (c2 t9 t44) ?_; try with_reducible intro K hK)
    refine spec_Join (cleanL s) [47] ?_ ?_ _ _ (hK _ _ ?_)
    · have := tot_len (cleanL s); have := tot_cleanL s; omega
    · have := join_tot (cleanL s); have := tot_cleanL s; omega
    clear hK K; simp only [lp]
    have hj : (Lib.join (cleanL s) [47]).length ≤ 4294967290 := by have := join_tot (cleanL s); have := tot_cleanL s; omega
    (refine W0 (c3 t3 t9 t44) ?_; try with_reducible intro K hK)
    refine sat_cond rfl (fun h1 => ?_) (fun h1 => ?_)
    · (refine W0 (c2 t9 t41) ?_; try with_reducible intro K hK)
      refine Fin.is2 (.v (.str [])) (.v (.int .i64 8)) (by decide) (by decide) rfl rfl ?_
      have : clean s = ([], 8) := by
        simp only [decide_eq_true_eq] at h1
        simp only [clean, hpl, if_true]
        rw [if_pos (by simp only [cleanOut, List.length_cons]; omega)]
      rwa [this] at hK
    · (refine W0 (c2 t9 t41) ?_; try with_reducible intro K hK)
      refine Fin.is2 (.v (.str (cleanOut s))) (.v (.int .i64 0)) (by decide) (by decide) rfl rfl ?_
      have : clean s = (cleanOut s, 0) := by
        simp only [decide_eq_false_iff_not] at h1
        simp only [clean, hpl, if_true]
        rw [if_neg (by simp only [cleanOut, List.length_cons]; omega)]
      rwa [this] at hK

theorem spec_Right (s : Str) (m : Int) (hs : s.length < 4294967281) (hG0 : G 0 = some [.int .i64 m]) (H : List Ob) (K : D → List Ob → Prop) (hK : K (.v (.bool (pathRight s))) H) : ACalls Tryz.prog G 78 [.v (.str s)] H K := by
  refine ACalls.go Tryz.f78 _ 17 [2] Tryz.func78 rfl Tryz.ntmps78 (by kernel_rfl) rfl (by simp) (fun E hE hP hG hH => ?_)
  have hM : E.P.follows .mixedOrders = true := hP ▸ mixed
  subst hH
  simp only [args0]
  (refine W0 t9 ?_; try with_reducible intro K hK)
  refine spec_Clean s m hs hG0 _ _ (hK _ _ ?_)
  clear hK K; simp only [lp]
  (refine W0 t9 ?_; try with_reducible intro K hK)
  refine sat_thru (fr 17 [(2, .v (.bool (pathRight s)))]) E.H0 ?_ ?_
  · (first | refine wr ?_ | refine wp rfl hM ?_ | refine wq hM ?_); repeat' (first | (refine G0 (c3 t4 t9 t41) ?_; try with_reducible intro K hK) | ((first | refine Xs rfl rfl (by decide) rfl (fun h => ?_) fun h => ?_ | refine Ys rfl rfl (by decide) rfl (fun h => ?_) fun h => ?_ | refine Zs rfl rfl rfl (by decide) rfl (fun h => ?_) fun h => ?_); rotate_left; (focus (simp only [Bool.not_true, Bool.not_false, lp])); rotate_left))
    all_goals refine .weakFr ?_
    all_goals simp only [le, ↓reduceIte, Nat.reduceEqDiff, and_true]; repeat' (first | exact trivial | exact D.le_refl _ | exact D.le_any _ | with_reducible refine And.intro ?_ ?_)
    all_goals refine D.le_eq (congrArg D.v (congrArg V.bool ?_)); (try simp only [Bool.not_eq_eq_eq_not, Bool.not_true, Bool.not_false] at *); simp only [*, List.getD_eq_getElem?_getD, Bool.and_true, Bool.true_and, Bool.and_false, Bool.false_and, Bool.or_true, Bool.true_or, Bool.or_false, Bool.false_or, Bool.not_true, Bool.not_false, Bool.not_not, pathRight]
  (refine W0 trivial ?_; try with_reducible intro K hK)
  exact Fin.is _ (by decide) rfl hK
end Go.Ag
namespace Go.Ag
open Go Go.Proofs
variable {G : Nat → Option (List V)}
attribute [local irreducible] aops qops Sat aop

def selV (x : Sel) : List V := [.str x.1, .bool x.2.1, .str x.2.2]
def sels (l : List Sel) : V := .list 3 (l.map selV)
def selD (x : Sel) : D := .agg [.v (.str x.1), .v (.bool x.2.1), .v (.str x.2.2)]

end Go.Ag
/- AGo: the arguments of the laws, read by value. -/
namespace Go.Ag
open Go Go.RowKit Go.Proofs

theorem map_choose {α : Type} {f : α → List V} {S : α → Prop} : ∀ {xs : List (List V)}, (∀ x ∈ xs, ∃ a, x = f a ∧ S a) → ∃ l : List α, xs = l.map f ∧ ∀ a ∈ l, S a
  | [], _ => ⟨[], rfl, by simp⟩
  | x :: xs, h => by
    obtain ⟨a, rfl, ha⟩ := h x (by simp)
    obtain ⟨l, rfl, hl⟩ := map_choose (f := f) (S := S) (xs := xs) (fun y hy => h y (List.mem_cons_of_mem _ hy))
    refine ⟨a :: l, rfl, fun b hb => ?_⟩
    rcases List.mem_cons.1 hb with rfl | hb
    · exact ha
    · exact hl b hb

theorem rd9 : Reads Tryz.prog 9 1 (fun r => ∃ s : List UInt8, r = [.str s] ∧ s.length ≤ 9223372036854775807) := reads_string Tryz.underlying9 (by kernel_rfl)
theorem rd4 : Reads Tryz.prog 4 1 (fun r => ∃ b : Bool, r = [.bool b]) := reads_bool Tryz.underlying4 (by kernel_rfl)
theorem rd3 : Reads Tryz.prog 3 1 (fun r => ∃ n : Int, r = [.int .i64 n] ∧ (Lit.int .i64 n).wf = true) := reads_int Tryz.underlying3 (by kernel_rfl)
theorem rd44 : Reads Tryz.prog 44 1 (fun r => ∃ l : List Str, r = [strs l] ∧ l.length ≤ 9223372036854775807) :=
  (reads_slice Tryz.underlying44 (by kernel_rfl) rd9 (by decide)).mono fun r ⟨xs, h1, h2, h3⟩ => by
    obtain ⟨l, rfl, hl⟩ := map_choose (f := fun s => [V.str s]) (S := fun s => s.length ≤ 9223372036854775807) h2
    exact ⟨l, h1, by simpa using h3⟩
theorem rd37 : Reads Tryz.prog 37 2 (fun r => ∃ x : Slv, r = [.str x.name, .str x.link]) :=
  (reads_struct Tryz.underlying37 (by kernel_rfl) ⟨1, 1, _, _, rfl, rfl, rd9, ⟨1, 0, _, _, rfl, rfl, rd9, ⟨rfl, rfl⟩, rfl⟩, rfl⟩).mono fun r h => by
    obtain ⟨_, _, rfl, ⟨a, rfl, _⟩, _, _, rfl, ⟨b, rfl, _⟩, rfl⟩ := h
    exact ⟨⟨a, b⟩, rfl⟩
theorem rd23 : Reads Tryz.prog 23 1 (fun r => ∃ l : List Slv, r = [slvs l] ∧ l.length ≤ 9223372036854775807) :=
  (reads_slice Tryz.underlying23 (by kernel_rfl) rd37 (by decide)).mono fun r ⟨xs, h1, h2, h3⟩ => by
    obtain ⟨l, rfl, _⟩ := map_choose (f := fun x : Slv => [V.str x.name, V.str x.link]) (S := fun _ => True) (fun x hx => by obtain ⟨a, h⟩ := h2 x hx; exact ⟨a, h, trivial⟩)
    exact ⟨l, h1, by simpa using h3⟩
def choV (c : Cho) : List V := [.str c.path, .int .i64 c.prio, strs c.slaves]
def choWf (c : Cho) : Prop := (Lit.int .i64 c.prio).wf = true ∧ c.slaves.length ≤ 9223372036854775807
theorem rd46 : Reads Tryz.prog 46 3 (fun r => ∃ x : Cho, r = choV x ∧ choWf x) :=
  (reads_struct Tryz.underlying46 (by kernel_rfl) ⟨1, 2, _, _, rfl, rfl, rd9, ⟨1, 1, _, _, rfl, rfl, rd3, ⟨1, 0, _, _, rfl, rfl, rd44, ⟨rfl, rfl⟩, rfl⟩, rfl⟩, rfl⟩).mono fun r h => by
    obtain ⟨_, _, rfl, ⟨a, rfl, _⟩, _, _, rfl, ⟨b, rfl, hb⟩, _, _, rfl, ⟨c, rfl, hc⟩, rfl⟩ := h
    exact ⟨⟨a, b, c⟩, rfl, hb, hc⟩
theorem rd24 : Reads Tryz.prog 24 1 (fun r => ∃ l : List Cho, r = [chos l] ∧ (∀ c ∈ l, choWf c) ∧ l.length ≤ 9223372036854775807) :=
  (reads_slice Tryz.underlying24 (by kernel_rfl) rd46 (by decide)).mono fun r ⟨xs, h1, h2, h3⟩ => by
    obtain ⟨l, rfl, hl⟩ := map_choose (f := choV) (S := choWf) h2
    exact ⟨l, h1, hl, by simpa using h3⟩
def altWf (x : Alt) : Prop := x.slaves.length ≤ 9223372036854775807 ∧ (∀ c ∈ x.choices, choWf c) ∧ x.choices.length ≤ 9223372036854775807
theorem rd26 : Reads Tryz.prog 26 6 (fun r => ∃ x : Alt, r = altV x ∧ altWf x) :=
  (reads_struct Tryz.underlying26 (by kernel_rfl) ⟨1, 5, _, _, rfl, rfl, rd9, ⟨1, 4, _, _, rfl, rfl, rd9, ⟨1, 3, _, _, rfl, rfl, rd4, ⟨1, 2, _, _, rfl, rfl, rd9, ⟨1, 1, _, _, rfl, rfl, rd23, ⟨1, 0, _, _, rfl, rfl, rd24, ⟨rfl, rfl⟩, rfl⟩, rfl⟩, rfl⟩, rfl⟩, rfl⟩, rfl⟩).mono fun r h => by
    obtain ⟨_, _, rfl, ⟨a, rfl, _⟩, _, _, rfl, ⟨b, rfl, _⟩, _, _, rfl, ⟨c, rfl⟩, _, _, rfl, ⟨d, rfl, _⟩, _, _, rfl, ⟨e, rfl, he⟩, _, _, rfl, ⟨f, rfl, hf1, hf2⟩, rfl⟩ := h
    exact ⟨⟨a, b, c, d, e, f⟩, rfl, he, hf1, hf2⟩
theorem rd22 : Reads Tryz.prog 22 1 (fun r => ∃ l : List Alt, r = [altsV l] ∧ (∀ x ∈ l, altWf x) ∧ l.length ≤ 9223372036854775807) :=
  (reads_slice Tryz.underlying22 (by kernel_rfl) rd26 (by decide)).mono fun r ⟨xs, h1, h2, h3⟩ => by
    obtain ⟨l, rfl, hl⟩ := map_choose (f := altV) (S := altWf) h2
    exact ⟨l, h1, hl, by simpa using h3⟩
end Go.Ag
/- AGo, part 34: stable sort by a comparison, as plain lists: what insertion does, and that all else only changes places. -/
namespace Go.Ag
variable {α : Type}

def swp (xs : List α) (i j : Nat) : List α := match xs[i]?, xs[j]? with
  | some x, some y => (xs.set i y).set j x
  | _, _ => xs
theorem swp_eq {xs : List α} {i j : Nat} {x y : α} (hi : xs[i]? = some x) (hj : xs[j]? = some y) : swp xs i j = (xs.set i y).set j x := by simp [swp, hi, hj]
theorem swp_perm (xs : List α) (i j : Nat) : (swp xs i j).Perm xs := by
  unfold swp
  split
  · rename_i x y hi hj
    obtain ⟨h1, rfl⟩ := List.getElem?_eq_some_iff.1 hi
    obtain ⟨h2, rfl⟩ := List.getElem?_eq_some_iff.1 hj
    exact List.set_set_perm h1 h2
  · exact .refl _
theorem swp_len (xs : List α) (i j : Nat) : (swp xs i j).length = xs.length := (swp_perm xs i j).length_eq

/-- The thing at j is brought forward, while it is less than the one ahead of it. -/
def insF (c : α → α → Int) (a : Nat) : Nat → List α → List α
  | 0, xs => xs
  | j + 1, xs => if a < j + 1 then (match xs[j + 1]?, xs[j]? with
      | some y, some x => if c y x < 0 then insF c a j (swp xs (j + 1) j) else xs
      | _, _ => xs) else xs
theorem insF_perm (c : α → α → Int) (a : Nat) : ∀ (j : Nat) (xs : List α), (insF c a j xs).Perm xs
  | 0, xs => .refl _
  | j + 1, xs => by
    unfold insF
    split
    · split
      · split
        · exact (insF_perm c a j _).trans (swp_perm _ _ _)
        · exact .refl _
      · exact .refl _
    · exact .refl _
theorem insF_stop {c : α → α → Int} {a j : Nat} {xs : List α} (h : ¬ a < j) : insF c a j xs = xs := by
  cases j with
  | zero => rfl
  | succ j => rw [insF, if_neg h]
theorem insF_no {c : α → α → Int} {a j : Nat} {xs : List α} {x y : α} (h : a < j + 1) (hy : xs[j + 1]? = some y) (hx : xs[j]? = some x) (hc : ¬ c y x < 0) : insF c a (j + 1) xs = xs := by
  rw [insF, if_pos h, hy, hx]; simp [hc]
theorem insF_yes {c : α → α → Int} {a j : Nat} {xs : List α} {x y : α} (h : a < j + 1) (hy : xs[j + 1]? = some y) (hx : xs[j]? = some x) (hc : c y x < 0) : insF c a (j + 1) xs = insF c a j (swp xs (j + 1) j) := by
  rw [insF, if_pos h, hy, hx]; simp [hc]

/-- Insertion of all things from i on: n are left. -/
def isoF (c : α → α → Int) (a : Nat) : Nat → Nat → List α → List α
  | _, 0, xs => xs
  | i, n + 1, xs => isoF c a (i + 1) n (insF c a i xs)
theorem isoF_perm (c : α → α → Int) (a : Nat) : ∀ (n i : Nat) (xs : List α), (isoF c a i n xs).Perm xs
  | 0, _, _ => .refl _
  | n + 1, i, xs => (isoF_perm c a n (i + 1) _).trans (insF_perm c a i xs)
def isort (c : α → α → Int) (a b : Nat) (xs : List α) : List α := isoF c a (a + 1) (b - (a + 1)) xs
theorem isort_perm (c : α → α → Int) (a b : Nat) (xs : List α) : (isort c a b xs).Perm xs := isoF_perm c a _ _ xs

/-! ### the merges, step by step as they go -/
def swr (p q : Nat) : Nat → List α → List α
  | 0, xs => xs
  | n + 1, xs => swp (swr p q n xs) (p + n) (q + n)
theorem swr_perm (p q : Nat) : ∀ (n : Nat) (xs : List α), (swr p q n xs).Perm xs
  | 0, _ => .refl _
  | n + 1, xs => (swp_perm _ _ _).trans (swr_perm p q n xs)
def rotF (m i j : Nat) (xs : List α) : List α :=
  if h : i = j ∨ i = 0 ∨ j = 0 then swr (m - i) m i xs
  else if j < i then rotF m (i - j) j (swr (m - i) m j xs) else rotF m i (j - i) (swr (m - i) (m + j - i) i xs)
termination_by i + j
theorem rotF_perm (m i j : Nat) (xs : List α) : (rotF m i j xs).Perm xs := by
  rw [rotF]
  split
  · exact swr_perm _ _ _ _
  · split
    · exact (rotF_perm m (i - j) j _).trans (swr_perm _ _ _ _)
    · exact (rotF_perm m i (j - i) _).trans (swr_perm _ _ _ _)
termination_by i + j
theorem rotF_eq {m i j : Nat} {xs : List α} (h : i = j) : rotF m i j xs = swr (m - i) m i xs := by rw [rotF, dif_pos (.inl h)]
theorem rotF_gt {m i j : Nat} {xs : List α} (h : j < i) (h0 : 1 ≤ j) : rotF m i j xs = rotF m (i - j) j (swr (m - i) m j xs) := by rw [rotF, dif_neg (by omega), if_pos h]
theorem rotF_lt {m i j : Nat} {xs : List α} (h : i < j) (h0 : 1 ≤ i) : rotF m i j xs = rotF m i (j - i) (swr (m - i) (m + j - i) i xs) := by rw [rotF, dif_neg (by omega), if_neg (by omega)]
/-- A place is looked for by halves. -/
def bsF (t : Nat → Bool) (i j : Nat) : Nat := if i < j then (if t ((i + j) / 2) then bsF t ((i + j) / 2 + 1) j else bsF t i ((i + j) / 2)) else i
termination_by j - i
theorem bsF_stop {t : Nat → Bool} {i j : Nat} (h : ¬ i < j) : bsF t i j = i := by rw [bsF, if_neg h]
theorem bsF_yes {t : Nat → Bool} {i j : Nat} (h : i < j) (ht : t ((i + j) / 2) = true) : bsF t i j = bsF t ((i + j) / 2 + 1) j := by rw [bsF, if_pos h, if_pos ht]
theorem bsF_no {t : Nat → Bool} {i j : Nat} (h : i < j) (ht : t ((i + j) / 2) = false) : bsF t i j = bsF t i ((i + j) / 2) := by
  rw [bsF, if_pos h, if_neg (by rw [ht]; decide)]
def upF : Nat → Nat → List α → List α
  | 0, _, xs => xs
  | n + 1, k, xs => upF n (k + 1) (swp xs k (k + 1))
theorem upF_perm : ∀ (n k : Nat) (xs : List α), (upF n k xs).Perm xs
  | 0, _, _ => .refl _
  | n + 1, k, xs => (upF_perm n (k + 1) _).trans (swp_perm _ _ _)
def dnF : Nat → Nat → List α → List α
  | 0, _, xs => xs
  | n + 1, k, xs => dnF n (k - 1) (swp xs k (k - 1))
theorem dnF_perm : ∀ (n k : Nat) (xs : List α), (dnF n k xs).Perm xs
  | 0, _, _ => .refl _
  | n + 1, k, xs => (dnF_perm n (k - 1) _).trans (swp_perm _ _ _)
def lessF (c : α → α → Int) (xs : List α) (i j : Nat) : Bool := match xs[i]?, xs[j]? with
  | some x, some y => decide (c x y < 0)
  | _, _ => false
theorem lessF_eq {c : α → α → Int} {xs : List α} {i j : Nat} {x y : α} (hx : xs[i]? = some x) (hy : xs[j]? = some y) : lessF c xs i j = decide (c x y < 0) := by rw [lessF, hx, hy]
def symS (c : α → α → Int) (p m q : Nat) (xs : List α) : Nat :=
  if m > (p + q) / 2 then bsF (fun h => !lessF c xs ((p + q) / 2 + m - 1 - h) h) ((p + q) / 2 + m - q) ((p + q) / 2) else bsF (fun h => !lessF c xs ((p + q) / 2 + m - 1 - h) h) p m
def symF (c : α → α → Int) : Nat → Nat → Nat → Nat → List α → List α
  | 0, _, _, _, xs => xs
  | N + 1, p, m, q, xs =>
    if m - p = 1 then upF (bsF (fun h => lessF c xs h p) m q - 1 - p) p xs
    else if q - m = 1 then dnF (m - bsF (fun h => !lessF c xs m h) p m) m xs
    else
      let mid := (p + q) / 2
      let s := symS c p m q xs
      let e := mid + m - s
      let ys := if s < m ∧ m < e then rotF m (m - s) (e - m) xs else xs
      let zs := if p < s ∧ s < mid then symF c N p s mid ys else ys
      if mid < e ∧ e < q then symF c N mid e q zs else zs
theorem symF_perm (c : α → α → Int) : ∀ (N p m q : Nat) (xs : List α), (symF c N p m q xs).Perm xs
  | 0, _, _, _, _ => .refl _
  | N + 1, p, m, q, xs => by
    unfold symF
    split
    · exact upF_perm _ _ _
    · split
      · exact dnF_perm _ _ _
      · simp only
        have h1 : ∀ (b : Prop) [Decidable b] (i j : Nat), (if b then rotF m i j xs else xs).Perm xs := fun b _ i j => by
          split
          · exact rotF_perm _ _ _ _
          · exact .refl _
        have h2 : ∀ (b : Prop) [Decidable b] (i j k : Nat) (ys : List α), (if b then symF c N i j k ys else ys).Perm ys := fun b _ i j k ys => by
          split
          · exact symF_perm c N _ _ _ _
          · exact .refl _
        exact (h2 _ _ _ _ _).trans ((h2 _ _ _ _ _).trans (h1 _ _ _))
def st1 (c : α → α → Int) (n a : Nat) (xs : List α) : Nat × List α := if a + 20 ≤ n then st1 c n (a + 20) (isort c a (a + 20) xs) else (a, xs)
termination_by n - a
theorem st1_perm (c : α → α → Int) (n a : Nat) (xs : List α) : (st1 c n a xs).2.Perm xs := by
  rw [st1]
  split
  · exact (st1_perm c n (a + 20) _).trans (isort_perm _ _ _ _)
  · exact .refl _
termination_by n - a
def st3 (c : α → α → Int) (n s a : Nat) (xs : List α) : Nat × List α := if h : a + 2 * s ≤ n ∧ 0 < s then st3 c n s (a + 2 * s) (symF c (2 * s) a (a + s) (a + 2 * s) xs) else (a, xs)
termination_by n - a
theorem st3_perm (c : α → α → Int) (n s a : Nat) (xs : List α) : (st3 c n s a xs).2.Perm xs := by
  rw [st3]
  split
  · exact (st3_perm c n s (a + 2 * s) _).trans (symF_perm _ _ _ _ _ _)
  · exact .refl _
termination_by n - a
def st4 (c : α → α → Int) (n s : Nat) (y : Nat × List α) : List α := if y.1 + s < n then symF c (n - y.1) y.1 (y.1 + s) n y.2 else y.2
theorem st4_perm (c : α → α → Int) (n s : Nat) (y : Nat × List α) : (st4 c n s y).Perm y.2 := by
  unfold st4
  split
  · exact symF_perm _ _ _ _ _ _
  · exact .refl _
def st2 (c : α → α → Int) (n s : Nat) (xs : List α) : List α := if h : s < n ∧ 0 < s then st2 c n (s * 2) (st4 c n s (st3 c n s 0 xs)) else xs
termination_by n - s
theorem st2_perm (c : α → α → Int) (n s : Nat) (xs : List α) : (st2 c n s xs).Perm xs := by
  rw [st2]
  split
  · exact (st2_perm c n (s * 2) _).trans ((st4_perm _ _ _ _).trans (st3_perm _ _ _ _ _))
  · exact .refl _
termination_by n - s
/-- What a stable sort leaves. -/
def stab (c : α → α → Int) (l : List α) : List α := st2 c l.length 20 (isort c (st1 c l.length 0 l).1 l.length (st1 c l.length 0 l).2)
theorem stab_perm (c : α → α → Int) (l : List α) : (stab c l).Perm l := (st2_perm _ _ _ _).trans ((isort_perm _ _ _ _).trans (st1_perm _ _ _ _))
theorem stab_few (c : α → α → Int) (l : List α) (h : l.length < 20) : stab c l = isort c 0 l.length l := by
  unfold stab
  rw [st1, if_neg (by omega), st2, dif_neg (by omega)]

theorem perm_map {β : Type} {f : α → β} : ∀ {xs : List β} {ys : List β}, xs.Perm ys → ∀ l : List α, ys = l.map f → ∃ l' : List α, xs = l'.map f ∧ l'.Perm l := by
  intro xs ys h
  induction h with
  | nil => intro l e; exact ⟨l, e, .refl _⟩
  | cons x h ih =>
    intro l e
    cases l with
    | nil => simp at e
    | cons a l =>
      simp only [List.map_cons, List.cons.injEq] at e
      obtain ⟨l', rfl, h'⟩ := ih l e.2
      exact ⟨a :: l', by rw [e.1]; rfl, h'.cons a⟩
  | swap x y l0 =>
    intro l e
    match l, e with
    | a :: b :: l, e =>
      simp only [List.map_cons, List.cons.injEq] at e
      obtain ⟨rfl, rfl, rfl⟩ := e
      exact ⟨b :: a :: l, rfl, .swap a b l⟩
  | trans h1 h2 ih1 ih2 =>
    intro l e
    obtain ⟨l1, e1, p1⟩ := ih2 l e
    obtain ⟨l2, e2, p2⟩ := ih1 l1 e1
    exact ⟨l2, e2, p2.trans p1⟩
end Go.Ag
/- AGo, part 27: a box that stays as it is; an array that is told by value to a call. -/
namespace Go.Ag
open Go Go.RowKit

theorem relL_imp {M M' : Mem} {μ μ' : Mu} {f g : Nat → D} (h : ∀ i y, Rel M μ (f i) y → Rel M' μ' (g i) y) : ∀ (l : List Nat) (vs : List Value), RelL M μ (l.map f) vs → RelL M' μ' (l.map g) vs
  | [], vs, hv => by simpa only [List.map_nil, RelL] using hv
  | i :: l, vs, hv => by
    rw [List.map_cons, RelL.cons] at hv ⊢
    obtain ⟨v, vs', rfl, h1, h2⟩ := hv
    exact ⟨v, vs', rfl, h i v h1, relL_imp h l vs' h2⟩
theorem relRow_of_relL {M : Mem} {μ : Mu} {b : Nat} {cs : List V} {vs : List Value} (hr : RelL M μ (cs.map .v) vs) {M' : Mem} (hle : M.le M') (hm : ∀ o, M' b o = vs[o]?) : RelRow M' b 0 cs :=
  RelRow.of_get fun j x hx => by
    obtain ⟨y, h1, h2⟩ := hr.get j (.v x) (by rw [List.getElem?_map, hx]; rfl)
    simp only [Rel] at h2
    have h3 : Rel M' μ (.v x) y := Rel.mono hle (.refl _) (by simp only [Rel]; exact h2)
    simp only [Rel] at h3
    exact ⟨y, by rw [Nat.zero_add, hm, h1], h3⟩

theorem R.freeze {E : Env} {M : Mem} {μ : Mu} {H : List Ob} {w : World} (h : R E M μ H w) {b : Nat} {cs : List V} {p : Pt} (hb : H[b]? = some (.box (cs.map .v))) (hp : μ b = some p) :
    ∃ M', M.le M' ∧ R E M' μ (H.set b .dead) w ∧ RelRow M' p.blk 0 cs := by
  obtain ⟨h1, h2, h3, vs, t, h4, h5⟩ := h.obj b _ p hb hp
  have hle : M.le (memWith M p.blk vs) := memWith_le h3
  have hlt : b < H.length := h.dom b p hp
  refine ⟨memWith M p.blk vs, hle, ?_, relRow_of_relL h5 hle (memWith_self M p.blk vs)⟩
  have back : ∀ (j : Nat) (oj : Ob), (H.set b .dead)[j]? = some oj → oj ≠ .dead → H[j]? = some oj ∧ j ≠ b := fun j oj hj dj => by
    by_cases e : j = b
    · subst e
      rw [List.getElem?_set_self hlt] at hj; cases hj; exact absurd rfl dj
    · rw [List.getElem?_set_ne (fun x => e x.symm)] at hj; exact ⟨hj, e⟩
  refine ⟨h.below, fun b' o y hy => ?_, fun g cs hg => (h.glob g cs hg).mono hle, fun j q hq => by simpa using h.dom j q hq, fun j oj q hj hq => ?_, fun i j oi oj pi pj hij hi hj di dj hpi hpj => h.sep i j oi oj pi pj hij (back i oi hi di).1 (back j oj hj dj).1 di dj hpi hpj, fun j hj => h.tot j (by simpa using hj)⟩
  · by_cases e : b' = p.blk
    · subst e
      rw [memWith_self] at hy
      rw [cell?_block h4]; exact hy
    · simp only [memWith, e, if_false] at hy; exact h.imm b' o y hy
  · by_cases hd : oj = .dead
    · subst hd; trivial
    obtain ⟨hj', hjb⟩ := back j oj hj hd
    have hob := h.obj j oj q hj' hq
    have hne : q.blk ≠ p.blk := h.sep j b oj _ q p hjb hj' hb hd (by simp) hq hp
    cases oj with
    | dead => trivial
    | box ds =>
      obtain ⟨a1, a2, a3, ws, t, a4, a5⟩ := hob
      exact ⟨a1, a2, fun o => by simp only [memWith, hne, if_false]; exact a3 o, ws, t, a4, a5.mono hle (.refl _)⟩
    | arr ver sz xs esc =>
      obtain ⟨a1, a2, a3, a4, a5, ws, t, a6, a7, a8⟩ := hob
      exact ⟨a1, a2, a3, fun o y hy => by simp only [memWith, hne, if_false] at hy; exact a4 o y hy, a5, ws, t, a6, a7, a8.mono hle (.refl _)⟩
    | mp es =>
      obtain ⟨a1, a2, a3, ents, c, a4, a5, a6, a7⟩ := hob
      exact ⟨a1, a2, fun o => by simp only [memWith, hne, if_false]; exact a3 o, ents, c, a4, a5.mono hle (.refl _), a6, a7⟩

/-- A box is told to stay as it is. -/
theorem Ent.freeze {E : Env} {n : Nat} {l : List (Nat × D)} {H : List Ob} (s b : Nat) (cs : List V) (l' : List (Nat × D)) (hb : H[b]? = some (.box (cs.map .v))) (hd : look l s = .ptr b 0) (h1 : leAll l l') :
    Ent E (fr n l) H (fr n ((s, .rptr cs) :: l')) (H.set b .dead) := by
  refine (Ent.weakFr (l' := (s, .ptr b 0) :: l') ⟨hd ▸ D.le_refl _, h1⟩).trans ?_
  intro M μ w vs g1 g2 hr ht
  obtain ⟨p, hp⟩ := hr.tot b (List.getElem?_eq_some_iff.1 hb).1
  obtain ⟨M', k1, k2, k3⟩ := hr.freeze hb hp
  refine ⟨M', μ, g1.trans k1, g2, k2, relL_imp (fun i y hy => ?_) _ _ ht⟩
  simp only [look_cons] at hy ⊢
  split
  · rename_i e
    rw [if_pos e] at hy
    simp only [Rel] at hy ⊢
    obtain ⟨q, hq, _, rfl⟩ := hy
    rw [hp] at hq; cases hq
    exact ⟨p.blk, 0, rfl, k3⟩
  · rename_i e
    rw [if_neg e] at hy
    exact Rel.mono k1 (.refl _) hy

/-- An array of one's own is told to a call by value. -/
theorem ACalls.pub {P : Program} {G : Nat → Option (List V)} {f : FuncId} {H : List Ob} {K : D → List Ob → Prop} (b : Nat) {ver sz len esc : Nat} (ys : List (List V)) (hb : H[b]? = some (.arr ver sz (ys.map (·.map .v)) esc)) (he : esc ≤ ys.length) (hl : len ≤ ys.length)
    (h : ACalls P G f [.v (.list sz (ys.take len))] (H.set b (.arr ver sz (ys.map (·.map .v)) ys.length)) K) : ACalls P G f [.own b ver len] H K := by
  rintro ⟨P', G', w0, M0, μ0, H0⟩ e1 e2 M μ w vs hr hv
  have hR : R ⟨P', G', w0, M, μ, H⟩ M μ H w := ⟨hr.below, hr.imm, hr.glob, hr.dom, hr.obj, hr.sep, hr.tot⟩
  obtain ⟨M', μ', g1, g2, g3, g4⟩ := Ent.pub (E := ⟨P', G', w0, M, μ, H⟩) (ts := [.own b ver len]) b ys hb (by simpa using he) rfl M μ w vs (.refl _) (.refl _) hR hv
  have e : D.convL b ver sz ys [.own b ver len] = [.v (.list sz (ys.take len))] := by
    simp only [D.convL, D.conv, true_and, hl, if_true]
  rw [e] at g4
  have hR2 : R ⟨P', G', w0, M0, μ0, H0⟩ M' μ' (H.set b (.arr ver sz (ys.map (·.map .v)) ys.length)) w := ⟨g3.below, g3.imm, g3.glob, g3.dom, g3.obj, g3.sep, g3.tot⟩
  refine (h ⟨P', G', w0, M0, μ0, H0⟩ e1 e2 M' μ' w vs hR2 g4).mono ?_
  rintro e w' ⟨v, d, M'', μ'', H'', a1, a2, a3, a4, a5, a6⟩
  exact ⟨v, d, M'', μ'', H'', a1, g1.trans a2, g2.trans a3, a4, a5, a6⟩

theorem ACalls.pubL {P : Program} {G : Nat → Option (List V)} {f : FuncId} {H : List Ob} {K : D → List Ob → Prop} {args : List D} (b : Nat) {ver sz esc : Nat} (ys : List (List V)) (hb : H[b]? = some (.arr ver sz (ys.map (·.map .v)) esc)) (he : esc ≤ ys.length)
    (h : ACalls P G f (D.convL b ver sz ys args) (H.set b (.arr ver sz (ys.map (·.map .v)) ys.length)) K) : ACalls P G f args H K := by
  rintro ⟨P', G', w0, M0, μ0, H0⟩ e1 e2 M μ w vs hr hv
  have hR : R ⟨P', G', w0, M, μ, H⟩ M μ H w := ⟨hr.below, hr.imm, hr.glob, hr.dom, hr.obj, hr.sep, hr.tot⟩
  obtain ⟨M', μ', g1, g2, g3, g4⟩ := Ent.pub (E := ⟨P', G', w0, M, μ, H⟩) (ts := args) b ys hb (by simpa using he) rfl M μ w vs (.refl _) (.refl _) hR hv
  have hR2 : R ⟨P', G', w0, M0, μ0, H0⟩ M' μ' (H.set b (.arr ver sz (ys.map (·.map .v)) ys.length)) w := ⟨g3.below, g3.imm, g3.glob, g3.dom, g3.obj, g3.sep, g3.tot⟩
  refine (h ⟨P', G', w0, M0, μ0, H0⟩ e1 e2 M' μ' w vs hR2 g4).mono ?_
  rintro e w' ⟨v, d, M'', μ'', H'', a1, a2, a3, a4, a5, a6⟩
  exact ⟨v, d, M'', μ'', H'', a1, g1.trans a2, g2.trans a3, a4, a5, a6⟩
theorem ACalls.pub1 {P : Program} {G : Nat → Option (List V)} {f : FuncId} {H : List Ob} {K : D → List Ob → Prop} {y : V} (b : Nat) {ver sz len esc : Nat} (ys : List (List V)) (hb : H[b]? = some (.arr ver sz (ys.map (·.map .v)) esc)) (he : esc ≤ ys.length) (hl : len ≤ ys.length)
    (h : ACalls P G f [.v (.list sz (ys.take len)), .v y] (H.set b (.arr ver sz (ys.map (·.map .v)) ys.length)) K) : ACalls P G f [.own b ver len, .v y] H K := by
  refine ACalls.pubL b ys hb he ?_
  have e : D.convL b ver sz ys [.own b ver len, .v y] = [.v (.list sz (ys.take len)), .v y] := by
    simp only [D.convL, D.conv, true_and, hl, if_true]
  rw [e]; exact h
end Go.Ag
namespace Go.Ag
open Go Go.Proofs
variable {G : Nat → Option (List V)}
attribute [local irreducible] aops qops Sat aop

theorem wrap_pred {i : Nat} (h : i < 1099511627776) : IntKind.i64.wrap (((i + 1 : Nat) : Int) - 1) = (i : Int) := by rw [IntKind.wrap_i64]; omega
theorem set_nop {H : List Ob} {b : Nat} {o : Ob} (h : H[b]? = some o) : H.set b o = H := by
  apply List.ext_getElem?
  intro i
  by_cases e : b = i
  · subst e; rw [List.getElem?_set_self (List.getElem?_eq_some_iff.1 h).1, h]
  · rw [List.getElem?_set_ne e]
set_option maxRecDepth 20000 in
set_option maxHeartbeats 16000000 in
theorem spec_insertion0Slv {α : Type} (r : α → List D) (hr : ∀ x, (r x).length = 2) (hcl : ∀ x, (r x).all D.cell = true) (c : α → α → Int) (f : FuncId) (caps : List D) (l : List α) (b ver a n : Nat) (han : a < l.length ∨ n ≤ a + 1) (hn : n ≤ l.length) (hl : l.length ≤ 1000000) (ha : a ≤ 1000000) (H : List Ob) (hb : H[b]? = some (.arr ver 2 (l.map r) 0))
    (hq : ∀ x y (H' : List Ob) (K : D → List Ob → Prop), (∀ j, j ≠ b → H'[j]? = H[j]?) → K (.v (.int .i64 (c x y))) H' → ACalls Tryz.prog G f (.agg (r x) :: .agg (r y) :: caps) H' K)
    (K : D → List Ob → Prop) (hK : K (.tup []) (H.set b (.arr ver 2 ((isort c a n l).map r) 0))) : ACalls Tryz.prog G 149 [.own b ver l.length, .v (.int .i64 a), .v (.int .i64 n), .fn f caps] H K := by
  have hlt := (List.getElem?_eq_some_iff.1 hb).1
  refine ACalls.go Tryz.f149 _ 53 [] Tryz.func149 rfl Tryz.ntmps149 (by kernel_rfl) rfl (by simp) (fun E hE hP hG hH => ?_)
  have hM : E.P.follows .mixedOrders = true := hP ▸ mixed
  subst hH
  have hrt : ∀ x, (r x).take 2 = r x := fun x => List.take_of_length_le (by rw [hr]; exact Nat.le_refl _)
  have hrd : ∀ x, (r x).drop 2 = [] := fun x => List.drop_of_length_le (by rw [hr]; exact Nat.le_refl _)
  have hms : ∀ (l : List α) i y, (l.map r).set i (r y) = (l.set i y).map r := fun l i y => by simp [List.map_set]
  have hwa := wrap_succ (i := a) (by omega)
  simp only [args0]
  (refine W0 (c2 t3 @hwa) ?_; try with_reducible intro K hK)
  refine sat_loop_ent (fun m ts H => ∃ (i : Nat) (xs : List α), m = n - i ∧ a + 1 ≤ i ∧ i ≤ 1000001 ∧ xs.length = l.length ∧ isoF c a i (n - i) xs = isort c a n l ∧
    ts = fr 53 [(8, .v (.int .i64 i)), (3, .fn f caps), (2, .v (.int .i64 n)), (1, .v (.int .i64 a)), (0, .own b ver l.length)] ∧ H = E.H0.set b (.arr ver 2 (xs.map r) 0)) (n - (a + 1)) (ts0 := fr 53 [(8, .v (.int .i64 (a + 1 : Nat))), (3, .fn f caps), (2, .v (.int .i64 n)), (1, .v (.int .i64 a)), (0, .own b ver l.length)]) (H0 := E.H0) (.weakFr ?_) ⟨a + 1, l, rfl, Nat.le_refl _, by omega, rfl, rfl, rfl, (set_nop hb).symm⟩ ?_
  · simp only [le, ↓reduceIte, Nat.reduceEqDiff, and_true]; repeat' (first | exact trivial | exact D.le_refl _ | exact D.le_any _ | with_reducible refine And.intro ?_ ?_)
  rintro m ts H ⟨i, xs, rfl, hai, hi6, hxl, hiso, rfl, hHH⟩
  (refine W0 t3 ?_; try with_reducible intro K hK)
  refine sat_cond rfl (fun hc => ?_) (fun hc => ?_)
  · simp at hc
    have hwi := wrap_succ (i := i) (by omega)
    (refine W0 t3 ?_; try with_reducible intro K hK)
    refine sat_loop_ent (fun m ts H => ∃ (j : Nat) (ys : List α), m = j ∧ j ≤ i ∧ ys.length = l.length ∧ insF c a j ys = insF c a i xs ∧
      ts = fr 53 [(9, .v (.int .i64 j)), (8, .v (.int .i64 i)), (3, .fn f caps), (2, .v (.int .i64 n)), (1, .v (.int .i64 a)), (0, .own b ver l.length)] ∧ H = E.H0.set b (.arr ver 2 (ys.map r) 0)) i (.weakFr ?_) ⟨i, xs, rfl, Nat.le_refl _, hxl, rfl, rfl, hHH⟩ ?_
    · simp only [le, ↓reduceIte, Nat.reduceEqDiff, and_true]; repeat' (first | exact trivial | exact D.le_refl _ | exact D.le_any _ | with_reducible refine And.intro ?_ ?_)
    clear hHH
    rintro j ts H ⟨_, ys, rfl, hji, hyl, hins, rfl, hHH⟩
    have hb1 : H[b]? = some (.arr ver 2 (ys.map r) 0) := by rw [hHH]; exact List.getElem?_set_self hlt
    have hoth : ∀ k, k ≠ b → H[k]? = E.H0[k]? := fun k hk => by rw [hHH, List.getElem?_set_ne (fun e => hk e.symm)]
    have gs : ∀ o, (H.set b o)[b]? = some o := fun o => List.getElem?_set_self (by rw [hHH]; simpa using hlt)
    by_cases hja : a < j
    · obtain ⟨q, rfl⟩ : ∃ q, j = q + 1 := ⟨j - 1, by omega⟩
      obtain ⟨y, hy⟩ : ∃ y, ys[q + 1]? = some y := ⟨_, List.getElem?_eq_getElem (by omega)⟩
      obtain ⟨x, hx⟩ : ∃ x, ys[q]? = some x := ⟨_, List.getElem?_eq_getElem (by omega)⟩
      have hyr : (ys.map r)[q + 1]? = some (r y) := by simp [hy]
      have hxr : (ys.map r)[q]? = some (r x) := by simp [hx]
      have hwj := wrap_pred (i := q) (by omega)
      have hgt : decide (a < q + 1) = true := by simp; omega
      repeat (first | ((first | refine wi ?_ | refine wj ?_ | refine wk ?_ | refine wl ?_ | refine wm ?_ | refine wn ?_); simp only [lt, ↓reduceIte, Nat.reduceEqDiff]) | refine wo ?_)
      repeat refine wa ?_
      (first | refine wr ?_ | refine wp rfl hM ?_ | refine wq hM ?_); repeat' (first | (refine G0 (c11 t3 t23 t37 @hb1 @hyr @hxr @hwj @hgt @hr @hrt @List.drop_zero.{0}) ?_; try with_reducible intro K hK) | ((first | refine Xs rfl rfl (by decide) rfl (fun h => ?_) fun h => ?_ | refine Ys rfl rfl (by decide) rfl (fun h => ?_) fun h => ?_ | refine Zs rfl rfl rfl (by decide) rfl (fun h => ?_) fun h => ?_); rotate_left; (focus (simp only [Bool.not_true, Bool.not_false, lp])); rotate_left))
      refine ⟨_, hq y x _ _ hoth ⟨rfl, rfl⟩, hK _ ?_⟩
      clear hK K; simp only [lp]
      repeat' (first | (refine G0 (c3 t3 t23 t37) ?_; try with_reducible intro K hK) | ((first | refine Xs rfl rfl (by decide) rfl (fun h => ?_) fun h => ?_ | refine Ys rfl rfl (by decide) rfl (fun h => ?_) fun h => ?_ | refine Zs rfl rfl rfl (by decide) rfl (fun h => ?_) fun h => ?_); rotate_left; (focus (simp only [Bool.not_true, Bool.not_false, lp])); rotate_left))
      repeat (first | ((first | refine wi ?_ | refine wj ?_ | refine wk ?_ | refine wl ?_ | refine wm ?_ | refine wn ?_); simp only [lt, ↓reduceIte, Nat.reduceEqDiff]) | refine wo ?_)
      refine sat_cond rfl (fun hd => ?_) (fun hd => ?_)
      · simp at hd
        have hsw : ((ys.set (q + 1) x).map r)[q]? = some (r x) := by simp [hx, List.getElem?_set_ne]
        refine sat_skip ?_
        repeat (first | ((first | refine wi ?_ | refine wj ?_ | refine wk ?_ | refine wl ?_ | refine wm ?_ | refine wn ?_); simp only [lt, ↓reduceIte, Nat.reduceEqDiff]) | refine wo ?_)
        repeat refine wa ?_
        refine wo ?_
        refine sat_stay hM ?_
        (refine S0 (c19 t3 t23 t37 @hb1 @hyr @hxr @hwj @gs @hms @hsw @hcl @hr @hrt @hrd @List.drop_zero.{0} @List.take_zero.{0} @List.nil_append.{0} @List.append_nil.{0} @List.set_set.{0}) ?_; try with_reducible intro K hK)
        (refine W0 (c2 t3 @hwj) ?_; try with_reducible intro K hK)
        refine ⟨q, _, _, by omega, .weakFr ?_, q, swp ys (q + 1) q, rfl, by omega, by rw [swp_len]; exact hyl, ?_, rfl, ?_⟩
        · simp only [le, ↓reduceIte, Nat.reduceEqDiff, and_true]; repeat' (first | exact trivial | exact D.le_refl _ | exact D.le_any _ | with_reducible refine And.intro ?_ ?_)
        · rw [← hins, insF_yes hja hy hx hd]
        · rw [hHH, List.set_set, swp_eq hy hx]
      · have hst := insF_no hja hy hx (by simpa using hd)
        (refine W0 (c2 t3 @hwi) ?_; try with_reducible intro K hK)
        refine ⟨n - (i + 1), _, _, by omega, .weakFr ?_, i + 1, ys, rfl, by omega, by omega, hyl, ?_, rfl, hHH⟩
        · simp only [le, ↓reduceIte, Nat.reduceEqDiff, and_true]; repeat' (first | exact trivial | exact D.le_refl _ | exact D.le_any _ | with_reducible refine And.intro ?_ ?_)
        · rw [← hiso, show n - i = (n - (i + 1)) + 1 by omega, isoF, ← hins, hst]
    · have hst := insF_stop (c := c) (xs := ys) hja
      have hgt : decide (a < j) = false := by simp; omega
      repeat (first | ((first | refine wi ?_ | refine wj ?_ | refine wk ?_ | refine wl ?_ | refine wm ?_ | refine wn ?_); simp only [lt, ↓reduceIte, Nat.reduceEqDiff]) | refine wo ?_)
      repeat refine wa ?_
      (first | refine wr ?_ | refine wp rfl hM ?_ | refine wq hM ?_); repeat' (first | (refine G0 (c4 t3 t23 t37 @hgt) ?_; try with_reducible intro K hK) | ((first | refine Xs rfl rfl (by decide) rfl (fun h => ?_) fun h => ?_ | refine Ys rfl rfl (by decide) rfl (fun h => ?_) fun h => ?_ | refine Zs rfl rfl rfl (by decide) rfl (fun h => ?_) fun h => ?_); rotate_left; (focus (simp only [Bool.not_true, Bool.not_false, lp])); rotate_left))
      refine sat_cond rfl (fun hd => ?_) (fun hd => ?_)
      · cases hd
      · (refine W0 (c2 t3 @hwi) ?_; try with_reducible intro K hK)
        refine ⟨n - (i + 1), _, _, by omega, .weakFr ?_, i + 1, ys, rfl, by omega, by omega, hyl, ?_, rfl, hHH⟩
        · simp only [le, ↓reduceIte, Nat.reduceEqDiff, and_true]; repeat' (first | exact trivial | exact D.le_refl _ | exact D.le_any _ | with_reducible refine And.intro ?_ ?_)
        · rw [← hiso, show n - i = (n - (i + 1)) + 1 by omega, isoF, ← hins, hst]
  · simp at hc
    rw [show n - i = 0 by omega, isoF] at hiso
    rw [hiso] at hHH
    (refine W0 trivial ?_; try with_reducible intro K hK)
    refine Fin.here ?_
    rw [hHH]; exact hK
theorem spec_insertionSlv {α : Type} (r : α → List D) (hr : ∀ x, (r x).length = 2) (hcl : ∀ x, (r x).all D.cell = true) (c : α → α → Int) (f : FuncId) (caps : List D) (l : List α) (b ver len a n : Nat) (hlen : l.length = len) (han : a < len ∨ n ≤ a + 1) (hn : n ≤ len) (hl : len ≤ 1000000) (ha : a ≤ 1000000) (H : List Ob) (hb : H[b]? = some (.arr ver 2 (l.map r) 0))
    (hq : ∀ x y (H' : List Ob) (K : D → List Ob → Prop), (∀ j, j ≠ b → H'[j]? = H[j]?) → K (.v (.int .i64 (c x y))) H' → ACalls Tryz.prog G f (.agg (r x) :: .agg (r y) :: caps) H' K)
    (K : D → List Ob → Prop) (hK : K (.tup []) (H.set b (.arr ver 2 ((isort c a n l).map r) 0))) : ACalls Tryz.prog G 149 [.own b ver len, .v (.int .i64 a), .v (.int .i64 n), .fn f caps] H K := by
  subst hlen
  exact spec_insertion0Slv r hr hcl c f caps l b ver a n han hn hl ha H hb hq K hK
theorem wrap_addN {i j : Nat} (h : i + j < 1099511627776) : IntKind.i64.wrap ((i : Int) + (j : Int)) = ((i + j : Nat) : Int) := by rw [IntKind.wrap_i64]; omega
theorem wrap_subN {i j : Nat} (h : i < 1099511627776) (hj : j ≤ i) : IntKind.i64.wrap ((i : Int) - (j : Int)) = ((i - j : Nat) : Int) := by rw [IntKind.wrap_i64]; omega
set_option maxRecDepth 20000 in
set_option maxHeartbeats 16000000 in
theorem spec_swapRangeSlv {α : Type} (r : α → List D) (hr : ∀ x, (r x).length = 2) (hcl : ∀ x, (r x).all D.cell = true) (f : FuncId) (caps : List D) (l : List α) (b ver len p q n : Nat) (hlen : l.length = len) (hp : p + n ≤ len) (hq : q + n ≤ len) (hl : len ≤ 1000000) (H : List Ob) (hb : H[b]? = some (.arr ver 2 (l.map r) 0))
    (K : D → List Ob → Prop) (hK : K (.tup []) (H.set b (.arr ver 2 ((swr p q n l).map r) 0))) : ACalls Tryz.prog G 162 [.own b ver len, .v (.int .i64 p), .v (.int .i64 q), .v (.int .i64 n), .fn f caps] H K := by
  have hlt := (List.getElem?_eq_some_iff.1 hb).1
  refine ACalls.go Tryz.f162 _ 38 [] Tryz.func162 rfl Tryz.ntmps162 (by kernel_rfl) rfl (by simp) (fun E hE hP hG hH => ?_)
  have hM : E.P.follows .mixedOrders = true := hP ▸ mixed
  subst hH
  have hrt : ∀ x, (r x).take 2 = r x := fun x => List.take_of_length_le (by rw [hr]; exact Nat.le_refl _)
  have hrd : ∀ x, (r x).drop 2 = [] := fun x => List.drop_of_length_le (by rw [hr]; exact Nat.le_refl _)
  have hms : ∀ (l : List α) i y, (l.map r).set i (r y) = (l.set i y).map r := fun l i y => by simp [List.map_set]
  simp only [args0]
  (refine W0 t3 ?_; try with_reducible intro K hK)
  refine sat_loop_ent (fun m ts H => ∃ (i : Nat) (xs : List α), m = n - i ∧ i ≤ n ∧ xs = swr p q i l ∧
    ts = fr 38 [(10, .v (.int .i64 i)), (4, .fn f caps), (3, .v (.int .i64 n)), (2, .v (.int .i64 q)), (1, .v (.int .i64 p)), (0, .own b ver len)] ∧ H = E.H0.set b (.arr ver 2 (xs.map r) 0)) n (ts0 := fr 38 [(10, .v (.int .i64 (0 : Nat))), (4, .fn f caps), (3, .v (.int .i64 n)), (2, .v (.int .i64 q)), (1, .v (.int .i64 p)), (0, .own b ver len)]) (H0 := E.H0) (.weakFr ?_) ⟨0, l, rfl, Nat.zero_le _, rfl, rfl, (set_nop hb).symm⟩ ?_
  · simp only [le, ↓reduceIte, Nat.reduceEqDiff, and_true]; repeat' (first | exact trivial | exact D.le_refl _ | exact D.le_any _ | with_reducible refine And.intro ?_ ?_)
  rintro m ts H ⟨i, xs, rfl, hi, hxs, rfl, hHH⟩
  have hxl : xs.length = len := by rw [hxs, (swr_perm _ _ _ _).length_eq, hlen]
  have hb1 : H[b]? = some (.arr ver 2 (xs.map r) 0) := by rw [hHH]; exact List.getElem?_set_self hlt
  have gs : ∀ o, (H.set b o)[b]? = some o := fun o => List.getElem?_set_self (by rw [hHH]; simpa using hlt)
  (refine W0 t3 ?_; try with_reducible intro K hK)
  refine sat_cond rfl (fun hc => ?_) (fun hc => ?_)
  · simp at hc
    obtain ⟨x, hx⟩ : ∃ x, xs[p + i]? = some x := ⟨_, List.getElem?_eq_getElem (by omega)⟩
    obtain ⟨y, hy⟩ : ∃ y, xs[q + i]? = some y := ⟨_, List.getElem?_eq_getElem (by omega)⟩
    have hyr : (xs.map r)[q + i]? = some (r y) := by simp [hy]
    have hxr : (xs.map r)[p + i]? = some (r x) := by simp [hx]
    have hsw : ((xs.set (p + i) y).map r)[q + i]? = some (r y) := by
      by_cases e : p + i = q + i
      · rw [e, List.getElem?_map, List.getElem?_set_self (by omega)]; rfl
      · rw [List.getElem?_map, List.getElem?_set_ne e, hy]; rfl
    have hwp := wrap_addN (i := p) (j := i) (by omega)
    have hwq := wrap_addN (i := q) (j := i) (by omega)
    have hwi := wrap_succ (i := i) (by omega)
    have hpi : p + i < len := by omega
    have hqi : q + i < len := by omega
    refine sat_skip ?_
    repeat (first | ((first | refine wi ?_ | refine wj ?_ | refine wk ?_ | refine wl ?_ | refine wm ?_ | refine wn ?_); simp only [lt, ↓reduceIte, Nat.reduceEqDiff]) | refine wo ?_)
    repeat refine wa ?_
    refine wo ?_
    refine sat_stay hM ?_
    (refine S0 (c2 (c19 t3 t23 t37 @hb1 @hyr @hxr @hwp @hwq @hpi @hqi @gs @hms @hsw @hcl @hr @hrt @hrd @List.drop_zero.{0} @List.take_zero.{0}) (c3 @List.nil_append.{0} @List.append_nil.{0} @List.set_set.{0})) ?_; try with_reducible intro K hK)
    (refine W0 (c2 t3 @hwi) ?_; try with_reducible intro K hK)
    refine ⟨n - (i + 1), _, _, by omega, .weakFr ?_, i + 1, swp xs (p + i) (q + i), rfl, by omega, by rw [hxs]; rfl, rfl, ?_⟩
    · simp only [le, ↓reduceIte, Nat.reduceEqDiff, and_true]; repeat' (first | exact trivial | exact D.le_refl _ | exact D.le_any _ | with_reducible refine And.intro ?_ ?_)
    · rw [hHH, List.set_set, swp_eq hx hy]
  · simp at hc
    (refine W0 trivial ?_; try with_reducible intro K hK)
    refine Fin.here ?_
    obtain rfl : i = n := by omega
    rw [hHH, hxs]; exact hK
end Go.Ag
namespace Go.Ag
open Go Go.Proofs
variable {G : Nat → Option (List V)}
attribute [local irreducible] aops qops Sat aop

set_option maxRecDepth 20000 in
set_option maxHeartbeats 16000000 in
theorem spec_rotateSlv {α : Type} (r : α → List D) (hr : ∀ x, (r x).length = 2) (hcl : ∀ x, (r x).all D.cell = true) (f : FuncId) (caps : List D) (l : List α) (b ver len p m q : Nat) (hlen : l.length = len) (hpm : p < m) (hmq : m < q) (hq : q ≤ len) (hl : len ≤ 1000000) (H : List Ob) (hb : H[b]? = some (.arr ver 2 (l.map r) 0))
    (K : D → List Ob → Prop) (hK : K (.tup []) (H.set b (.arr ver 2 ((rotF m (m - p) (q - m) l).map r) 0))) : ACalls Tryz.prog G 159 [.own b ver len, .v (.int .i64 p), .v (.int .i64 m), .v (.int .i64 q), .fn f caps] H K := by
  have hlt := (List.getElem?_eq_some_iff.1 hb).1
  refine ACalls.go Tryz.f159 _ 58 [] Tryz.func159 rfl Tryz.ntmps159 (by kernel_rfl) rfl (by simp) (fun E hE hP hG hH => ?_)
  have hM : E.P.follows .mixedOrders = true := hP ▸ mixed
  subst hH
  have hw1 := wrap_subN (i := m) (j := p) (by omega) (by omega)
  have hw2 := wrap_subN (i := q) (j := m) (by omega) (by omega)
  simp only [args0]
  (refine W0 (c3 t3 @hw1 @hw2) ?_; try with_reducible intro K hK)
  refine sat_loop_ent (fun z ts H => ∃ (i j : Nat) (xs : List α), z = i + j ∧ 1 ≤ i ∧ 1 ≤ j ∧ i ≤ m - p ∧ j ≤ q - m ∧ xs.length = len ∧ rotF m i j xs = rotF m (m - p) (q - m) l ∧
    ts = fr 58 [(11, .v (.int .i64 j)), (10, .v (.int .i64 i)), (4, .fn f caps), (2, .v (.int .i64 m)), (0, .own b ver len)] ∧ H = E.H0.set b (.arr ver 2 (xs.map r) 0)) ((m - p) + (q - m)) (ts0 := fr 58 [(11, .v (.int .i64 (q - m : Nat))), (10, .v (.int .i64 (m - p : Nat))), (4, .fn f caps), (2, .v (.int .i64 m)), (0, .own b ver len)]) (H0 := E.H0) (.weakFr ?_) ⟨m - p, q - m, l, rfl, by omega, by omega, Nat.le_refl _, Nat.le_refl _, hlen, rfl, rfl, (set_nop hb).symm⟩ ?_
  · simp only [le, ↓reduceIte, Nat.reduceEqDiff, and_true]; repeat' (first | exact trivial | exact D.le_refl _ | exact D.le_any _ | with_reducible refine And.intro ?_ ?_)
  rintro z ts H ⟨i, j, xs, rfl, hi1, hj1, hi, hj, hxl, hrot, rfl, hHH⟩
  have hb1 : H[b]? = some (.arr ver 2 (xs.map r) 0) := by rw [hHH]; exact List.getElem?_set_self hlt
  have hwmi := wrap_subN (i := m) (j := i) (by omega) (by omega)
  (refine W0 t3 ?_; try with_reducible intro K hK)
  refine sat_cond rfl (fun hc => ?_) (fun hc => ?_)
  · simp at hc
    (refine W0 t3 ?_; try with_reducible intro K hK)
    refine sat_cond rfl (fun hd => ?_) (fun hd => ?_)
    · simp at hd
      have hwij := wrap_subN (i := i) (j := j) (by omega) (by omega)
      (refine W0 (c2 t3 @hwmi) ?_; try with_reducible intro K hK)
      refine spec_swapRangeSlv r hr hcl f caps xs b ver len (m - i) m j hxl (by omega) (by omega) hl _ hb1 _ (hK _ _ ?_)
      clear hK K; simp only [lp]
      (refine W0 (c2 t3 @hwij) ?_; try with_reducible intro K hK)
      refine ⟨(i - j) + j, _, _, by omega, .weakFr ?_, i - j, j, swr (m - i) m j xs, rfl, by omega, by omega, by omega, by omega, by rw [(swr_perm (m - i) m j xs).length_eq, hxl], by rw [← rotF_gt hd hj1, hrot], rfl, ?_⟩
      · simp only [le, ↓reduceIte, Nat.reduceEqDiff, and_true]; repeat' (first | exact trivial | exact D.le_refl _ | exact D.le_any _ | with_reducible refine And.intro ?_ ?_)
      · rw [hHH, List.set_set]
    · simp at hd
      have hwji := wrap_subN (i := j) (j := i) (by omega) (by omega)
      have hwmj := wrap_addN (i := m) (j := j) (by omega)
      have hwmji := wrap_subN (i := m + j) (j := i) (by omega) (by omega)
      (refine W0 (c4 t3 @hwmi @hwmj @hwmji) ?_; try with_reducible intro K hK)
      refine spec_swapRangeSlv r hr hcl f caps xs b ver len (m - i) (m + j - i) i hxl (by omega) (by omega) hl _ hb1 _ (hK _ _ ?_)
      clear hK K; simp only [lp]
      (refine W0 (c2 t3 @hwji) ?_; try with_reducible intro K hK)
      refine ⟨i + (j - i), _, _, by omega, .weakFr ?_, i, j - i, swr (m - i) (m + j - i) i xs, rfl, by omega, by omega, by omega, by omega, by rw [(swr_perm (m - i) (m + j - i) i xs).length_eq, hxl], by rw [← rotF_lt (by omega) hi1, hrot], rfl, ?_⟩
      · simp only [le, ↓reduceIte, Nat.reduceEqDiff, and_true]; repeat' (first | exact trivial | exact D.le_refl _ | exact D.le_any _ | with_reducible refine And.intro ?_ ?_)
      · rw [hHH, List.set_set]
  · simp at hc
    (refine W0 (c2 t3 @hwmi) ?_; try with_reducible intro K hK)
    refine spec_swapRangeSlv r hr hcl f caps xs b ver len (m - i) m i hxl (by omega) (by omega) hl _ hb1 _ (hK _ _ ?_)
    clear hK K; simp only [lp]
    (refine W0 t3 ?_; try with_reducible intro K hK)
    refine Fin.here ?_
    rw [hHH, List.set_set, ← rotF_eq hc, hrot]
    exact hK
end Go.Ag
namespace Go.Ag
open Go Go.Proofs
variable {G : Nat → Option (List V)}
attribute [local irreducible] aops qops Sat aop

theorem halfN {n : Nat} (h : n < 1099511627776) : IntKind.i64.wrap ((IntKind.u64.wrap (n : Int)).fdiv (2 ^ min (Int.toNat 1) IntKind.u64.bits)) = ((n / 2 : Nat) : Int) := by
  have h1 : IntKind.u64.wrap (n : Int) = n := by simp [IntKind.wrap, IntKind.bits, IntKind.signed]; omega
  rw [h1, show ((2 : Int) ^ min (Int.toNat 1) IntKind.u64.bits) = 2 from rfl, Int.fdiv_eq_ediv_of_nonneg _ (by decide), IntKind.wrap_i64]
  omega
/-- A piece of code ends in one of some frames. -/
theorem sat_thruF {ι : Type} {E : Env} {x y : Code} {ts : List D} {H : List Ob} {Q : Exit → List D → List Ob → Prop} (C : ι → Prop) (T : ι → List D) (Hf : ι → List Ob)
    (h1 : Sat E x ts H (Th (fun ts' H' => ∃ i, C i ∧ Ent E ts' H' (T i) (Hf i)) (fun _ _ _ => False))) (h2 : ∀ i, C i → Sat E y (T i) (Hf i) Q) : Sat E x ts H (Th (fun ts H => Sat E y ts H Q) Q) :=
  h1.mono fun e ts1 H1 h => by
    cases e with
    | normal => obtain ⟨i, hc, he⟩ := h; exact sat_ent he (h2 i hc)
    | _ => exact h.elim
set_option maxRecDepth 20000 in
set_option maxHeartbeats 16000000 in
theorem spec_symMergeSlv {α : Type} (r : α → List D) (hr : ∀ x, (r x).length = 2) (hcl : ∀ x, (r x).all D.cell = true) (c : α → α → Int) (f : FuncId) (caps : List D) (b ver len : Nat) (hl : len ≤ 1000000) (Hs : List Ob)
    (hf : ∀ x y (H' : List Ob) (K : D → List Ob → Prop), (∀ j, j ≠ b → H'[j]? = Hs[j]?) → K (.v (.int .i64 (c x y))) H' → ACalls Tryz.prog G f (.agg (r x) :: .agg (r y) :: caps) H' K) :
    ∀ (N p m q : Nat) (l : List α) (H : List Ob) (K : D → List Ob → Prop), q - p ≤ N → p < m → m < q → q ≤ len → l.length = len → H[b]? = some (.arr ver 2 (l.map r) 0) → (∀ j, j ≠ b → H[j]? = Hs[j]?) →
      K (.tup []) (H.set b (.arr ver 2 ((symF c N p m q l).map r) 0)) →
      ACalls Tryz.prog G 150 [.own b ver len, .v (.int .i64 p), .v (.int .i64 m), .v (.int .i64 q), .fn f caps] H K := by
  intro N
  induction N with
  | zero => intro p m q l H K h1 h2 h3; omega
  | succ N ih =>
  intro p m q l H K hN hpm hmq hq hlen hb hH0 hK
  have hlt := (List.getElem?_eq_some_iff.1 hb).1
  refine ACalls.go Tryz.f150 _ 220 [] Tryz.func150 rfl Tryz.ntmps150 (by kernel_rfl) rfl (by simp) (fun E hE hP hG hH => ?_)
  have hM : E.P.follows .mixedOrders = true := hP ▸ mixed
  subst hH
  have hrt : ∀ x, (r x).take 2 = r x := fun x => List.take_of_length_le (by rw [hr]; exact Nat.le_refl _)
  have hrd : ∀ x, (r x).drop 2 = [] := fun x => List.drop_of_length_le (by rw [hr]; exact Nat.le_refl _)
  have hms : ∀ (l : List α) i y, (l.map r).set i (r y) = (l.set i y).map r := fun l i y => by simp [List.map_set]
  have hrow : ∀ (xs : List α) (i : Nat) (x : α), xs[i]? = some x → (xs.map r)[i]? = some (r x) := fun xs i x h => by simp [h]
  have hat : ∀ (xs : List α) (i : Nat), xs.length = len → i < len → ∃ x, xs[i]? = some x ∧ (xs.map r)[i]? = some (r x) := fun xs i h1 h2 => ⟨xs[i]'(by omega), List.getElem?_eq_getElem _, hrow _ _ _ (List.getElem?_eq_getElem _)⟩
  have hwmp := wrap_subN (i := m) (j := p) (by omega) (by omega)
  have hwqm := wrap_subN (i := q) (j := m) (by omega) (by omega)
  have hp0 : p < len := by omega
  have hm0 : m < len := by omega
  simp only [args0]
  (refine W0 (c2 t3 @hwmp) ?_; try with_reducible intro K hK)
  refine sat_cond rfl (fun hc1 => ?_) (fun hc1 => ?_)
  · (refine W0 t3 ?_; try with_reducible intro K hK)
    obtain ⟨x0, hx0, hx0r⟩ := hat l p hlen hp0
    refine sat_loop_ent (fun z ts H => ∃ (i j : Nat), z = j - i ∧ m ≤ i ∧ i ≤ j ∧ j ≤ q ∧ bsF (fun h => lessF c l h p) i j = bsF (fun h => lessF c l h p) m q ∧
      ts = fr 220 [(11, .v (.int .i64 j)), (10, .v (.int .i64 i)), (4, .fn f caps), (3, .v (.int .i64 q)), (2, .v (.int .i64 m)), (1, .v (.int .i64 p)), (0, .own b ver len)] ∧ H = E.H0) (q - m) (.weakFr ?_) ⟨m, q, rfl, Nat.le_refl _, by omega, Nat.le_refl _, rfl, rfl, rfl⟩ ?_
    · simp only [le, ↓reduceIte, Nat.reduceEqDiff, and_true]; repeat' (first | exact trivial | exact D.le_refl _ | exact D.le_any _ | with_reducible refine And.intro ?_ ?_)
    rintro z ts H ⟨i, j, rfl, hmi, hij, hjq, hbs, rfl, rfl⟩
    (refine W0 t3 ?_; try with_reducible intro K hK)
    refine sat_cond rfl (fun hc => ?_) (fun hc => ?_)
    · simp at hc
      have hwij := wrap_addN (i := i) (j := j) (by omega)
      have hh := halfN (n := i + j) (by omega)
      have hhl : (i + j) / 2 < len := by omega
      have hwh := wrap_succ (i := (i + j) / 2) (by omega)
      obtain ⟨xh, hxh, hxhr⟩ := hat l ((i + j) / 2) hlen hhl
      (refine W0 (c14 t3 t130 t23 t37 @hwij @hh @hb @hp0 @hhl @hx0r @hxhr @hr @hrt @List.drop_zero.{0}) ?_; try with_reducible intro K hK)
      refine ⟨_, hf xh x0 _ _ hH0 ⟨rfl, rfl⟩, hK _ ?_⟩
      clear hK K; simp only [lp]
      (refine W0 t3 ?_; try with_reducible intro K hK)
      have hle := lessF_eq (c := c) hxh hx0
      refine sat_cond rfl (fun hd => ?_) (fun hd => ?_)
      · (refine W0 (c2 t3 @hwh) ?_; try with_reducible intro K hK)
        refine ⟨j - ((i + j) / 2 + 1), _, _, by omega, .weakFr ?_, (i + j) / 2 + 1, j, rfl, by omega, by omega, hjq, by rw [← bsF_yes hc (by rw [hle]; exact hd), hbs], rfl, rfl⟩
        simp only [le, ↓reduceIte, Nat.reduceEqDiff, and_true]; repeat' (first | exact trivial | exact D.le_refl _ | exact D.le_any _ | with_reducible refine And.intro ?_ ?_)
      · (refine W0 t3 ?_; try with_reducible intro K hK)
        refine ⟨(i + j) / 2 - i, _, _, by omega, .weakFr ?_, i, (i + j) / 2, rfl, hmi, by omega, by omega, by rw [← bsF_no hc (by rw [hle]; exact hd), hbs], rfl, rfl⟩
        simp only [le, ↓reduceIte, Nat.reduceEqDiff, and_true]; repeat' (first | exact trivial | exact D.le_refl _ | exact D.le_any _ | with_reducible refine And.intro ?_ ?_)
    · simp at hc
      obtain ⟨i0, rfl⟩ : ∃ i0, i = i0 + 1 := ⟨i - 1, by omega⟩
      rw [bsF_stop (by omega)] at hbs
      have hsym : symF c (N + 1) p m q l = upF (i0 - p) p l := by rw [symF, if_pos (by simp at hc1; omega), ← hbs]; rfl
      rw [hsym] at hK
      have hwi := wrap_pred (i := i0) (by omega)
      (refine W0 t3 ?_; try with_reducible intro K hK)
      refine sat_loop_ent (fun z ts H => ∃ (k : Nat) (xs : List α), z = i0 - k ∧ xs.length = len ∧ upF (i0 - k) k xs = upF (i0 - p) p l ∧
        ts = fr 220 [(13, .v (.int .i64 k)), (10, .v (.int .i64 (i0 + 1 : Nat))), (0, .own b ver len)] ∧ H = E.H0.set b (.arr ver 2 (xs.map r) 0)) (i0 - p) (ts0 := fr 220 [(13, .v (.int .i64 p)), (10, .v (.int .i64 (i0 + 1 : Nat))), (0, .own b ver len)]) (H0 := E.H0) (.weakFr ?_) ⟨p, l, rfl, hlen, rfl, rfl, (set_nop hb).symm⟩ ?_
      · simp only [le, ↓reduceIte, Nat.reduceEqDiff, and_true]; repeat' (first | exact trivial | exact D.le_refl _ | exact D.le_any _ | with_reducible refine And.intro ?_ ?_)
      rintro z ts H ⟨k, xs, rfl, hxl, hup, rfl, hHH⟩
      have hb1 : H[b]? = some (.arr ver 2 (xs.map r) 0) := by rw [hHH]; exact List.getElem?_set_self hlt
      have gs : ∀ o, (H.set b o)[b]? = some o := fun o => List.getElem?_set_self (by rw [hHH]; simpa using hlt)
      (refine W0 (c2 t3 @hwi) ?_; try with_reducible intro K hK)
      refine sat_cond rfl (fun hd => ?_) (fun hd => ?_)
      · simp at hd
        obtain ⟨x, hx, hxr⟩ := hat xs k hxl (by omega)
        obtain ⟨y, hy, hyr⟩ := hat xs (k + 1) hxl (by omega)
        have hwk := wrap_succ (i := k) (by omega)
        have hkl : k < len := by omega
        have hkl1 : k + 1 < len := by omega
        have hsw : ((xs.set k y).map r)[k + 1]? = some (r y) := hrow _ _ _ (by rw [List.getElem?_set_ne (by omega)]; exact hy)
        refine sat_skip ?_
        repeat (first | ((first | refine wi ?_ | refine wj ?_ | refine wk ?_ | refine wl ?_ | refine wm ?_ | refine wn ?_); simp only [lt, ↓reduceIte, Nat.reduceEqDiff]) | refine wo ?_)
        repeat refine wa ?_
        refine wo ?_
        refine sat_stay hM ?_
        (refine S0 (c2 (c19 t3 t23 t37 @hb1 @hyr @hxr @hwk @hkl @hkl1 @gs @hms @hsw @hcl @hr @hrt @hrd @List.drop_zero.{0} @List.take_zero.{0} @List.nil_append.{0}) (c2 @List.append_nil.{0} @List.set_set.{0})) ?_; try with_reducible intro K hK)
        (refine W0 (c2 t3 @hwk) ?_; try with_reducible intro K hK)
        refine ⟨i0 - (k + 1), _, _, by omega, .weakFr ?_, k + 1, swp xs k (k + 1), rfl, by rw [swp_len, hxl], by rw [← hup, show i0 - k = i0 - (k + 1) + 1 by omega]; rfl, rfl, ?_⟩
        · simp only [le, ↓reduceIte, Nat.reduceEqDiff, and_true]; repeat' (first | exact trivial | exact D.le_refl _ | exact D.le_any _ | with_reducible refine And.intro ?_ ?_)
        · rw [hHH, List.set_set, swp_eq hx hy]
      · simp at hd
        rw [show i0 - k = 0 by omega] at hup
        (refine W0 trivial ?_; try with_reducible intro K hK)
        refine Fin.here ?_
        rw [hHH, show xs = upF (i0 - p) p l from hup]; exact hK
  (refine W0 (c2 t3 @hwqm) ?_; try with_reducible intro K hK)
  refine sat_cond rfl (fun hc2 => ?_) (fun hc2 => ?_)
  · (refine W0 t3 ?_; try with_reducible intro K hK)
    obtain ⟨x0, hx0, hx0r⟩ := hat l m hlen hm0
    refine sat_loop_ent (fun z ts H => ∃ (i j : Nat), z = j - i ∧ p ≤ i ∧ i ≤ j ∧ j ≤ m ∧ bsF (fun h => !lessF c l m h) i j = bsF (fun h => !lessF c l m h) p m ∧
      ts = fr 220 [(15, .v (.int .i64 j)), (14, .v (.int .i64 i)), (4, .fn f caps), (3, .v (.int .i64 q)), (2, .v (.int .i64 m)), (1, .v (.int .i64 p)), (0, .own b ver len)] ∧ H = E.H0) (m - p) (.weakFr ?_) ⟨p, m, rfl, Nat.le_refl _, by omega, Nat.le_refl _, rfl, rfl, rfl⟩ ?_
    · simp only [le, ↓reduceIte, Nat.reduceEqDiff, and_true]; repeat' (first | exact trivial | exact D.le_refl _ | exact D.le_any _ | with_reducible refine And.intro ?_ ?_)
    rintro z ts H ⟨i, j, rfl, hmi, hij, hjq, hbs, rfl, rfl⟩
    (refine W0 t3 ?_; try with_reducible intro K hK)
    refine sat_cond rfl (fun hc => ?_) (fun hc => ?_)
    · simp at hc
      have hwij := wrap_addN (i := i) (j := j) (by omega)
      have hh := halfN (n := i + j) (by omega)
      have hhl : (i + j) / 2 < len := by omega
      have hwh := wrap_succ (i := (i + j) / 2) (by omega)
      obtain ⟨xh, hxh, hxhr⟩ := hat l ((i + j) / 2) hlen hhl
      (refine W0 (c14 t3 t130 t23 t37 @hwij @hh @hb @hm0 @hhl @hx0r @hxhr @hr @hrt @List.drop_zero.{0}) ?_; try with_reducible intro K hK)
      refine ⟨_, hf x0 xh _ _ hH0 ⟨rfl, rfl⟩, hK _ ?_⟩
      clear hK K; simp only [lp]
      (refine W0 t3 ?_; try with_reducible intro K hK)
      have hle := lessF_eq (c := c) hx0 hxh
      refine sat_cond rfl (fun hd => ?_) (fun hd => ?_)
      · (refine W0 (c2 t3 @hwh) ?_; try with_reducible intro K hK)
        refine ⟨j - ((i + j) / 2 + 1), _, _, by omega, .weakFr ?_, (i + j) / 2 + 1, j, rfl, by omega, by omega, hjq, by rw [← bsF_yes hc (by rw [hle]; exact hd), hbs], rfl, rfl⟩
        simp only [le, ↓reduceIte, Nat.reduceEqDiff, and_true]; repeat' (first | exact trivial | exact D.le_refl _ | exact D.le_any _ | with_reducible refine And.intro ?_ ?_)
      · (refine W0 t3 ?_; try with_reducible intro K hK)
        refine ⟨(i + j) / 2 - i, _, _, by omega, .weakFr ?_, i, (i + j) / 2, rfl, hmi, by omega, by omega, by rw [← bsF_no hc (by rw [hle]; exact hd), hbs], rfl, rfl⟩
        simp only [le, ↓reduceIte, Nat.reduceEqDiff, and_true]; repeat' (first | exact trivial | exact D.le_refl _ | exact D.le_any _ | with_reducible refine And.intro ?_ ?_)
    · simp at hc
      rw [bsF_stop (by omega)] at hbs
      have hsym : symF c (N + 1) p m q l = dnF (m - i) m l := by rw [symF, if_neg (by simp at hc1; omega), if_pos (by simp at hc2; omega), ← hbs]
      rw [hsym] at hK
      (refine W0 t3 ?_; try with_reducible intro K hK)
      refine sat_loop_ent (fun z ts H => ∃ (k : Nat) (xs : List α), z = k ∧ k ≤ m ∧ i ≤ k ∧ xs.length = len ∧ dnF (k - i) k xs = dnF (m - i) m l ∧
        ts = fr 220 [(17, .v (.int .i64 k)), (14, .v (.int .i64 i)), (0, .own b ver len)] ∧ H = E.H0.set b (.arr ver 2 (xs.map r) 0)) m (ts0 := fr 220 [(17, .v (.int .i64 m)), (14, .v (.int .i64 i)), (0, .own b ver len)]) (H0 := E.H0) (.weakFr ?_) ⟨m, l, rfl, Nat.le_refl _, by omega, hlen, rfl, rfl, (set_nop hb).symm⟩ ?_
      · simp only [le, ↓reduceIte, Nat.reduceEqDiff, and_true]; repeat' (first | exact trivial | exact D.le_refl _ | exact D.le_any _ | with_reducible refine And.intro ?_ ?_)
      rintro k ts H ⟨_, xs, rfl, hkm, hik, hxl, hdn, rfl, hHH⟩
      have hb1 : H[b]? = some (.arr ver 2 (xs.map r) 0) := by rw [hHH]; exact List.getElem?_set_self hlt
      have gs : ∀ o, (H.set b o)[b]? = some o := fun o => List.getElem?_set_self (by rw [hHH]; simpa using hlt)
      (refine W0 t3 ?_; try with_reducible intro K hK)
      refine sat_cond rfl (fun hd => ?_) (fun hd => ?_)
      · simp at hd
        obtain ⟨k0, rfl⟩ : ∃ k0, k = k0 + 1 := ⟨k - 1, by omega⟩
        have hkl : k0 < len := by omega
        have hkl1 : k0 + 1 < len := by omega
        obtain ⟨x, hx, hxr⟩ := hat xs k0 hxl hkl
        obtain ⟨y, hy, hyr⟩ := hat xs (k0 + 1) hxl hkl1
        have hwk := wrap_pred (i := k0) (by omega)
        have hsw : ((xs.set (k0 + 1) x).map r)[k0]? = some (r x) := hrow _ _ _ (by rw [List.getElem?_set_ne (by omega)]; exact hx)
        refine sat_skip ?_
        repeat (first | ((first | refine wi ?_ | refine wj ?_ | refine wk ?_ | refine wl ?_ | refine wm ?_ | refine wn ?_); simp only [lt, ↓reduceIte, Nat.reduceEqDiff]) | refine wo ?_)
        repeat refine wa ?_
        refine wo ?_
        refine sat_stay hM ?_
        (refine S0 (c2 (c19 t3 t23 t37 @hb1 @hyr @hxr @hwk @hkl @hkl1 @gs @hms @hsw @hcl @hr @hrt @hrd @List.drop_zero.{0} @List.take_zero.{0} @List.nil_append.{0}) (c2 @List.append_nil.{0} @List.set_set.{0})) ?_; try with_reducible intro K hK)
        (refine W0 (c2 t3 @hwk) ?_; try with_reducible intro K hK)
        refine ⟨k0, _, _, by omega, .weakFr ?_, k0, swp xs (k0 + 1) k0, rfl, by omega, by omega, by rw [swp_len, hxl], by rw [← hdn, show k0 + 1 - i = k0 - i + 1 by omega]; rfl, rfl, ?_⟩
        · simp only [le, ↓reduceIte, Nat.reduceEqDiff, and_true]; repeat' (first | exact trivial | exact D.le_refl _ | exact D.le_any _ | with_reducible refine And.intro ?_ ?_)
        · rw [hHH, List.set_set, swp_eq hy hx]
      · simp at hd
        rw [show k - i = 0 by omega] at hdn
        (refine W0 trivial ?_; try with_reducible intro K hK)
        refine Fin.here ?_
        rw [hHH, show xs = dnF (m - i) m l from hdn]; exact hK
  simp at hc1 hc2
  have hsym : ∀ s, s = symS c p m q l → symF c (N + 1) p m q l = (if (p + q) / 2 < (p + q) / 2 + m - s ∧ (p + q) / 2 + m - s < q then symF c N ((p + q) / 2) ((p + q) / 2 + m - s) q (if p < s ∧ s < (p + q) / 2 then symF c N p s ((p + q) / 2) (if s < m ∧ m < (p + q) / 2 + m - s then rotF m (m - s) ((p + q) / 2 + m - s - m) l else l) else (if s < m ∧ m < (p + q) / 2 + m - s then rotF m (m - s) ((p + q) / 2 + m - s - m) l else l)) else (if p < s ∧ s < (p + q) / 2 then symF c N p s ((p + q) / 2) (if s < m ∧ m < (p + q) / 2 + m - s then rotF m (m - s) ((p + q) / 2 + m - s - m) l else l) else (if s < m ∧ m < (p + q) / 2 + m - s then rotF m (m - s) ((p + q) / 2 + m - s - m) l else l))) := fun s hs => by
    rw [symF, if_neg (by omega), if_neg (by omega)]; subst hs; rfl
  obtain ⟨mid, hmid⟩ : ∃ mid, mid = (p + q) / 2 := ⟨_, rfl⟩
  obtain ⟨n, hn⟩ : ∃ n, mid + m = n + 1 := ⟨mid + m - 1, by omega⟩
  have hwpq := wrap_addN (i := p) (j := q) (by omega)
  have hh0 := halfN (n := p + q) (by omega)
  have hwn := wrap_addN (i := mid) (j := m) (by omega)
  rw [← hmid] at hh0
  rw [hn] at hwn
  obtain ⟨tt, htt⟩ : ∃ tt : Nat → Bool, tt = fun h => !lessF c l ((p + q) / 2 + m - 1 - h) h := ⟨_, rfl⟩
  have hS : symS c p m q l = if m > (p + q) / 2 then bsF tt ((p + q) / 2 + m - q) ((p + q) / 2) else bsF tt p m := by rw [symS, htt]
  rw [← hmid] at hS htt
  (refine W0 (c5 t3 t130 @hwpq @hh0 @hwn) ?_; try with_reducible intro K hK)
  refine sat_thruF (ι := Nat × Nat) (fun x => p ≤ x.1 ∧ x.1 ≤ x.2 ∧ x.2 ≤ m ∧ n + 1 - x.1 ≤ q ∧ x.2 ≤ n + 1 ∧ bsF tt x.1 x.2 = symS c p m q l) (fun x => fr 220 [(21, .v (.int .i64 x.2)), (20, .v (.int .i64 x.1)), (19, .v (.int .i64 (n + 1 : Nat))), (18, .v (.int .i64 mid)), (4, .fn f caps), (3, .v (.int .i64 q)), (2, .v (.int .i64 m)), (1, .v (.int .i64 p)), (0, .own b ver len)]) (fun _ => E.H0) ?_ ?_
  · refine sat_cond rfl (fun hd => ?_) (fun hd => ?_)
    · simp at hd
      have hw := wrap_subN (i := n + 1) (j := q) (by omega) (by omega)
      (refine W0 (c2 t3 @hw) ?_; try with_reducible intro K hK)
      refine ⟨(n + 1 - q, mid), ⟨by omega, by omega, by omega, by omega, by omega, by rw [hS, if_pos hd, hn]⟩, .weakFr ?_⟩
      simp only [le, ↓reduceIte, Nat.reduceEqDiff, and_true]; repeat' (first | exact trivial | exact D.le_refl _ | exact D.le_any _ | with_reducible refine And.intro ?_ ?_)
    · simp at hd
      (refine W0 t3 ?_; try with_reducible intro K hK)
      refine ⟨(p, m), ⟨by omega, by omega, by omega, by omega, by omega, by rw [hS, if_neg (by omega)]⟩, .weakFr ?_⟩
      simp only [le, ↓reduceIte, Nat.reduceEqDiff, and_true]; repeat' (first | exact trivial | exact D.le_refl _ | exact D.le_any _ | with_reducible refine And.intro ?_ ?_)
  rintro ⟨s0, r0⟩ ⟨hs1, hs2, hs3, hs4, hs5, hs6⟩
  simp only at hs1 hs2 hs3 hs4 hs5 hs6
  have hwp := wrap_pred (i := n) (by omega)
  (refine W0 (c2 t3 @hwp) ?_; try with_reducible intro K hK)
  refine sat_loop_ent (fun z ts H => ∃ (s t : Nat), z = t - s ∧ s0 ≤ s ∧ s ≤ t ∧ t ≤ r0 ∧ bsF tt s t = symS c p m q l ∧
    ts = fr 220 [(22, .v (.int .i64 n)), (21, .v (.int .i64 t)), (20, .v (.int .i64 s)), (19, .v (.int .i64 (n + 1 : Nat))), (18, .v (.int .i64 mid)), (4, .fn f caps), (3, .v (.int .i64 q)), (2, .v (.int .i64 m)), (1, .v (.int .i64 p)), (0, .own b ver len)] ∧ H = E.H0) (r0 - s0) (.weakFr ?_) ⟨s0, r0, rfl, Nat.le_refl _, hs2, Nat.le_refl _, hs6, rfl, rfl⟩ ?_
  · simp only [le, ↓reduceIte, Nat.reduceEqDiff, and_true]; repeat' (first | exact trivial | exact D.le_refl _ | exact D.le_any _ | with_reducible refine And.intro ?_ ?_)
  rintro z ts H ⟨s, t, rfl, hss, hst, htr, hbs, rfl, rfl⟩
  (refine W0 t3 ?_; try with_reducible intro K hK)
  refine sat_cond rfl (fun hc => ?_) (fun hc => ?_)
  · simp at hc
    have hwst := wrap_addN (i := s) (j := t) (by omega)
    have hh := halfN (n := s + t) (by omega)
    have hhl : (s + t) / 2 < len := by omega
    have hwh := wrap_succ (i := (s + t) / 2) (by omega)
    have hwc := wrap_subN (i := n) (j := (s + t) / 2) (by omega) (by omega)
    have hwl : n - (s + t) / 2 < len := by omega
    obtain ⟨xh, hxh, hxhr⟩ := hat l ((s + t) / 2) hlen hhl
    obtain ⟨xk, hxk, hxkr⟩ := hat l (n - (s + t) / 2) hlen hwl
    (refine W0 (c15 t3 t130 t23 t37 @hwst @hh @hwc @hb @hhl @hwl @hxhr @hxkr @hr @hrt @List.drop_zero.{0}) ?_; try with_reducible intro K hK)
    refine ⟨_, hf xk xh _ _ hH0 ⟨rfl, rfl⟩, hK _ ?_⟩
    clear hK K; simp only [lp]
    (refine W0 t3 ?_; try with_reducible intro K hK)
    have hle : tt ((s + t) / 2) = !decide (c xk xh < 0) := by
      rw [htt]
      show (!lessF c l (mid + m - 1 - (s + t) / 2) ((s + t) / 2)) = _
      rw [show mid + m - 1 - (s + t) / 2 = n - (s + t) / 2 by omega, lessF_eq hxk hxh]
    refine sat_cond rfl (fun hd => ?_) (fun hd => ?_)
    · (refine W0 (c2 t3 @hwh) ?_; try with_reducible intro K hK)
      refine ⟨t - ((s + t) / 2 + 1), _, _, by omega, .weakFr ?_, (s + t) / 2 + 1, t, rfl, by omega, by omega, htr, by rw [← bsF_yes hc (by rw [hle]; exact hd), hbs], rfl, rfl⟩
      simp only [le, ↓reduceIte, Nat.reduceEqDiff, and_true]; repeat' (first | exact trivial | exact D.le_refl _ | exact D.le_any _ | with_reducible refine And.intro ?_ ?_)
    · (refine W0 t3 ?_; try with_reducible intro K hK)
      refine ⟨(s + t) / 2 - s, _, _, by omega, .weakFr ?_, s, (s + t) / 2, rfl, hss, by omega, by omega, by rw [← bsF_no hc (by rw [hle]; exact hd), hbs], rfl, rfl⟩
      simp only [le, ↓reduceIte, Nat.reduceEqDiff, and_true]; repeat' (first | exact trivial | exact D.le_refl _ | exact D.le_any _ | with_reducible refine And.intro ?_ ?_)
  simp at hc
  rw [bsF_stop (by omega)] at hbs
  have hsym := hsym s hbs
  rw [← hmid, hn] at hsym
  rw [hsym] at hK
  clear hsym hS htt
  have hwe := wrap_subN (i := n + 1) (j := s) (by omega) (by omega)
  (refine W0 (c2 t3 @hwe) ?_; try with_reducible intro K hK)
  have hset : ∀ xs : List α, (E.H0.set b (.arr ver 2 (xs.map r) 0))[b]? = some (.arr ver 2 (xs.map r) 0) := fun xs => List.getElem?_set_self hlt
  have hoth : ∀ (o : Ob) (j : Nat), j ≠ b → (E.H0.set b o)[j]? = Hs[j]? := fun o j hj => by rw [List.getElem?_set_ne (Ne.symm hj)]; exact hH0 j hj
  refine sat_thru (fr 220 [(185, .v (.bool (decide (s < m) && decide (m < n + 1 - s)))), (24, .v (.int .i64 (n + 1 - s : Nat))), (20, .v (.int .i64 s)), (18, .v (.int .i64 mid)), (4, .fn f caps), (3, .v (.int .i64 q)), (2, .v (.int .i64 m)), (1, .v (.int .i64 p)), (0, .own b ver len)]) E.H0 ?_ ?_
  · by_cases hg : s < m
    · have hgt : decide (s < m) = true := by simp; omega
      (first | refine wr ?_ | refine wp rfl hM ?_ | refine wq hM ?_); repeat' (first | (refine G0 (c2 t3 @hgt) ?_; try with_reducible intro K hK) | ((first | refine Xs rfl rfl (by decide) rfl (fun h => ?_) fun h => ?_ | refine Ys rfl rfl (by decide) rfl (fun h => ?_) fun h => ?_ | refine Zs rfl rfl rfl (by decide) rfl (fun h => ?_) fun h => ?_); rotate_left; (focus (simp only [Bool.not_true, Bool.not_false, lp])); rotate_left))
      refine .weakFr ?_
      rw [hgt]
      simp only [le, ↓reduceIte, Nat.reduceEqDiff, and_true]; repeat' (first | exact trivial | exact D.le_refl _ | exact D.le_any _ | with_reducible refine And.intro ?_ ?_)
    · have hgt : decide (s < m) = false := by simp; omega
      (first | refine wr ?_ | refine wp rfl hM ?_ | refine wq hM ?_); repeat' (first | (refine G0 (c2 t3 @hgt) ?_; try with_reducible intro K hK) | ((first | refine Xs rfl rfl (by decide) rfl (fun h => ?_) fun h => ?_ | refine Ys rfl rfl (by decide) rfl (fun h => ?_) fun h => ?_ | refine Zs rfl rfl rfl (by decide) rfl (fun h => ?_) fun h => ?_); rotate_left; (focus (simp only [Bool.not_true, Bool.not_false, lp])); rotate_left))
      refine .weakFr ?_
      rw [hgt]
      simp only [le, ↓reduceIte, Nat.reduceEqDiff, and_true]; repeat' (first | exact trivial | exact D.le_refl _ | exact D.le_any _ | with_reducible refine And.intro ?_ ?_)
  refine sat_thruF (ι := List α) (fun xs => xs.length = len ∧ xs = (if s < m ∧ m < n + 1 - s then rotF m (m - s) (n + 1 - s - m) l else l)) (fun _ => fr 220 [(24, .v (.int .i64 (n + 1 - s : Nat))), (20, .v (.int .i64 s)), (18, .v (.int .i64 mid)), (4, .fn f caps), (3, .v (.int .i64 q)), (2, .v (.int .i64 m)), (1, .v (.int .i64 p)), (0, .own b ver len)]) (fun xs => E.H0.set b (.arr ver 2 (xs.map r) 0)) ?_ ?_
  · refine sat_cond rfl (fun hd => ?_) (fun hd => ?_)
    · simp at hd
      (refine W0 trivial ?_; try with_reducible intro K hK)
      refine spec_rotateSlv r hr hcl f caps l b ver len s m (n + 1 - s) hlen (by omega) (by omega) (by omega) hl _ hb _ (hK _ _ ?_)
      clear hK K; simp only [lp]
      (refine W0 trivial ?_; try with_reducible intro K hK)
      refine ⟨rotF m (m - s) (n + 1 - s - m) l, ⟨by rw [(rotF_perm m (m - s) (n + 1 - s - m) l).length_eq, hlen], by rw [if_pos hd]⟩, .weakFr ?_⟩
      simp only [le, ↓reduceIte, Nat.reduceEqDiff, and_true]; repeat' (first | exact trivial | exact D.le_refl _ | exact D.le_any _ | with_reducible refine And.intro ?_ ?_)
    · (refine W0 trivial ?_; try with_reducible intro K hK)
      refine ⟨l, ⟨hlen, by rw [if_neg (by simpa using hd)]⟩, ?_⟩
      rw [set_nop hb]
      refine .weakFr ?_
      simp only [le, ↓reduceIte, Nat.reduceEqDiff, and_true]; repeat' (first | exact trivial | exact D.le_refl _ | exact D.le_any _ | with_reducible refine And.intro ?_ ?_)
  rintro ys ⟨hyl, hys⟩
  rw [← hys] at hK
  repeat (first | ((first | refine wi ?_ | refine wj ?_ | refine wk ?_ | refine wl ?_ | refine wm ?_ | refine wn ?_); simp only [lt, ↓reduceIte, Nat.reduceEqDiff]) | refine wo ?_)
  repeat refine wa ?_
  refine sat_thru (fr 220 [(199, .v (.bool (decide (p < s) && decide (s < mid)))), (24, .v (.int .i64 (n + 1 - s : Nat))), (20, .v (.int .i64 s)), (18, .v (.int .i64 mid)), (4, .fn f caps), (3, .v (.int .i64 q)), (2, .v (.int .i64 m)), (1, .v (.int .i64 p)), (0, .own b ver len)]) (E.H0.set b (.arr ver 2 (ys.map r) 0)) ?_ ?_
  · by_cases hg : p < s
    · have hgt : decide (p < s) = true := by simp; omega
      (first | refine wr ?_ | refine wp rfl hM ?_ | refine wq hM ?_); repeat' (first | (refine G0 (c2 t3 @hgt) ?_; try with_reducible intro K hK) | ((first | refine Xs rfl rfl (by decide) rfl (fun h => ?_) fun h => ?_ | refine Ys rfl rfl (by decide) rfl (fun h => ?_) fun h => ?_ | refine Zs rfl rfl rfl (by decide) rfl (fun h => ?_) fun h => ?_); rotate_left; (focus (simp only [Bool.not_true, Bool.not_false, lp])); rotate_left))
      refine .weakFr ?_
      rw [hgt]
      simp only [le, ↓reduceIte, Nat.reduceEqDiff, and_true]; repeat' (first | exact trivial | exact D.le_refl _ | exact D.le_any _ | with_reducible refine And.intro ?_ ?_)
    · have hgt : decide (p < s) = false := by simp; omega
      (first | refine wr ?_ | refine wp rfl hM ?_ | refine wq hM ?_); repeat' (first | (refine G0 (c2 t3 @hgt) ?_; try with_reducible intro K hK) | ((first | refine Xs rfl rfl (by decide) rfl (fun h => ?_) fun h => ?_ | refine Ys rfl rfl (by decide) rfl (fun h => ?_) fun h => ?_ | refine Zs rfl rfl rfl (by decide) rfl (fun h => ?_) fun h => ?_); rotate_left; (focus (simp only [Bool.not_true, Bool.not_false, lp])); rotate_left))
      refine .weakFr ?_
      rw [hgt]
      simp only [le, ↓reduceIte, Nat.reduceEqDiff, and_true]; repeat' (first | exact trivial | exact D.le_refl _ | exact D.le_any _ | with_reducible refine And.intro ?_ ?_)
  refine sat_thruF (ι := List α) (fun xs => xs.length = len ∧ xs = if p < s ∧ s < mid then symF c N p s mid ys else ys) (fun _ => fr 220 [(24, .v (.int .i64 (n + 1 - s : Nat))), (20, .v (.int .i64 s)), (18, .v (.int .i64 mid)), (4, .fn f caps), (3, .v (.int .i64 q)), (2, .v (.int .i64 m)), (1, .v (.int .i64 p)), (0, .own b ver len)]) (fun xs => E.H0.set b (.arr ver 2 (xs.map r) 0)) ?_ ?_
  · refine sat_cond rfl (fun hd => ?_) (fun hd => ?_)
    · simp at hd
      (refine W0 trivial ?_; try with_reducible intro K hK)
      refine ih p s mid ys _ _ (by omega) (by omega) (by omega) (by omega) hyl (hset ys) (hoth _) (hK _ _ ?_)
      clear hK K; simp only [lp]
      (refine W0 trivial ?_; try with_reducible intro K hK)
      refine ⟨symF c N p s mid ys, ⟨by rw [(symF_perm c N p s mid ys).length_eq, hyl], by rw [if_pos hd]⟩, ?_⟩
      rw [List.set_set]
      refine .weakFr ?_
      simp only [le, ↓reduceIte, Nat.reduceEqDiff, and_true]; repeat' (first | exact trivial | exact D.le_refl _ | exact D.le_any _ | with_reducible refine And.intro ?_ ?_)
    · (refine W0 trivial ?_; try with_reducible intro K hK)
      refine ⟨ys, ⟨hyl, by rw [if_neg (by simpa using hd)]⟩, .weakFr ?_⟩
      simp only [le, ↓reduceIte, Nat.reduceEqDiff, and_true]; repeat' (first | exact trivial | exact D.le_refl _ | exact D.le_any _ | with_reducible refine And.intro ?_ ?_)
  rintro zs ⟨hzl, hzs⟩
  rw [← hzs] at hK
  repeat (first | ((first | refine wi ?_ | refine wj ?_ | refine wk ?_ | refine wl ?_ | refine wm ?_ | refine wn ?_); simp only [lt, ↓reduceIte, Nat.reduceEqDiff]) | refine wo ?_)
  repeat refine wa ?_
  refine sat_thru (fr 220 [(213, .v (.bool (decide (mid < n + 1 - s) && decide (n + 1 - s < q)))), (24, .v (.int .i64 (n + 1 - s : Nat))), (20, .v (.int .i64 s)), (18, .v (.int .i64 mid)), (4, .fn f caps), (3, .v (.int .i64 q)), (2, .v (.int .i64 m)), (1, .v (.int .i64 p)), (0, .own b ver len)]) (E.H0.set b (.arr ver 2 (zs.map r) 0)) ?_ ?_
  · by_cases hg : mid < n + 1 - s
    · have hgt : decide (mid < n + 1 - s) = true := by simp; omega
      (first | refine wr ?_ | refine wp rfl hM ?_ | refine wq hM ?_); repeat' (first | (refine G0 (c2 t3 @hgt) ?_; try with_reducible intro K hK) | ((first | refine Xs rfl rfl (by decide) rfl (fun h => ?_) fun h => ?_ | refine Ys rfl rfl (by decide) rfl (fun h => ?_) fun h => ?_ | refine Zs rfl rfl rfl (by decide) rfl (fun h => ?_) fun h => ?_); rotate_left; (focus (simp only [Bool.not_true, Bool.not_false, lp])); rotate_left))
      refine .weakFr ?_
      rw [hgt]
      simp only [le, ↓reduceIte, Nat.reduceEqDiff, and_true]; repeat' (first | exact trivial | exact D.le_refl _ | exact D.le_any _ | with_reducible refine And.intro ?_ ?_)
    · have hgt : decide (mid < n + 1 - s) = false := by simp; omega
      (first | refine wr ?_ | refine wp rfl hM ?_ | refine wq hM ?_); repeat' (first | (refine G0 (c2 t3 @hgt) ?_; try with_reducible intro K hK) | ((first | refine Xs rfl rfl (by decide) rfl (fun h => ?_) fun h => ?_ | refine Ys rfl rfl (by decide) rfl (fun h => ?_) fun h => ?_ | refine Zs rfl rfl rfl (by decide) rfl (fun h => ?_) fun h => ?_); rotate_left; (focus (simp only [Bool.not_true, Bool.not_false, lp])); rotate_left))
      refine .weakFr ?_
      rw [hgt]
      simp only [le, ↓reduceIte, Nat.reduceEqDiff, and_true]; repeat' (first | exact trivial | exact D.le_refl _ | exact D.le_any _ | with_reducible refine And.intro ?_ ?_)
  refine sat_cond rfl (fun hd => ?_) (fun hd => ?_)
  · simp at hd
    (refine W0 trivial ?_; try with_reducible intro K hK)
    refine ih mid (n + 1 - s) q zs _ _ (by omega) (by omega) (by omega) (by omega) hzl (hset zs) (hoth _) (hK _ _ ?_)
    clear hK K; simp only [lp]
    (refine W0 trivial ?_; try with_reducible intro K hK)
    refine Fin.here ?_
    rw [if_pos hd] at hK
    rw [List.set_set]; exact hK
  · rw [if_neg (by simpa using hd)] at hK
    (refine W0 trivial ?_; try with_reducible intro K hK)
    exact Fin.here hK
end Go.Ag
namespace Go.Ag
open Go Go.Proofs
variable {G : Nat → Option (List V)}
attribute [local irreducible] aops qops Sat aop

set_option maxRecDepth 20000 in
set_option maxHeartbeats 16000000 in
theorem spec_stableSlv {α : Type} (r : α → List D) (hr : ∀ x, (r x).length = 2) (hcl : ∀ x, (r x).all D.cell = true) (c : α → α → Int) (f : FuncId) (caps : List D) (l : List α) (b ver len : Nat) (hlen : l.length = len) (hl : len ≤ 1000000) (H : List Ob) (hb : H[b]? = some (.arr ver 2 (l.map r) 0))
    (hf : ∀ x y (H' : List Ob) (K : D → List Ob → Prop), (∀ j, j ≠ b → H'[j]? = H[j]?) → K (.v (.int .i64 (c x y))) H' → ACalls Tryz.prog G f (.agg (r x) :: .agg (r y) :: caps) H' K)
    (K : D → List Ob → Prop) (hK : K (.tup []) (H.set b (.arr ver 2 ((stab c l).map r) 0))) : ACalls Tryz.prog G 128 [.own b ver len, .v (.int .i64 len), .fn f caps] H K := by
  have hlt := (List.getElem?_eq_some_iff.1 hb).1
  refine ACalls.go Tryz.f128 _ 63 [] Tryz.func128 rfl Tryz.ntmps128 (by kernel_rfl) rfl (by simp) (fun E hE hP hG hH => ?_)
  have hM : E.P.follows .mixedOrders = true := hP ▸ mixed
  subst hH
  have hset : ∀ xs : List α, (E.H0.set b (.arr ver 2 (xs.map r) 0))[b]? = some (.arr ver 2 (xs.map r) 0) := fun xs => List.getElem?_set_self hlt
  have hoth : ∀ (o : Ob) (j : Nat), j ≠ b → (E.H0.set b o)[j]? = E.H0[j]? := fun o j hj => by rw [List.getElem?_set_ne (Ne.symm hj)]
  have hfo : ∀ (o : Ob) (x y : α) (H' : List Ob) (K : D → List Ob → Prop), (∀ j, j ≠ b → H'[j]? = (E.H0.set b o)[j]?) → K (.v (.int .i64 (c x y))) H' → ACalls Tryz.prog G f (.agg (r x) :: .agg (r y) :: caps) H' K := fun o x y H' K h hk => hf x y H' K (fun j hj => by rw [h j hj, hoth o j hj]) hk
  simp only [args0]
  (refine W0 t3 ?_; try with_reducible intro K hK)
  refine sat_loop_ent (fun z ts H => ∃ (a : Nat) (xs : List α), z = len - a ∧ a ≤ len ∧ xs.length = len ∧ st1 c len a xs = st1 c len 0 l ∧
    ts = fr 63 [(8, .v (.int .i64 (a + 20 : Nat))), (7, .v (.int .i64 a)), (6, .v (.int .i64 20)), (2, .fn f caps), (1, .v (.int .i64 len)), (0, .own b ver len)] ∧ H = E.H0.set b (.arr ver 2 (xs.map r) 0)) len (ts0 := fr 63 [(8, .v (.int .i64 (0 + 20 : Nat))), (7, .v (.int .i64 (0 : Nat))), (6, .v (.int .i64 20)), (2, .fn f caps), (1, .v (.int .i64 len)), (0, .own b ver len)]) (H0 := E.H0) (.weakFr ?_) ⟨0, l, rfl, Nat.zero_le _, hlen, rfl, rfl, (set_nop hb).symm⟩ ?_
  · simp only [le, ↓reduceIte, Nat.reduceEqDiff, and_true]; repeat' (first | exact trivial | exact D.le_refl _ | exact D.le_any _ | with_reducible refine And.intro ?_ ?_)
  rintro z ts H ⟨a, xs, rfl, hal, hxl, hst, rfl, rfl⟩
  (refine W0 t3 ?_; try with_reducible intro K hK)
  refine sat_cond rfl (fun hc => ?_) (fun hc => ?_)
  · simp at hc
    have hw : IntKind.i64.wrap (((a + 20 : Nat) : Int) + 20) = ((a + 20 + 20 : Nat) : Int) := by rw [IntKind.wrap_i64]; omega
    (refine W0 t3 ?_; try with_reducible intro K hK)
    refine spec_insertionSlv r hr hcl c f caps xs b ver len a (a + 20) hxl (by omega) (by omega) hl (by omega) _ (hset xs) (hfo _) _ (hK _ _ ?_)
    clear hK K; simp only [lp]
    rw [List.set_set]
    (refine W0 (c2 t3 @hw) ?_; try with_reducible intro K hK)
    refine ⟨len - (a + 20), _, _, by omega, .weakFr ?_, a + 20, isort c a (a + 20) xs, rfl, by omega, by rw [(isort_perm c a (a + 20) xs).length_eq, hxl], by rw [← hst]; conv => rhs; rw [st1, if_pos hc]
      , rfl, rfl⟩
    simp only [le, ↓reduceIte, Nat.reduceEqDiff, and_true]; repeat' (first | exact trivial | exact D.le_refl _ | exact D.le_any _ | with_reducible refine And.intro ?_ ?_)
  simp at hc
  (refine W0 t3 ?_; try with_reducible intro K hK)
  refine spec_insertionSlv r hr hcl c f caps xs b ver len a len hxl (by omega) (Nat.le_refl _) hl (by omega) _ (hset xs) (hfo _) _ (hK _ _ ?_)
  clear hK K; simp only [lp]
  rw [List.set_set]
  obtain ⟨zs, hzs⟩ : ∃ zs, zs = isort c a len xs := ⟨_, rfl⟩
  rw [← hzs]
  rw [st1, if_neg (by omega)] at hst
  have hzl : zs.length = len := by rw [hzs, (isort_perm c a len xs).length_eq, hxl]
  have hstab : stab c l = st2 c len 20 zs := by rw [stab, hlen, ← hst, hzs]
  rw [hstab] at hK
  (refine W0 t3 ?_; try with_reducible intro K hK)
  refine sat_loop_ent (fun z ts H => ∃ (s : Nat) (xs : List α), z = len - s ∧ 20 ≤ s ∧ s ≤ 2000000 ∧ xs.length = len ∧ st2 c len s xs = st2 c len 20 zs ∧
    ts = fr 63 [(6, .v (.int .i64 s)), (2, .fn f caps), (1, .v (.int .i64 len)), (0, .own b ver len)] ∧ H = E.H0.set b (.arr ver 2 (xs.map r) 0)) (len - 20) (ts0 := fr 63 [(6, .v (.int .i64 (20 : Nat))), (2, .fn f caps), (1, .v (.int .i64 len)), (0, .own b ver len)]) (H0 := E.H0.set b (.arr ver 2 (zs.map r) 0)) (.weakFr ?_) ⟨20, zs, rfl, Nat.le_refl _, by omega, hzl, rfl, rfl, rfl⟩ ?_
  · simp only [le, ↓reduceIte, Nat.reduceEqDiff, and_true]; repeat' (first | exact trivial | exact D.le_refl _ | exact D.le_any _ | with_reducible refine And.intro ?_ ?_)
  rintro z ts H ⟨s, ys, rfl, hs20, hs2, hyl, hye, rfl, rfl⟩
  (refine W0 t3 ?_; try with_reducible intro K hK)
  refine sat_cond rfl (fun hd => ?_) (fun hd => ?_)
  · simp at hd
    have hw2 : IntKind.i64.wrap (2 * (s : Int)) = ((2 * s : Nat) : Int) := by rw [IntKind.wrap_i64]; omega
    have hw3 : IntKind.i64.wrap ((s : Int) * 2) = ((s * 2 : Nat) : Int) := by rw [IntKind.wrap_i64]; omega
    (refine W0 (c2 t3 @hw2) ?_; try with_reducible intro K hK)
    refine sat_loop_ent (fun z ts H => ∃ (a : Nat) (xs : List α), z = len - a ∧ a ≤ len ∧ xs.length = len ∧ st3 c len s a xs = st3 c len s 0 ys ∧
      ts = fr 63 [(8, .v (.int .i64 (a + 2 * s : Nat))), (7, .v (.int .i64 a)), (6, .v (.int .i64 s)), (2, .fn f caps), (1, .v (.int .i64 len)), (0, .own b ver len)] ∧ H = E.H0.set b (.arr ver 2 (xs.map r) 0)) len (ts0 := fr 63 [(8, .v (.int .i64 (2 * s : Nat))), (7, .v (.int .i64 (0 : Nat))), (6, .v (.int .i64 s)), (2, .fn f caps), (1, .v (.int .i64 len)), (0, .own b ver len)]) (H0 := E.H0.set b (.arr ver 2 (ys.map r) 0)) (.weakFr ?_) ⟨0, ys, rfl, Nat.zero_le _, hyl, rfl, by rw [Nat.zero_add], rfl⟩ ?_
    · simp only [le, ↓reduceIte, Nat.reduceEqDiff, and_true]; repeat' (first | exact trivial | exact D.le_refl _ | exact D.le_any _ | with_reducible refine And.intro ?_ ?_)
    rintro z ts H ⟨a, xs, rfl, hal, hxl, hs3, rfl, rfl⟩
    (refine W0 t3 ?_; try with_reducible intro K hK)
    refine sat_cond rfl (fun hc => ?_) (fun hc => ?_)
    · simp at hc
      have hwa := wrap_addN (i := a) (j := s) (by omega)
      have hwb := wrap_addN (i := a + 2 * s) (j := 2 * s) (by omega)
      (refine W0 (c2 t3 @hwa) ?_; try with_reducible intro K hK)
      refine spec_symMergeSlv r hr hcl c f caps b ver len hl E.H0 hf (2 * s) a (a + s) (a + 2 * s) xs _ _ (by omega) (by omega) (by omega) (by omega) hxl (hset xs) (hoth _) (hK _ _ ?_)
      clear hK K; simp only [lp]
      rw [List.set_set]
      (refine W0 (c3 t3 @hw2 @hwb) ?_; try with_reducible intro K hK)
      refine ⟨len - (a + 2 * s), _, _, by omega, .weakFr ?_, a + 2 * s, symF c (2 * s) a (a + s) (a + 2 * s) xs, rfl, by omega, by rw [(symF_perm c (2 * s) a (a + s) (a + 2 * s) xs).length_eq, hxl], by rw [← hs3]; conv => rhs; rw [st3, dif_pos ⟨hc, by omega⟩]
        , rfl, rfl⟩
      simp only [le, ↓reduceIte, Nat.reduceEqDiff, and_true]; repeat' (first | exact trivial | exact D.le_refl _ | exact D.le_any _ | with_reducible refine And.intro ?_ ?_)
    simp at hc
    rw [st3, dif_neg (by omega)] at hs3
    have hwa := wrap_addN (i := a) (j := s) (by omega)
    (refine W0 (c2 t3 @hwa) ?_; try with_reducible intro K hK)
    refine sat_thruF (ι := List α) (fun ws => ws.length = len ∧ ws = st4 c len s (a, xs)) (fun _ => fr 63 [(6, .v (.int .i64 s)), (2, .fn f caps), (1, .v (.int .i64 len)), (0, .own b ver len)]) (fun xs => E.H0.set b (.arr ver 2 (xs.map r) 0)) ?_ ?_
    · refine sat_cond rfl (fun he => ?_) (fun he => ?_)
      · simp at he
        (refine W0 t3 ?_; try with_reducible intro K hK)
        refine spec_symMergeSlv r hr hcl c f caps b ver len hl E.H0 hf (len - a) a (a + s) len xs _ _ (Nat.le_refl _) (by omega) (by omega) (Nat.le_refl _) hxl (hset xs) (hoth _) (hK _ _ ?_)
        clear hK K; simp only [lp]
        rw [List.set_set]
        (refine W0 trivial ?_; try with_reducible intro K hK)
        refine ⟨symF c (len - a) a (a + s) len xs, ⟨by rw [(symF_perm c (len - a) a (a + s) len xs).length_eq, hxl], by rw [st4, if_pos he]⟩, .weakFr ?_⟩
        simp only [le, ↓reduceIte, Nat.reduceEqDiff, and_true]; repeat' (first | exact trivial | exact D.le_refl _ | exact D.le_any _ | with_reducible refine And.intro ?_ ?_)
      · (refine W0 trivial ?_; try with_reducible intro K hK)
        refine ⟨xs, ⟨hxl, by rw [st4, if_neg (by simpa using he)]⟩, .weakFr ?_⟩
        simp only [le, ↓reduceIte, Nat.reduceEqDiff, and_true]; repeat' (first | exact trivial | exact D.le_refl _ | exact D.le_any _ | with_reducible refine And.intro ?_ ?_)
    rintro ws ⟨hwl, hws⟩
    (refine W0 (c2 t3 @hw3) ?_; try with_reducible intro K hK)
    refine ⟨len - s * 2, _, _, by omega, .weakFr ?_, s * 2, ws, rfl, by omega, by omega, hwl, by rw [← hye, hws, hs3]; conv => rhs; rw [st2, dif_pos ⟨hd, by omega⟩]
      , rfl, rfl⟩
    simp only [le, ↓reduceIte, Nat.reduceEqDiff, and_true]; repeat' (first | exact trivial | exact D.le_refl _ | exact D.le_any _ | with_reducible refine And.intro ?_ ?_)
  · simp at hd
    (refine W0 trivial ?_; try with_reducible intro K hK)
    rw [st2, dif_neg (by omega)] at hye
    rw [← hye] at hK
    exact Fin.here hK
end Go.Ag
namespace Go.Ag
open Go Go.Proofs
variable {G : Nat → Option (List V)}
attribute [local irreducible] aops qops Sat aop

def choD (c : Cho) : D := .agg [.v (.str c.path), .v (.int .i64 c.prio), .v (strs c.slaves)]
def choR (c : Cho) : List V := [.str c.path, .int .i64 c.prio, strs c.slaves]
def better (a b : Cho) : Bool := decide (a.prio > b.prio) || (a.prio == b.prio && Op.bytesLess a.path b.path)
def cho0 : Cho := ⟨[], 0, []⟩
def bestN (l : List Cho) : Nat → Int
  | 0 => -1
  | i + 1 => if decide (bestN l i < 0) || better (l.getD i cho0) (l.getD (bestN l i).toNat cho0) then i else bestN l i
theorem bestN_rng (l : List Cho) : ∀ i, bestN l i = -1 ∧ i = 0 ∨ ∃ k : Nat, bestN l i = k ∧ k < i
  | 0 => .inl ⟨rfl, rfl⟩
  | i + 1 => by
    right
    unfold bestN
    split
    · exact ⟨i, rfl, by omega⟩
    · rename_i h
      rcases bestN_rng l i with ⟨h1, h2⟩ | ⟨k, h1, h2⟩
      · rw [h1] at h; simp at h
      · exact ⟨k, h1, by omega⟩
def best (l : List Cho) : Int := bestN l l.length

set_option maxHeartbeats 4000000 in
theorem spec_better (a b : Cho) (H : List Ob) (K : D → List Ob → Prop) (hK : K (.v (.bool (better a b))) H) : ACalls Tryz.prog G 47 [choD a, choD b] H K := by
  refine ACalls.go Tryz.f47 _ 24 [4] Tryz.func47 rfl Tryz.ntmps47 (by kernel_rfl) rfl (by simp) (fun E hE hP hG hH => ?_)
  have hM : E.P.follows .mixedOrders = true := hP ▸ mixed
  subst hH
  simp only [args0, choD]
  (refine W0 (c3 t3 t9 t46) ?_; try with_reducible intro K hK)
  refine sat_thru (fr 24 [(4, .v (.bool (better a b)))]) E.H0 ?_ ?_
  · (first | refine wr ?_ | refine wp rfl hM ?_ | refine wq hM ?_); repeat' (first | (refine G0 (c4 t3 t4 t9 t46) ?_; try with_reducible intro K hK) | ((first | refine Xs rfl rfl (by decide) rfl (fun h => ?_) fun h => ?_ | refine Ys rfl rfl (by decide) rfl (fun h => ?_) fun h => ?_ | refine Zs rfl rfl rfl (by decide) rfl (fun h => ?_) fun h => ?_); rotate_left; (focus (simp only [Bool.not_true, Bool.not_false, lp])); rotate_left))
    all_goals refine Ent.round0 hE ?_ ?_
    all_goals first | simp [ltAll, ltObs, Ob.lt, D.lt, D.ltL, or_imp, forall_and] | skip
    all_goals simp only [le, ↓reduceIte, Nat.reduceEqDiff, and_true]; repeat' (first | exact trivial | exact D.le_refl _ | exact D.le_any _ | with_reducible refine And.intro ?_ ?_)
    all_goals refine D.le_eq (congrArg D.v (congrArg V.bool ?_)); (try simp only [Bool.not_eq_eq_eq_not, Bool.not_true, Bool.not_false] at *); simp only [*, List.getD_eq_getElem?_getD, Bool.and_true, Bool.true_and, Bool.and_false, Bool.false_and, Bool.or_true, Bool.true_or, Bool.or_false, Bool.false_or, Bool.not_true, Bool.not_false, Bool.not_not, better]
  (refine W0 trivial ?_; try with_reducible intro K hK)
  exact Fin.is (.v (.bool (better a b))) (by decide) rfl hK

theorem neg1 : decide ((-1 : Int) < 0) = true := rfl
theorem natneg (k : Nat) : decide ((k : Int) < 0) = false := by simp

set_option maxHeartbeats 8000000 in
theorem spec_Best (l : List Cho) (hl : l.length ≤ 1099511627776) (H : List Ob) (K : D → List Ob → Prop) (hK : K (.v (.int .i64 (best l))) H) : ACalls Tryz.prog G 24 [.v (chos l)] H K := by
  refine ACalls.go Tryz.f24 _ 28 [2] Tryz.func24 rfl Tryz.ntmps24 (by kernel_rfl) rfl (by simp) (fun E hE hP hG hH => ?_)
  have hM : E.P.follows .mixedOrders = true := hP ▸ mixed
  subst hH
  simp only [args0]
  (refine W0 (c5 @chos.eq_def t3 t9 t24 t46) ?_; try with_reducible intro K hK)
  refine sat_loop_ent (fun n ts H => ∃ (i : Nat), n = l.length - i ∧ i ≤ l.length ∧
    ts = fr 28 [(9, .v (.int .i64 i)), (8, .v (.int .i64 l.length)), (7, .v (chos l)), (4, .fn 47 []), (3, .v (.int .i64 (bestN l i))), (0, .v (chos l))] ∧ H = E.H0) (l.length) (.weakFr ?_) ⟨0, rfl, Nat.zero_le _, rfl, rfl⟩ ?_
  · simp only [le, ↓reduceIte, Nat.reduceEqDiff, and_true]; repeat' (first | exact trivial | exact D.le_refl _ | exact D.le_any _ | with_reducible refine And.intro ?_ ?_)
  rintro n ts H ⟨i, rfl, hi, rfl, rfl⟩
  (refine W0 (c5 @chos.eq_def t3 t9 t24 t46) ?_; try with_reducible intro K hK)
  refine sat_cond rfl (fun hc => ?_) (fun hc => ?_)
  · simp at hc
    obtain ⟨x, hx⟩ : ∃ x, l[i]? = some x := ⟨_, List.getElem?_eq_getElem hc⟩
    have hw := wrap_succ (i := i) (by omega)
    have gx : l.getD i cho0 = x := by simp [List.getD_eq_getElem?_getD, hx]
    (refine W0 (c7 @chos.eq_def t3 t9 t24 t46 @hc @hx) ?_; try with_reducible intro K hK)
    refine sat_thru (fr 28 [(24, .v (.bool (decide (bestN l i < 0) || better x (l.getD (bestN l i).toNat cho0)))), (5, .v (.int .i64 i)), (9, .v (.int .i64 i)), (8, .v (.int .i64 l.length)), (7, .v (chos l)), (4, .fn 47 []), (3, .v (.int .i64 (bestN l i))), (0, .v (chos l))]) E.H0 ?_ ?_
    · rcases bestN_rng l i with ⟨h1, h2⟩ | ⟨k, h1, h2⟩
      · rw [h1]
        (first | refine wr ?_ | refine wp rfl hM ?_ | refine wq hM ?_); repeat' (first | (refine G0 (c7 @chos.eq_def t3 t4 t9 t24 t46 @neg1) ?_; try with_reducible intro K hK) | ((first | refine Xs rfl rfl (by decide) rfl (fun h => ?_) fun h => ?_ | refine Ys rfl rfl (by decide) rfl (fun h => ?_) fun h => ?_ | refine Zs rfl rfl rfl (by decide) rfl (fun h => ?_) fun h => ?_); rotate_left; (focus (simp only [Bool.not_true, Bool.not_false, lp])); rotate_left))
        refine Ent.round0 hE ?_ ?_
        · simp only [le, ↓reduceIte, Nat.reduceEqDiff, and_true]; repeat' (first | exact trivial | exact D.le_refl _ | exact D.le_any _ | with_reducible refine And.intro ?_ ?_)
        · simp [ltAll, ltObs, Ob.lt, D.lt, D.ltL, or_imp, forall_and]
      · obtain ⟨y, hy⟩ : ∃ y, l[k]? = some y := ⟨_, List.getElem?_eq_getElem (by omega)⟩
        have gy : l.getD k cho0 = y := by simp [List.getD_eq_getElem?_getD, hy]
        have hkl : k < l.length := by omega
        rw [h1]
        (first | refine wr ?_ | refine wp rfl hM ?_ | refine wq hM ?_); repeat' (first | (refine G0 (c9 @chos.eq_def t3 t4 t9 t24 t46 @natneg @hy @hkl) ?_; try with_reducible intro K hK) | ((first | refine Xs rfl rfl (by decide) rfl (fun h => ?_) fun h => ?_ | refine Ys rfl rfl (by decide) rfl (fun h => ?_) fun h => ?_ | refine Zs rfl rfl rfl (by decide) rfl (fun h => ?_) fun h => ?_); rotate_left; (focus (simp only [Bool.not_true, Bool.not_false, lp])); rotate_left))
        refine ⟨_, spec_better x y _ _ ⟨rfl, rfl⟩, hK _ ?_⟩
        clear hK K; simp only [lp]
        repeat' (first | (refine G0 (c9 @chos.eq_def t3 t4 t9 t24 t46 @natneg @hy @hkl) ?_; try with_reducible intro K hK) | ((first | refine Xs rfl rfl (by decide) rfl (fun h => ?_) fun h => ?_ | refine Ys rfl rfl (by decide) rfl (fun h => ?_) fun h => ?_ | refine Zs rfl rfl rfl (by decide) rfl (fun h => ?_) fun h => ?_); rotate_left; (focus (simp only [Bool.not_true, Bool.not_false, lp])); rotate_left))
        refine Ent.round0 hE ?_ ?_
        · rw [Int.toNat_natCast, gy, natneg, Bool.false_or]
          simp only [le, ↓reduceIte, Nat.reduceEqDiff, and_true]; repeat' (first | exact trivial | exact D.le_refl _ | exact D.le_any _ | with_reducible refine And.intro ?_ ?_)
        · simp [ltAll, ltObs, Ob.lt, D.lt, D.ltL, or_imp, forall_and]
    refine sat_cond rfl (fun hb => ?_) (fun hb => ?_)
    · have e : bestN l (i + 1) = i := by rw [bestN, gx, hb, if_pos rfl]
      (refine W0 @hw ?_; try with_reducible intro K hK)
      refine ⟨l.length - (i + 1), _, _, by omega, .weakFr ?_, i + 1, rfl, by omega, rfl, rfl⟩
      rw [e]
      simp only [le, ↓reduceIte, Nat.reduceEqDiff, and_true]; repeat' (first | exact trivial | exact D.le_refl _ | exact D.le_any _ | with_reducible refine And.intro ?_ ?_)
    · have e : bestN l (i + 1) = bestN l i := by rw [bestN, gx, hb, if_neg (by decide)]
      (refine W0 @hw ?_; try with_reducible intro K hK)
      refine ⟨l.length - (i + 1), _, _, by omega, .weakFr ?_, i + 1, rfl, by omega, rfl, rfl⟩
      rw [e]
      simp only [le, ↓reduceIte, Nat.reduceEqDiff, and_true]; repeat' (first | exact trivial | exact D.le_refl _ | exact D.le_any _ | with_reducible refine And.intro ?_ ?_)
  · simp at hc
    have e : i = l.length := by omega
    subst e
    (refine W0 trivial ?_; try with_reducible intro K hK)
    exact Fin.is _ (by decide) rfl hK
end Go.Ag
namespace Go.Ag
open Go Go.Proofs
variable {G : Nat → Option (List V)}
attribute [local irreducible] aops qops Sat aop

def placeB (s : Str) : Bool := pathRight s && !(s == [47])
theorem spec_place (s : Str) (m : Int) (hs : s.length < 4294967281) (hG0 : G 0 = some [.int .i64 m]) (H : List Ob) (K : D → List Ob → Prop) (hK : K (.v (.bool (placeB s))) H) : ACalls Tryz.prog G 56 [.v (.str s)] H K := by
  refine ACalls.go Tryz.f56 _ 9 [2] Tryz.func56 rfl Tryz.ntmps56 (by kernel_rfl) rfl (by simp) (fun E hE hP hG hH => ?_)
  have hM : E.P.follows .mixedOrders = true := hP ▸ mixed
  subst hH
  simp only [args0]
  (refine W0 trivial ?_; try with_reducible intro K hK)
  refine sat_thru (fr 9 [(2, .v (.bool (placeB s)))]) E.H0 ?_ ?_
  · (first | refine wr ?_ | refine wp rfl hM ?_ | refine wq hM ?_); repeat' (first | (refine G0 t9 ?_; try with_reducible intro K hK) | ((first | refine Xs rfl rfl (by decide) rfl (fun h => ?_) fun h => ?_ | refine Ys rfl rfl (by decide) rfl (fun h => ?_) fun h => ?_ | refine Zs rfl rfl rfl (by decide) rfl (fun h => ?_) fun h => ?_); rotate_left; (focus (simp only [Bool.not_true, Bool.not_false, lp])); rotate_left))
    refine spec_Right s m hs hG0 _ _ (hK _ _ ?_)
    clear hK K; simp only [lp]
    repeat' (first | (refine G0 t9 ?_; try with_reducible intro K hK) | ((first | refine Xs rfl rfl (by decide) rfl (fun h => ?_) fun h => ?_ | refine Ys rfl rfl (by decide) rfl (fun h => ?_) fun h => ?_ | refine Zs rfl rfl rfl (by decide) rfl (fun h => ?_) fun h => ?_); rotate_left; (focus (simp only [Bool.not_true, Bool.not_false, lp])); rotate_left))
    all_goals refine .weakFr ?_
    all_goals simp only [le, ↓reduceIte, Nat.reduceEqDiff, and_true]; repeat' (first | exact trivial | exact D.le_refl _ | exact D.le_any _ | with_reducible refine And.intro ?_ ?_)
    all_goals refine D.le_eq (congrArg D.v (congrArg V.bool ?_)); (try simp only [Bool.not_eq_eq_eq_not, Bool.not_true, Bool.not_false] at *); simp only [*, List.getD_eq_getElem?_getD, Bool.and_true, Bool.true_and, Bool.and_false, Bool.false_and, Bool.or_true, Bool.true_or, Bool.or_false, Bool.false_or, Bool.not_true, Bool.not_false, Bool.not_not, placeB]
  (refine W0 trivial ?_; try with_reducible intro K hK)
  exact Fin.is (.v (.bool (placeB s))) (by decide) rfl hK
def names (x : Alt) : List Str := x.name :: x.slaves.map (·.name)
def choAt (l : List Cho) (p : Str) : Int := match l.findIdx? (fun c => c.path == p) with | some i => i | none => -1
theorem findIdx_hit {α : Type} {q : α → Bool} {l : List α} {i : Nat} {x : α} (hx : l[i]? = some x) (hq : q x = true) (hn : (l.take i).any q = false) : l.findIdx? q = some i := by
  rw [List.findIdx?_eq_some_iff_getElem]
  have hi := (List.getElem?_eq_some_iff.1 hx).1
  refine ⟨hi, by rw [(List.getElem?_eq_some_iff.1 hx).2]; exact hq, fun j hj => ?_⟩
  have h1 : l[j] ∈ l.take i := List.mem_of_getElem? (i := j) (by rw [List.getElem?_take_of_lt hj, List.getElem?_eq_getElem])
  intro h2
  exact absurd (List.any_eq_true.2 ⟨_, h1, h2⟩) (by rw [hn]; decide)
theorem findIdx_miss {α : Type} {q : α → Bool} {l : List α} (hn : l.any q = false) : l.findIdx? q = none := by
  rw [List.findIdx?_eq_none_iff]
  intro x hx
  have := List.any_eq_false.1 hn x hx
  simpa using this

set_option maxHeartbeats 4000000 in
theorem spec_IndexFunc (l : List Cho) (f : FuncId) (caps : List D) (q : Cho → Bool) (hl : l.length ≤ 1099511627776) (H : List Ob)
    (hq : ∀ c ∈ l, ∀ (K : D → List Ob → Prop), K (.v (.bool (q c))) H → ACalls Tryz.prog G f (choD c :: caps) H K)
    (K : D → List Ob → Prop) (hK : K (.v (.int .i64 (match l.findIdx? q with | some i => (i : Int) | none => -1))) H) : ACalls Tryz.prog G 36 [.v (chos l), .fn f caps] H K := by
  refine ACalls.go Tryz.f36 _ 19 [4] Tryz.func36 rfl Tryz.ntmps36 (by kernel_rfl) rfl (by simp) (fun E hE hP hG hH => ?_)
  have hM : E.P.follows .mixedOrders = true := hP ▸ mixed
  subst hH
  simp only [args0]
  (refine W0 (c5 @chos.eq_def t3 t9 t24 t46) ?_; try with_reducible intro K hK)
  refine sat_loop_ent (fun n ts H => ∃ (i : Nat), n = l.length - i ∧ i ≤ l.length ∧ (l.take i).any q = false ∧
    ts = fr 19 [(8, .v (.int .i64 i)), (7, .v (.int .i64 l.length)), (1, .fn f caps), (0, .v (chos l))] ∧ H = E.H0) (l.length) (.weakFr ?_) ⟨0, rfl, Nat.zero_le _, rfl, rfl, rfl⟩ ?_
  · simp only [le, ↓reduceIte, Nat.reduceEqDiff, and_true]; repeat' (first | exact trivial | exact D.le_refl _ | exact D.le_any _ | with_reducible refine And.intro ?_ ?_)
  rintro n ts H ⟨i, rfl, hi, hall, rfl, rfl⟩
  (refine W0 (c5 @chos.eq_def t3 t9 t24 t46) ?_; try with_reducible intro K hK)
  refine sat_cond rfl (fun hc => ?_) (fun hc => ?_)
  · simp at hc
    obtain ⟨x, hx⟩ : ∃ x, l[i]? = some x := ⟨_, List.getElem?_eq_getElem hc⟩
    have hw := wrap_succ (i := i) (by omega)
    (refine W0 (c7 @chos.eq_def t3 t9 t24 t46 @hc @hx) ?_; try with_reducible intro K hK)
    refine hq x (List.mem_of_getElem? hx) _ (hK _ _ ?_)
    clear hK K; simp only [lp]
    (refine W0 trivial ?_; try with_reducible intro K hK)
    refine sat_cond rfl (fun hb => ?_) (fun hb => ?_)
    · (refine W0 trivial ?_; try with_reducible intro K hK)
      refine Fin.is (.v (.int .i64 i)) (by decide) rfl ?_
      rwa [findIdx_hit hx hb hall] at hK
    · (refine W0 @hw ?_; try with_reducible intro K hK)
      refine ⟨l.length - (i + 1), _, _, by omega, .weakFr ?_, i + 1, rfl, by omega, ?_, rfl, rfl⟩
      · simp only [le, ↓reduceIte, Nat.reduceEqDiff, and_true]; repeat' (first | exact trivial | exact D.le_refl _ | exact D.le_any _ | with_reducible refine And.intro ?_ ?_)
      · rw [take_snoc hx, List.any_append, hall]; simp [hb]
  · simp at hc
    have e : l.take i = l := List.take_of_length_le (by omega)
    rw [e] at hall
    (refine W0 trivial ?_; try with_reducible intro K hK)
    refine Fin.is (.v (.int .i64 (-1))) (by decide) rfl ?_
    rwa [findIdx_miss hall] at hK

set_option maxHeartbeats 4000000 in
theorem spec_choIs (c : Cho) (p : Str) (b : Nat) (H : List Ob) (hb : H[b]? = some (.box [.v (.str p)])) (K : D → List Ob → Prop) (hK : K (.v (.bool (c.path == p))) H) : ACalls Tryz.prog G 37 [choD c, .ptr b 0] H K := by
  refine ACalls.go Tryz.f37 _ 8 [3] Tryz.func37 rfl Tryz.ntmps37 (by kernel_rfl) rfl (by simp) (fun E hE hP hG hH => ?_)
  have hM : E.P.follows .mixedOrders = true := hP ▸ mixed
  subst hH
  simp only [args0, choD]
  have hlt : b < E.H0.length := (List.getElem?_eq_some_iff.1 hb).1
  have hb2 : ∀ L, (E.H0 ++ L)[b]? = some (.box [.v (.str p)]) := fun L => by rw [List.getElem?_append_left hlt]; exact hb
  (refine W0 (c3 t9 t46 @hb2) ?_; try with_reducible intro K hK)
  exact Fin.gc (.v (.bool (c.path == p))) hE (by decide) rfl (by simp only [D.lt]) hK

set_option maxHeartbeats 4000000 in
theorem spec_Choice (x : Alt) (p : Str) (hl : x.choices.length ≤ 1099511627776) (H : List Ob) (K : D → List Ob → Prop) (hK : K (.v (.int .i64 (choAt x.choices p))) H) : ACalls Tryz.prog G 16 [altd x, .v (.str p)] H K := by
  refine ACalls.go Tryz.f16 _ 9 [4] Tryz.func16 rfl Tryz.ntmps16 (by kernel_rfl) rfl (by simp) (fun E hE hP hG hH => ?_)
  have hM : E.P.follows .mixedOrders = true := hP ▸ mixed
  subst hH
  simp only [args0, altd]
  (refine W0 (c4 t9 t46 t26 t24) ?_; try with_reducible intro K hK)
  refine spec_IndexFunc x.choices 37 _ (fun c => c.path == p) hl _ (fun c hc K hK => spec_choIs c p _ _ (by rw [hp_get]; rfl) K hK) _ (hK _ _ ?_)
  clear hK K; simp only [lp]
  (refine W0 trivial ?_; try with_reducible intro K hK)
  exact Fin.gc (.v (.int .i64 (choAt x.choices p))) hE (by decide) rfl (by simp only [D.lt]) hK

end Go.Ag
namespace Go.Ag
open Go Go.Proofs
variable {G : Nat → Option (List V)}
attribute [local irreducible] aops qops Sat aop

def slv0 : Slv := ⟨[], []⟩
def slvBad (x : Alt) (i : Nat) (s : Slv) : Bool := !nameOk s.name || !placeB s.link || s.name == x.name || (decide ((i : Int) > 0) && !Op.bytesLess (x.slaves.getD (i - 1) slv0).name s.name)
def slavesOk (x : Alt) : Bool := (List.range x.slaves.length).all (fun i => !slvBad x i (x.slaves.getD i slv0)) && decide ((x.slaves.length : Int) ≤ 64)
def altB (x : Alt) : Ob := .box ((altV x).map .v)
theorem altB_lt (n : Nat) (x : Alt) : ltObs n [altB x] := by
  refine ⟨?_, trivial⟩
  simp only [altB, Ob.lt]
  exact ltL_v _ _
theorem gz : decide (((0 : Nat) : Int) > 0) = false := rfl
theorem gs (j : Nat) : decide (((j + 1 : Nat) : Int) > 0) = true := by simp
theorem wpred (j : Nat) (h : j < 1099511627776) : IntKind.i64.wrap (((j + 1 : Nat) : Int) - 1) = (j : Int) := by rw [IntKind.wrap_i64]; omega

set_option maxHeartbeats 8000000 in
theorem spec_slaves (x : Alt) (m : Int) (hl : x.slaves.length ≤ 1099511627) (hs : ∀ s ∈ x.slaves, s.name.length < 4294967281 ∧ s.link.length < 4294967281) (hG0 : G 0 = some [.int .i64 m]) (H : List Ob) (K : D → List Ob → Prop) (hK : K (.v (.bool (slavesOk x))) H) : ACalls Tryz.prog G 57 [altd x] H K := by
  refine ACalls.go Tryz.f57 _ 51 [2] Tryz.func57 rfl Tryz.ntmps57 (by kernel_rfl) rfl (by simp) (fun E hE hP hG hH => ?_)
  have hM : E.P.follows .mixedOrders = true := hP ▸ mixed
  subst hH
  simp only [args0, altd]
  (refine W0 (c6 @slvs.eq_def t3 t9 t26 t23 t37) ?_; try with_reducible intro K hK)
  refine sat_loop_ent (fun n ts H => ∃ (i : Nat), n = x.slaves.length - i ∧ i ≤ x.slaves.length ∧ (∀ j, j < i → slvBad x j (x.slaves.getD j slv0) = false) ∧
    ts = fr 51 [(8, .v (.int .i64 i)), (7, .v (.int .i64 x.slaves.length)), (6, .v (slvs x.slaves)), (2, .v (.bool false)), (1, .ptr E.H0.length 0)] ∧ H = E.H0 ++ [altB x]) (x.slaves.length) (.weakFr ?_) ⟨0, rfl, Nat.zero_le _, by simp, rfl, rfl⟩ ?_
  · simp only [le, ↓reduceIte, Nat.reduceEqDiff, and_true]; repeat' (first | exact trivial | exact D.le_refl _ | exact D.le_any _ | with_reducible refine And.intro ?_ ?_)
  rintro n ts H ⟨i, rfl, hi, hall, rfl, rfl⟩
  (refine W0 (c6 @slvs.eq_def t3 t9 t26 t23 t37) ?_; try with_reducible intro K hK)
  refine sat_cond rfl (fun hc => ?_) (fun hc => ?_)
  · simp at hc
    obtain ⟨s, hx⟩ : ∃ s, x.slaves[i]? = some s := ⟨_, List.getElem?_eq_getElem hc⟩
    have hw := wrap_succ (i := i) (by omega)
    have gx : x.slaves.getD i slv0 = s := by simp [List.getD_eq_getElem?_getD, hx]
    obtain ⟨hs1, hs2⟩ := hs s (List.mem_of_getElem? hx)
    (refine W0 (c8 @slvs.eq_def t3 t9 t26 t23 t37 @hc @hx) ?_; try with_reducible intro K hK)
    refine sat_thru (fr 51 [(45, .v (.bool (slvBad x i s))), (8, .v (.int .i64 i)), (7, .v (.int .i64 x.slaves.length)), (6, .v (slvs x.slaves)), (2, .v (.bool false)), (1, .ptr E.H0.length 0)]) (E.H0 ++ [altB x]) ?_ ?_
    · rcases i with _ | j
      · (first | refine wr ?_ | refine wp rfl hM ?_ | refine wq hM ?_); repeat' (first | (refine G0 (c10 @altB.eq_def @altV.eq_def @slvs.eq_def t3 t4 t9 t26 t23 t37 @gz) ?_; try with_reducible intro K hK) | ((first | refine Xs rfl rfl (by decide) rfl (fun h => ?_) fun h => ?_ | refine Ys rfl rfl (by decide) rfl (fun h => ?_) fun h => ?_ | refine Zs rfl rfl rfl (by decide) rfl (fun h => ?_) fun h => ?_); rotate_left; (focus (simp only [Bool.not_true, Bool.not_false, lp])); rotate_left))
        refine ⟨_, spec_Name _ (by omega) _ _ ⟨rfl, rfl⟩, hK _ ?_⟩
        clear hK K; simp only [lp]
        repeat' (first | (refine G0 (c10 @altB.eq_def @altV.eq_def @slvs.eq_def t3 t4 t9 t26 t23 t37 @gz) ?_; try with_reducible intro K hK) | ((first | refine Xs rfl rfl (by decide) rfl (fun h => ?_) fun h => ?_ | refine Ys rfl rfl (by decide) rfl (fun h => ?_) fun h => ?_ | refine Zs rfl rfl rfl (by decide) rfl (fun h => ?_) fun h => ?_); rotate_left; (focus (simp only [Bool.not_true, Bool.not_false, lp])); rotate_left))
        · refine ⟨_, spec_place _ m hs2 hG0 _ _ ⟨rfl, rfl⟩, hK _ ?_⟩
          clear hK K; simp only [lp]
          repeat' (first | (refine G0 (c10 @altB.eq_def @altV.eq_def @slvs.eq_def t3 t4 t9 t26 t23 t37 @gz) ?_; try with_reducible intro K hK) | ((first | refine Xs rfl rfl (by decide) rfl (fun h => ?_) fun h => ?_ | refine Ys rfl rfl (by decide) rfl (fun h => ?_) fun h => ?_ | refine Zs rfl rfl rfl (by decide) rfl (fun h => ?_) fun h => ?_); rotate_left; (focus (simp only [Bool.not_true, Bool.not_false, lp])); rotate_left))
          all_goals refine Ent.rnd hE ?_ rfl (by simp [ltAll, ltObs, Ob.lt, D.lt, D.ltL, or_imp, forall_and]) (altB_lt _ _)
          all_goals simp only [le, ↓reduceIte, Nat.reduceEqDiff, and_true]; repeat' (first | exact trivial | exact D.le_refl _ | exact D.le_any _ | with_reducible refine And.intro ?_ ?_)
          all_goals clear hall
          all_goals refine D.le_eq (congrArg D.v (congrArg V.bool ?_)); (try simp only [Bool.not_eq_eq_eq_not, Bool.not_true, Bool.not_false] at *); simp only [*, List.getD_eq_getElem?_getD, Bool.and_true, Bool.true_and, Bool.and_false, Bool.false_and, Bool.or_true, Bool.true_or, Bool.or_false, Bool.false_or, Bool.not_true, Bool.not_false, Bool.not_not, slvBad, gz]
        · refine Ent.rnd hE ?_ rfl (by simp [ltAll, ltObs, Ob.lt, D.lt, D.ltL, or_imp, forall_and]) (altB_lt _ _)
          all_goals simp only [le, ↓reduceIte, Nat.reduceEqDiff, and_true]; repeat' (first | exact trivial | exact D.le_refl _ | exact D.le_any _ | with_reducible refine And.intro ?_ ?_)
          all_goals clear hall
          all_goals refine D.le_eq (congrArg D.v (congrArg V.bool ?_)); (try simp only [Bool.not_eq_eq_eq_not, Bool.not_true, Bool.not_false] at *); simp only [*, List.getD_eq_getElem?_getD, Bool.and_true, Bool.true_and, Bool.and_false, Bool.false_and, Bool.or_true, Bool.true_or, Bool.or_false, Bool.false_or, Bool.not_true, Bool.not_false, Bool.not_not, slvBad]
      · obtain ⟨p, hp⟩ : ∃ p, x.slaves[j]? = some p := ⟨_, List.getElem?_eq_getElem (by omega)⟩
        have hj : j < x.slaves.length := by omega
        have gp : x.slaves.getD j slv0 = p := by simp [List.getD_eq_getElem?_getD, hp]
        have hwj := wpred j (by omega)
        (first | refine wr ?_ | refine wp rfl hM ?_ | refine wq hM ?_); repeat' (first | (refine G0 (c13 @altB.eq_def @altV.eq_def @slvs.eq_def t3 t4 t9 t26 t23 t37 @gs @hwj @hp @hj) ?_; try with_reducible intro K hK) | ((first | refine Xs rfl rfl (by decide) rfl (fun h => ?_) fun h => ?_ | refine Ys rfl rfl (by decide) rfl (fun h => ?_) fun h => ?_ | refine Zs rfl rfl rfl (by decide) rfl (fun h => ?_) fun h => ?_); rotate_left; (focus (simp only [Bool.not_true, Bool.not_false, lp])); rotate_left))
        refine ⟨_, spec_Name _ (by omega) _ _ ⟨rfl, rfl⟩, hK _ ?_⟩
        clear hK K; simp only [lp]
        repeat' (first | (refine G0 (c13 @altB.eq_def @altV.eq_def @slvs.eq_def t3 t4 t9 t26 t23 t37 @gs @hwj @hp @hj) ?_; try with_reducible intro K hK) | ((first | refine Xs rfl rfl (by decide) rfl (fun h => ?_) fun h => ?_ | refine Ys rfl rfl (by decide) rfl (fun h => ?_) fun h => ?_ | refine Zs rfl rfl rfl (by decide) rfl (fun h => ?_) fun h => ?_); rotate_left; (focus (simp only [Bool.not_true, Bool.not_false, lp])); rotate_left))
        · refine ⟨_, spec_place _ m hs2 hG0 _ _ ⟨rfl, rfl⟩, hK _ ?_⟩
          clear hK K; simp only [lp]
          repeat' (first | (refine G0 (c13 @altB.eq_def @altV.eq_def @slvs.eq_def t3 t4 t9 t26 t23 t37 @gs @hwj @hp @hj) ?_; try with_reducible intro K hK) | ((first | refine Xs rfl rfl (by decide) rfl (fun h => ?_) fun h => ?_ | refine Ys rfl rfl (by decide) rfl (fun h => ?_) fun h => ?_ | refine Zs rfl rfl rfl (by decide) rfl (fun h => ?_) fun h => ?_); rotate_left; (focus (simp only [Bool.not_true, Bool.not_false, lp])); rotate_left))
          all_goals refine Ent.rnd hE ?_ rfl (by simp [ltAll, ltObs, Ob.lt, D.lt, D.ltL, or_imp, forall_and]) (altB_lt _ _)
          all_goals simp only [le, ↓reduceIte, Nat.reduceEqDiff, and_true]; repeat' (first | exact trivial | exact D.le_refl _ | exact D.le_any _ | with_reducible refine And.intro ?_ ?_)
          all_goals clear hall
          all_goals refine D.le_eq (congrArg D.v (congrArg V.bool ?_)); (try simp only [Bool.not_eq_eq_eq_not, Bool.not_true, Bool.not_false] at *); simp only [*, List.getD_eq_getElem?_getD, Bool.and_true, Bool.true_and, Bool.and_false, Bool.false_and, Bool.or_true, Bool.true_or, Bool.or_false, Bool.false_or, Bool.not_true, Bool.not_false, Bool.not_not, slvBad, gs, Nat.add_sub_cancel, gp, Option.getD_some]
        · refine Ent.rnd hE ?_ rfl (by simp [ltAll, ltObs, Ob.lt, D.lt, D.ltL, or_imp, forall_and]) (altB_lt _ _)
          all_goals simp only [le, ↓reduceIte, Nat.reduceEqDiff, and_true]; repeat' (first | exact trivial | exact D.le_refl _ | exact D.le_any _ | with_reducible refine And.intro ?_ ?_)
          all_goals clear hall
          all_goals refine D.le_eq (congrArg D.v (congrArg V.bool ?_)); (try simp only [Bool.not_eq_eq_eq_not, Bool.not_true, Bool.not_false] at *); simp only [*, List.getD_eq_getElem?_getD, Bool.and_true, Bool.true_and, Bool.and_false, Bool.false_and, Bool.or_true, Bool.true_or, Bool.or_false, Bool.false_or, Bool.not_true, Bool.not_false, Bool.not_not, slvBad]
    refine sat_cond rfl (fun hb => ?_) (fun hb => ?_)
    · (refine W0 trivial ?_; try with_reducible intro K hK)
      refine Fin.gc (.v (.bool false)) hE (by decide) rfl (by simp only [D.lt]) ?_
      have : slavesOk x = false := by
        simp only [slavesOk, Bool.and_eq_false_iff]
        left
        rw [List.all_eq_false]
        exact ⟨i, by simpa using hc, by rw [gx, hb]; decide⟩
      rwa [this] at hK
    · (refine W0 @hw ?_; try with_reducible intro K hK)
      refine ⟨x.slaves.length - (i + 1), _, _, by omega, .weakFr ?_, i + 1, rfl, by omega, fun j hj => ?_, rfl, rfl⟩
      · simp only [le, ↓reduceIte, Nat.reduceEqDiff, and_true]; repeat' (first | exact trivial | exact D.le_refl _ | exact D.le_any _ | with_reducible refine And.intro ?_ ?_)
      · rcases Nat.lt_succ_iff_lt_or_eq.1 hj with h | rfl
        · exact hall j h
        · rw [gx]; exact hb
  · simp at hc
    (refine W0 (c8 @altB.eq_def @altV.eq_def @slvs.eq_def t3 t9 t26 t23 t37) ?_; try with_reducible intro K hK)
    refine Fin.gc (.v (.bool (slavesOk x))) hE (by decide) ?_ (by simp only [D.lt]) hK
    have : (List.range x.slaves.length).all (fun i => !slvBad x i (x.slaves.getD i slv0)) = true := by
      simp only [List.all_eq_true, List.mem_range]
      exact fun j hj => by rw [hall j (by omega)]; rfl
    simp only [slavesOk, this, Bool.true_and]
    rfl
end Go.Ag
namespace Go.Ag
open Go Go.Proofs
variable {G : Nat → Option (List V)}
attribute [local irreducible] aops qops Sat aop

def okE (b : Bool) : Int := if b then 0 else 2

set_option maxHeartbeats 4000000 in
theorem spec_Lines (s : Str) (m : Int) (hs : s.length < 4294967281) (hG0 : G 0 = some [.int .i64 m]) (H : List Ob)
    (K : D → List Ob → Prop) (hK : K (.tup [.v (strs ((linesP s).getD [])), .v (.int .i64 (okE (linesP s).isSome))]) H) : ACalls Tryz.prog G 50 [.v (.str s)] H K := by
  refine ACalls.go Tryz.f50 _ 15 [2, 3] Tryz.func50 rfl Tryz.ntmps50 (by kernel_rfl) rfl (by simp) (fun E hE hP hG hH => ?_)
  have hM : E.P.follows .mixedOrders = true := hP ▸ mixed
  subst hH
  simp only [args0]
  (refine W0 (c4 t3 t9 t41 t44) ?_; try with_reducible intro K hK)
  refine sat_cond rfl (fun hb => ?_) (fun hb => ?_)
  · (refine W0 (c3 t9 t41 t44) ?_; try with_reducible intro K hK)
    refine Fin.le2 _ _ (by decide) (by decide) (by decide) (D.le_nils 1) (D.le_refl _) ?_
    have : linesP s = some [] := by simp only [linesP, hb, if_true]
    rwa [this] at hK
  (refine W0 (c4 t3 t9 t41 t44) ?_; try with_reducible intro K hK)
  refine spec_HasSuffix _ _ (by omega) _ _ (hK _ _ ?_)
  clear hK K; simp only [lp]
  (refine W0 (c4 t3 t9 t41 t44) ?_; try with_reducible intro K hK)
  refine sat_cond rfl (fun hc => ?_) (fun hc => ?_)
  · (refine W0 (c3 t9 t41 t44) ?_; try with_reducible intro K hK)
    refine Fin.le2 _ _ (by decide) (by decide) (by decide) (D.le_nils 1) (D.le_refl _) ?_
    have : linesP s = none := by simp only [linesP, hb, hc, if_true, Bool.false_eq_true, if_false]
    rwa [this] at hK
  have hne : 1 ≤ s.length := by
    rcases s with _ | ⟨a, s⟩
    · simp at hb
    · simp
  have hw : IntKind.i64.wrap ((s.length : Int) - 1) = ((s.length - 1 : Nat) : Int) := by rw [IntKind.wrap_i64]; omega
  have hle : s.length - 1 ≤ s.length := by omega
  (refine W0 (c5 t3 t9 t41 t44 @hw) ?_; try with_reducible intro K hK)
  refine spec_Split _ 10 m hG0 (by simp; omega) _ _ (hK _ _ ?_)
  clear hK K; simp only [lp]
  (refine W0 (c4 t3 t9 t41 t44) ?_; try with_reducible intro K hK)
  refine Fin.is2 _ _ (by decide) (by decide) rfl rfl ?_
  have : linesP s = some (splitC 10 (s.take (s.length - 1))) := by simp only [linesP, hb, hc, Bool.false_eq_true, if_false]
  rw [this] at hK
  exact hK

end Go.Ag
namespace Go.Ag
open Go Go.Proofs
variable {G : Nat → Option (List V)}
attribute [local irreducible] aops qops Sat aop

end Go.Ag
namespace Go.Ag
open Go Go.Proofs
variable {G : Nat → Option (List V)}
attribute [local irreducible] aops qops Sat aop

theorem slice_one {α : Type} {s : List α} {i : Nat} {b : α} (h : s[i]? = some b) : (s.take (i + 1)).drop i = [b] := by
  have hl := (List.getElem?_eq_some_iff.1 h).1
  rw [take_snoc h, List.drop_append_of_le_length (by simp; omega), List.drop_of_length_le (by simp; omega)]; rfl

theorem partsFold_len (s : Str) : ∀ (l : Str) (o : List Str) (a : Str), (l.foldl partsStep (o, a)).1.length ≤ o.length + l.length ∧ (l.foldl partsStep (o, a)).2.length ≤ a.length + l.length := by
  intro l
  induction l with
  | nil => intro o a; simp
  | cons b l ih =>
    intro o a
    simp only [List.foldl_cons, partsStep]
    split
    · have := ih o (a ++ [b]); simp at this ⊢; omega
    · split
      · have := ih (o ++ [a]) []; simp at this ⊢; omega
      · have := ih o []; simp at this ⊢; omega

end Go.Ag
namespace Go.Ag
open Go Go.Proofs
variable {G : Nat → Option (List V)}
attribute [local irreducible] aops qops Sat aop

theorem pre_cons (b c : UInt8) (s : Str) : Lib.hasPrefix (b :: s) [c] = (b == c) := by
  rw [Bool.eq_iff_iff]
  simp [Lib.hasPrefix]
  exact eq_comm

end Go.Ag
namespace Go.Ag
open Go Go.Proofs
variable {G : Nat → Option (List V)}
attribute [local irreducible] aops qops Sat aop

set_option maxHeartbeats 4000000 in
theorem spec_rChoice (x : Alt) (p : Str) (hl : x.choices.length ≤ 1099511627776) (H : List Ob) (K : D → List Ob → Prop) (hK : K (.v (.int .i64 (choAt x.choices p))) H) : ACalls Tryz.prog G 17 [altd x, .v (.str p)] H K := by
  refine ACalls.go Tryz.f17 _ 22 [4] Tryz.func17 rfl Tryz.ntmps17 (by kernel_rfl) rfl (by simp) (fun E hE hP hG hH => ?_)
  have hM : E.P.follows .mixedOrders = true := hP ▸ mixed
  subst hH
  simp only [args0, altd]
  (refine W0 (c4 t9 t46 t26 t24) ?_; try with_reducible intro K hK)
  refine sat_loop_ent (fun n ts H => ∃ (i : Nat), n = x.choices.length - i ∧ i ≤ x.choices.length ∧ (x.choices.take i).any (fun c => c.path == p) = false ∧
    ts = fr 22 [(5, .v (.int .i64 i)), (2, .ptr E.H0.length 0), (1, .v (.str p))] ∧ H = E.H0 ++ [.box [.v (.str x.name), .v (.str x.link), .v (.bool x.manual), .v (.str x.cur), .v (slvs x.slaves), .v (chos x.choices)]]) (x.choices.length) (.weakFr ?_) ⟨0, rfl, Nat.zero_le _, rfl, rfl, rfl⟩ ?_
  · simp only [le, ↓reduceIte, Nat.reduceEqDiff, and_true]; repeat' (first | exact trivial | exact D.le_refl _ | exact D.le_any _ | with_reducible refine And.intro ?_ ?_)
  rintro n ts H ⟨i, rfl, hi, hall, rfl, rfl⟩
  (refine W0 (c6 @chos.eq_def t3 t9 t24 t46 t26) ?_; try with_reducible intro K hK)
  refine sat_cond rfl (fun hc => ?_) (fun hc => ?_)
  · simp at hc
    obtain ⟨c, hx⟩ : ∃ c, x.choices[i]? = some c := ⟨_, List.getElem?_eq_getElem hc⟩
    have hw := wrap_succ (i := i) (by omega)
    (refine W0 (c8 @chos.eq_def t3 t9 t24 t46 t26 @hc @hx) ?_; try with_reducible intro K hK)
    refine sat_cond rfl (fun hb => ?_) (fun hb => ?_)
    · (refine W0 trivial ?_; try with_reducible intro K hK)
      refine Fin.gc (.v (.int .i64 i)) hE (by decide) rfl (by simp only [D.lt]) ?_
      rwa [choAt, findIdx_hit hx hb hall] at hK
    · (refine W0 @hw ?_; try with_reducible intro K hK)
      refine ⟨x.choices.length - (i + 1), _, _, by omega, .weakFr ?_, i + 1, rfl, by omega, ?_, rfl, rfl⟩
      · simp only [le, ↓reduceIte, Nat.reduceEqDiff, and_true]; repeat' (first | exact trivial | exact D.le_refl _ | exact D.le_any _ | with_reducible refine And.intro ?_ ?_)
      · rw [take_snoc hx, List.any_append, hall]; simp [hb]
  · simp at hc
    have e : x.choices.take i = x.choices := List.take_of_length_le (by omega)
    rw [e] at hall
    (refine W0 trivial ?_; try with_reducible intro K hK)
    refine Fin.gc (.v (.int .i64 (-1))) hE (by decide) rfl (by simp only [D.lt]) ?_
    rwa [choAt, findIdx_miss hall] at hK
end Go.Ag
namespace Go.Ag
open Go Go.Proofs
variable {G : Nat → Option (List V)}
attribute [local irreducible] aops qops Sat aop

def idxA (l : List Alt) (q : Alt → Bool) : Int := match l.findIdx? q with | some i => (i : Int) | none => -1
set_option maxHeartbeats 4000000 in
theorem spec_IndexFuncA (l : List Alt) (f : FuncId) (caps : List D) (q : Alt → Bool) (hl : l.length ≤ 1099511627776) (H : List Ob)
    (hq : ∀ c ∈ l, ∀ (K : D → List Ob → Prop), K (.v (.bool (q c))) H → ACalls Tryz.prog G f (altd c :: caps) H K)
    (K : D → List Ob → Prop) (hK : K (.v (.int .i64 (idxA l q))) H) : ACalls Tryz.prog G 30 [.v (altsV l), .fn f caps] H K := by
  refine ACalls.go Tryz.f30 _ 19 [4] Tryz.func30 rfl Tryz.ntmps30 (by kernel_rfl) rfl (by simp) (fun E hE hP hG hH => ?_)
  have hM : E.P.follows .mixedOrders = true := hP ▸ mixed
  subst hH
  simp only [args0]
  (refine W0 (c5 @altsV.eq_def t3 t9 t22 t26) ?_; try with_reducible intro K hK)
  refine sat_loop_ent (fun n ts H => ∃ (i : Nat), n = l.length - i ∧ i ≤ l.length ∧ (l.take i).any q = false ∧
    ts = fr 19 [(8, .v (.int .i64 i)), (7, .v (.int .i64 l.length)), (1, .fn f caps), (0, .v (altsV l))] ∧ H = E.H0) (l.length) (.weakFr ?_) ⟨0, rfl, Nat.zero_le _, rfl, rfl, rfl⟩ ?_
  · simp only [le, ↓reduceIte, Nat.reduceEqDiff, and_true]; repeat' (first | exact trivial | exact D.le_refl _ | exact D.le_any _ | with_reducible refine And.intro ?_ ?_)
  rintro n ts H ⟨i, rfl, hi, hall, rfl, rfl⟩
  (refine W0 (c5 @altsV.eq_def t3 t9 t22 t26) ?_; try with_reducible intro K hK)
  refine sat_cond rfl (fun hc => ?_) (fun hc => ?_)
  · simp at hc
    obtain ⟨x, hx⟩ : ∃ x, l[i]? = some x := ⟨_, List.getElem?_eq_getElem hc⟩
    have hw := wrap_succ (i := i) (by omega)
    (refine W0 (c8 @altsV.eq_def @altV.eq_def t3 t9 t22 t26 @hc @hx) ?_; try with_reducible intro K hK)
    refine hq x (List.mem_of_getElem? hx) _ (hK _ _ ?_)
    clear hK K; simp only [lp]
    (refine W0 trivial ?_; try with_reducible intro K hK)
    refine sat_cond rfl (fun hb => ?_) (fun hb => ?_)
    · (refine W0 trivial ?_; try with_reducible intro K hK)
      refine Fin.is (.v (.int .i64 i)) (by decide) rfl ?_
      rwa [idxA, findIdx_hit hx hb hall] at hK
    · (refine W0 @hw ?_; try with_reducible intro K hK)
      refine ⟨l.length - (i + 1), _, _, by omega, .weakFr ?_, i + 1, rfl, by omega, ?_, rfl, rfl⟩
      · simp only [le, ↓reduceIte, Nat.reduceEqDiff, and_true]; repeat' (first | exact trivial | exact D.le_refl _ | exact D.le_any _ | with_reducible refine And.intro ?_ ?_)
      · rw [take_snoc hx, List.any_append, hall]; simp [hb]
  · simp at hc
    have e : l.take i = l := List.take_of_length_le (by omega)
    rw [e] at hall
    (refine W0 trivial ?_; try with_reducible intro K hK)
    refine Fin.is (.v (.int .i64 (-1))) (by decide) rfl ?_
    rwa [idxA, findIdx_miss hall] at hK

def gtS (a b : Str) : Bool := !(Op.bytesLess a b || a == b)
def findA (l : List Alt) (p : Str) : Int := idxA l (fun x => x.name == p)
set_option maxHeartbeats 4000000 in
theorem spec_findIs (x : Alt) (p : Str) (b : Nat) (H : List Ob) (hb : H[b]? = some (.box [.v (.str p)])) (K : D → List Ob → Prop) (hK : K (.v (.bool (x.name == p))) H) : ACalls Tryz.prog G 35 [altd x, .ptr b 0] H K := by
  refine ACalls.go Tryz.f35 _ 8 [3] Tryz.func35 rfl Tryz.ntmps35 (by kernel_rfl) rfl (by simp) (fun E hE hP hG hH => ?_)
  have hM : E.P.follows .mixedOrders = true := hP ▸ mixed
  subst hH
  simp only [args0, altd]
  have hlt : b < E.H0.length := (List.getElem?_eq_some_iff.1 hb).1
  have hb2 : ∀ L, (E.H0 ++ L)[b]? = some (.box [.v (.str p)]) := fun L => by rw [List.getElem?_append_left hlt]; exact hb
  (refine W0 (c3 t9 t26 @hb2) ?_; try with_reducible intro K hK)
  exact Fin.gc (.v (.bool (x.name == p))) hE (by decide) rfl (by simp only [D.lt]) hK
set_option maxHeartbeats 4000000 in
theorem spec_dropIs (x : Alt) (p : Str) (b : Nat) (H : List Ob) (hb : H[b]? = some (.box [.v (.str p)])) (K : D → List Ob → Prop) (hK : K (.v (.bool (x.name == p))) H) : ACalls Tryz.prog G 34 [altd x, .ptr b 0] H K := by
  refine ACalls.go Tryz.f34 _ 8 [3] Tryz.func34 rfl Tryz.ntmps34 (by kernel_rfl) rfl (by simp) (fun E hE hP hG hH => ?_)
  have hM : E.P.follows .mixedOrders = true := hP ▸ mixed
  subst hH
  simp only [args0, altd]
  have hlt : b < E.H0.length := (List.getElem?_eq_some_iff.1 hb).1
  have hb2 : ∀ L, (E.H0 ++ L)[b]? = some (.box [.v (.str p)]) := fun L => by rw [List.getElem?_append_left hlt]; exact hb
  (refine W0 (c3 t9 t26 @hb2) ?_; try with_reducible intro K hK)
  exact Fin.gc (.v (.bool (x.name == p))) hE (by decide) rfl (by simp only [D.lt]) hK
set_option maxHeartbeats 4000000 in
theorem spec_putIs (y x : Alt) (b : Nat) (H : List Ob) (hb : H[b]? = some (altB x)) (K : D → List Ob → Prop) (hK : K (.v (.bool (gtS y.name x.name))) H) : ACalls Tryz.prog G 31 [altd y, .ptr b 0] H K := by
  refine ACalls.go Tryz.f31 _ 9 [3] Tryz.func31 rfl Tryz.ntmps31 (by kernel_rfl) rfl (by simp) (fun E hE hP hG hH => ?_)
  have hM : E.P.follows .mixedOrders = true := hP ▸ mixed
  subst hH
  simp only [args0, altd]
  have hlt : b < E.H0.length := (List.getElem?_eq_some_iff.1 hb).1
  have hb2 : ∀ L, (E.H0 ++ L)[b]? = some (altB x) := fun L => by rw [List.getElem?_append_left hlt]; exact hb
  (refine W0 (c5 @altB.eq_def @altV.eq_def t9 t26 @hb2) ?_; try with_reducible intro K hK)
  exact Fin.gc (.v (.bool (gtS y.name x.name))) hE (by decide) rfl (by simp only [D.lt]) hK
set_option maxHeartbeats 4000000 in
theorem spec_Find (l : List Alt) (p : Str) (hl : l.length ≤ 1099511627776) (H : List Ob) (K : D → List Ob → Prop) (hK : K (.v (.int .i64 (findA l p))) H) : ACalls Tryz.prog G 14 [.v (altsV l), .v (.str p)] H K := by
  refine ACalls.go Tryz.f14 _ 8 [4] Tryz.func14 rfl Tryz.ntmps14 (by kernel_rfl) rfl (by simp) (fun E hE hP hG hH => ?_)
  have hM : E.P.follows .mixedOrders = true := hP ▸ mixed
  subst hH
  simp only [args0]
  (refine W0 (c2 t9 t22) ?_; try with_reducible intro K hK)
  refine spec_IndexFuncA l 35 _ (fun c => c.name == p) hl _ (fun c hc K hK => spec_findIs c p _ _ (by rw [hp_get0]; rfl) K hK) _ (hK _ _ ?_)
  clear hK K; simp only [lp]
  (refine W0 trivial ?_; try with_reducible intro K hK)
  exact Fin.gc (.v (.int .i64 (findA l p))) hE (by decide) rfl (by simp only [D.lt]) hK
set_option maxHeartbeats 4000000 in
theorem spec_rFind (l : List Alt) (p : Str) (hl : l.length ≤ 1099511627776) (H : List Ob) (K : D → List Ob → Prop) (hK : K (.v (.int .i64 (findA l p))) H) : ACalls Tryz.prog G 15 [.v (altsV l), .v (.str p)] H K := by
  refine ACalls.go Tryz.f15 _ 20 [4] Tryz.func15 rfl Tryz.ntmps15 (by kernel_rfl) rfl (by simp) (fun E hE hP hG hH => ?_)
  have hM : E.P.follows .mixedOrders = true := hP ▸ mixed
  subst hH
  simp only [args0]
  (refine W0 (c2 t9 t22) ?_; try with_reducible intro K hK)
  refine sat_loop_ent (fun n ts H => ∃ (i : Nat), n = l.length - i ∧ i ≤ l.length ∧ (l.take i).any (fun c => c.name == p) = false ∧
    ts = fr 20 [(5, .v (.int .i64 i)), (1, .v (.str p)), (0, .v (altsV l))] ∧ H = E.H0) (l.length) (.weakFr ?_) ⟨0, rfl, Nat.zero_le _, rfl, rfl, rfl⟩ ?_
  · simp only [le, ↓reduceIte, Nat.reduceEqDiff, and_true]; repeat' (first | exact trivial | exact D.le_refl _ | exact D.le_any _ | with_reducible refine And.intro ?_ ?_)
  rintro n ts H ⟨i, rfl, hi, hall, rfl, rfl⟩
  (refine W0 (c5 @altsV.eq_def t3 t9 t22 t26) ?_; try with_reducible intro K hK)
  refine sat_cond rfl (fun hc => ?_) (fun hc => ?_)
  · simp at hc
    obtain ⟨c, hx⟩ : ∃ c, l[i]? = some c := ⟨_, List.getElem?_eq_getElem hc⟩
    have hw := wrap_succ (i := i) (by omega)
    (refine W0 (c8 @altsV.eq_def @altV.eq_def t3 t9 t22 t26 @hc @hx) ?_; try with_reducible intro K hK)
    refine sat_cond rfl (fun hb => ?_) (fun hb => ?_)
    · (refine W0 trivial ?_; try with_reducible intro K hK)
      refine Fin.is (.v (.int .i64 i)) (by decide) rfl ?_
      rwa [findA, idxA, findIdx_hit hx hb hall] at hK
    · (refine W0 @hw ?_; try with_reducible intro K hK)
      refine ⟨l.length - (i + 1), _, _, by omega, .weakFr ?_, i + 1, rfl, by omega, ?_, rfl, rfl⟩
      · simp only [le, ↓reduceIte, Nat.reduceEqDiff, and_true]; repeat' (first | exact trivial | exact D.le_refl _ | exact D.le_any _ | with_reducible refine And.intro ?_ ?_)
      · rw [take_snoc hx, List.any_append, hall]; simp [hb]
  · simp at hc
    have e : l.take i = l := List.take_of_length_le (by omega)
    rw [e] at hall
    (refine W0 trivial ?_; try with_reducible intro K hK)
    refine Fin.is (.v (.int .i64 (-1))) (by decide) rfl ?_
    rwa [findA, idxA, findIdx_miss hall] at hK
end Go.Ag
namespace Go.Ag
open Go Go.Proofs
variable {G : Nat → Option (List V)}
attribute [local irreducible] aops qops Sat aop

set_option maxHeartbeats 4000000 in
theorem spec_sortStableSlv {α : Type} (r : α → List D) (hr : ∀ x, (r x).length = 2) (hcl : ∀ x, (r x).all D.cell = true) (c : α → α → Int) (f : FuncId) (caps : List D) (l : List α) (b ver : Nat) (hl : l.length ≤ 1000000) (H : List Ob) (hb : H[b]? = some (.arr ver 2 (l.map r) 0))
    (hf : ∀ x y (H' : List Ob) (K : D → List Ob → Prop), (∀ j, j ≠ b → H'[j]? = H[j]?) → K (.v (.int .i64 (c x y))) H' → ACalls Tryz.prog G f (.agg (r x) :: .agg (r y) :: caps) H' K)
    (K : D → List Ob → Prop) (hK : K (.tup []) (H.set b (.arr ver 2 ((stab c l).map r) 0))) : ACalls Tryz.prog G 103 [.own b ver l.length, .fn f caps] H K := by
  refine ACalls.go Tryz.f103 _ 9 [] Tryz.func103 rfl Tryz.ntmps103 (by kernel_rfl) rfl (by simp) (fun E hE hP hG hH => ?_)
  have hM : E.P.follows .mixedOrders = true := hP ▸ mixed
  subst hH
  simp only [args0]
  (refine W0 (c3 t3 t23 @hb) ?_; try with_reducible intro K hK)
  refine spec_stableSlv r hr hcl c f caps l b ver l.length rfl hl _ hb hf _ (hK _ _ ?_)
  clear hK K; simp only [lp]
  (refine W0 trivial ?_; try with_reducible intro K hK)
  exact Fin.here hK
/-! ### nothing to sort -/
set_option maxHeartbeats 4000000 in
theorem spec_insNilSlv (f : FuncId) (caps : List D) (H : List Ob) (K : D → List Ob → Prop) (hK : K (.tup []) H) : ACalls Tryz.prog G 149 [.nils, .v (.int .i64 0), .v (.int .i64 0), .fn f caps] H K := by
  refine ACalls.go Tryz.f149 _ 53 [] Tryz.func149 rfl Tryz.ntmps149 (by kernel_rfl) rfl (by simp) (fun E hE hP hG hH => ?_)
  have hM : E.P.follows .mixedOrders = true := hP ▸ mixed
  subst hH
  have hw : IntKind.i64.wrap (0 + 1) = 1 := by rw [IntKind.wrap_i64]; rfl
  simp only [args0]
  (refine W0 (c2 t3 @hw) ?_; try with_reducible intro K hK)
  refine sat_loop_ent (fun m ts H => m = 0 ∧ ts = fr 53 [(8, .v (.int .i64 1)), (2, .v (.int .i64 0))] ∧ H = E.H0) 0 (.weakFr ?_) ⟨rfl, rfl, rfl⟩ ?_
  · simp only [le, ↓reduceIte, Nat.reduceEqDiff, and_true]; repeat' (first | exact trivial | exact D.le_refl _ | exact D.le_any _ | with_reducible refine And.intro ?_ ?_)
  rintro m ts H ⟨rfl, rfl, rfl⟩
  (refine W0 t3 ?_; try with_reducible intro K hK)
  refine sat_cond rfl (fun hc => ?_) (fun hc => ?_)
  · simp at hc
  · (refine W0 trivial ?_; try with_reducible intro K hK)
    exact Fin.here hK
set_option maxHeartbeats 4000000 in
theorem spec_stableNilSlv (f : FuncId) (caps : List D) (H : List Ob) (K : D → List Ob → Prop) (hK : K (.tup []) H) : ACalls Tryz.prog G 128 [.nils, .v (.int .i64 0), .fn f caps] H K := by
  refine ACalls.go Tryz.f128 _ 63 [] Tryz.func128 rfl Tryz.ntmps128 (by kernel_rfl) rfl (by simp) (fun E hE hP hG hH => ?_)
  have hM : E.P.follows .mixedOrders = true := hP ▸ mixed
  subst hH
  simp only [args0]
  (refine W0 t3 ?_; try with_reducible intro K hK)
  refine sat_loop_ent (fun m ts H => m = 0 ∧ ts = fr 63 [(8, .v (.int .i64 20)), (7, .v (.int .i64 0)), (6, .v (.int .i64 20)), (2, .fn f caps), (1, .v (.int .i64 0)), (0, .nils)] ∧ H = E.H0) 0 (.weakFr ?_) ⟨rfl, rfl, rfl⟩ ?_
  · simp only [le, ↓reduceIte, Nat.reduceEqDiff, and_true]; repeat' (first | exact trivial | exact D.le_refl _ | exact D.le_any _ | with_reducible refine And.intro ?_ ?_)
  rintro m ts H ⟨rfl, rfl, rfl⟩
  (refine W0 t3 ?_; try with_reducible intro K hK)
  refine sat_cond rfl (fun hc => ?_) (fun hc => ?_)
  · simp at hc
  (refine W0 t3 ?_; try with_reducible intro K hK)
  refine spec_insNilSlv f caps _ _ (hK _ _ ?_)
  clear hK K; simp only [lp]
  (refine W0 t3 ?_; try with_reducible intro K hK)
  refine sat_loop_ent (fun m ts H => m = 0 ∧ ts = fr 63 [(6, .v (.int .i64 20)), (1, .v (.int .i64 0))] ∧ H = E.H0) 0 (.weakFr ?_) ⟨rfl, rfl, rfl⟩ ?_
  · simp only [le, ↓reduceIte, Nat.reduceEqDiff, and_true]; repeat' (first | exact trivial | exact D.le_refl _ | exact D.le_any _ | with_reducible refine And.intro ?_ ?_)
  rintro m ts H ⟨rfl, rfl, rfl⟩
  (refine W0 t3 ?_; try with_reducible intro K hK)
  refine sat_cond rfl (fun hc => ?_) (fun hc => ?_)
  · simp at hc
  · (refine W0 trivial ?_; try with_reducible intro K hK)
    exact Fin.here hK
set_option maxHeartbeats 4000000 in
theorem spec_sortNilSlv (f : FuncId) (caps : List D) (H : List Ob) (K : D → List Ob → Prop) (hK : K (.tup []) H) : ACalls Tryz.prog G 103 [.nils, .fn f caps] H K := by
  refine ACalls.go Tryz.f103 _ 9 [] Tryz.func103 rfl Tryz.ntmps103 (by kernel_rfl) rfl (by simp) (fun E hE hP hG hH => ?_)
  have hM : E.P.follows .mixedOrders = true := hP ▸ mixed
  subst hH
  simp only [args0]
  (refine W0 (c2 t3 t23) ?_; try with_reducible intro K hK)
  refine spec_stableNilSlv f caps _ _ (hK _ _ ?_)
  clear hK K; simp only [lp]
  (refine W0 trivial ?_; try with_reducible intro K hK)
  exact Fin.here hK
end Go.Ag
namespace Go.Ag
open Go Go.Proofs Go.RowKit
variable {G : Nat → Option (List V)}

/-- Two strings in, a number out. -/
theorem lib_int2 {P : Program} {f : FuncId} {H : List Ob} {K : D → List Ob → Prop} (g : List UInt8 → List UInt8 → Int) (hc : callB P f = true) (s p : List UInt8)
    (h : ∀ w, Calls P f #[.string ⟨s.toArray⟩, .string ⟨p.toArray⟩] w fun e w' => e = .returned (.int .i64 (g (ByteArray.mk s.toArray).data.toList (ByteArray.mk p.toArray).data.toList)) ∧ w' = w) (hK : K (.v (.int .i64 (g s p))) H) : ACalls P G f [.v (.str s), .v (.str p)] H K := by
  refine ACalls.of_calls hc fun E e1 e2 M μ w vs hr hv => ?_
  obtain ⟨y1, y2, rfl, h1, h2⟩ := hv.two
  simp only [Rel, RelV] at h1 h2
  subst h1; subst h2
  refine (h w).mono ?_
  rintro e w' ⟨rfl, rfl⟩
  exact ⟨_, _, rfl, .refl _ _, by simp only [Rel, RelV], hK⟩
theorem spec_Compare (s p : Str) (H : List Ob) (K : D → List Ob → Prop) (hK : K (.v (.int .i64 (Lib.compareBytes s p))) H) : ACalls Tryz.prog G 102 [.v (.str s), .v (.str p)] H K :=
  lib_int2 Lib.compareBytes (by kernel_rfl) s p (fun w => Tryz.strings_Compare _ _ w) hK
end Go.Ag
namespace Go.Ag
open Go Go.Proofs
variable {G : Nat → Option (List V)}
attribute [local irreducible] aops qops Sat aop

set_option maxHeartbeats 4000000 in
theorem spec_CloneSlv {α : Type} (rv : α → List V) (hrv : ∀ x, (rv x).length = 2) (l : List α) (hl : l.length ≤ 1000000) (H : List Ob) (K : D → List Ob → Prop) (hK : ∀ d L, (l = [] ∧ L = [] ∧ d = .nils ∨ ∃ ver, 1 ≤ ver ∧ d = .own H.length ver l.length ∧ L = [.arr ver 2 ((l.map rv).map (·.map .v)) 0]) → K d (H ++ L)) : ACalls Tryz.prog G 84 [.v (.list 2 (l.map rv))] H K := by
  refine ACalls.go Tryz.f84 _ 8 [2] Tryz.func84 rfl Tryz.ntmps84 (by kernel_rfl) rfl (by simp) (fun E hE hP hG hH => ?_)
  have hM : E.P.follows .mixedOrders = true := hP ▸ mixed
  subst hH
  simp only [args0]
  (refine W0 (c3 t3 t23 t37) ?_; try with_reducible intro K hK)
  refine ⟨fun hne => hK _ _ ?_, fun he => ⟨hK _ _ ?_, hK _ _ ?_⟩⟩
  · clear hK K; simp only [lp]
    (refine W0 trivial ?_; try with_reducible intro K hK)
    refine sat_cond rfl (fun hb => ?_) (fun hb => ?_)
    · exact absurd hb (by decide)
    (refine W0 (c3 t3 t23 t37) ?_; try with_reducible intro K hK)
    refine Fin.is _ (by decide) rfl (hK _ _ (.inr ⟨2, by omega, rfl, rfl⟩))
  · clear hK K; simp only [lp]
    (refine W0 trivial ?_; try with_reducible intro K hK)
    refine sat_cond rfl (fun hb => ?_) (fun hb => ?_)
    · (refine W0 t23 ?_; try with_reducible intro K hK)
      refine Fin.is .nils (by decide) rfl ?_
      have := hK .nils [] (.inl ⟨by simpa using he, rfl, rfl⟩)
      rwa [List.append_nil] at this
    · exact absurd hb (by decide)
  · clear hK K; simp only [lp]
    (refine W0 trivial ?_; try with_reducible intro K hK)
    refine sat_cond rfl (fun hb => ?_) (fun hb => ?_)
    · exact absurd hb (by decide)
    (refine W0 (c3 t3 t23 t37) ?_; try with_reducible intro K hK)
    refine Fin.is _ (by decide) rfl (hK _ _ (.inr ⟨2, by omega, rfl, rfl⟩))
set_option maxHeartbeats 4000000 in
theorem spec_byCmpSlv {α : Type} (r : α → List D) (hr : ∀ x, (r x).length = 2) (hcl : ∀ x, (r x).all D.cell = true) (txt : α → Str) (g : FuncId) (hg : ∀ x (H : List Ob) (K : D → List Ob → Prop), K (.v (.str (txt x))) H → ACalls Tryz.prog G g [.agg (r x)] H K)
    (x y : α) (bx : Nat) (H : List Ob) (hb : H[bx]? = some (.box [.fn g []])) (K : D → List Ob → Prop) (hK : K (.v (.int .i64 (Lib.compareBytes (txt x) (txt y)))) H) : ACalls Tryz.prog G 104 [.agg (r x), .agg (r y), .ptr bx 0] H K := by
  refine ACalls.go Tryz.f104 _ 13 [5] Tryz.func104 rfl Tryz.ntmps104 (by kernel_rfl) rfl (by simp) (fun E hE hP hG hH => ?_)
  have hM : E.P.follows .mixedOrders = true := hP ▸ mixed
  subst hH
  have hrt : ∀ x, (r x).take 2 = r x := fun x => List.take_of_length_le (by rw [hr]; exact Nat.le_refl _)
  simp only [args0]
  repeat (first | refine wa ?_ | refine wb rfl ?_ | refine wc rfl rfl hM ?_ | refine wd rfl hM ?_ | ((first | refine we rfl fun K hK => ?_ | refine wf rfl rfl fun K hK => ?_ | refine wg rfl rfl fun K hK => ?_ | refine wh rfl fun K hK => ?_); (simp only [lo, ld, ↓aop, ↓aCall, hP, hG, Nat.reduceLT, ↓reduceIte, Nat.reduceEqDiff, Nat.reduceAdd, Nat.reduceMul, Nat.reduceLeDiff, reduceCtorEq, D.cs, D.plain, fillD, chop, List.replicate, tk_3, ze_3, sz_3, tk_9, ze_9, sz_9, tk_23, ze_23, sz_23, tk_37, ze_37, sz_37, kn_37, tk_121, ze_121, sz_121, hcl, hr, hrt, List.drop_zero, hp_old hb]; repeat (with_reducible refine And.intro ?_ ?_; focus (first | decide | omega | (simp only [ln]; omega)))); try ((first | refine hK _ _ ?_ | refine hK _ ?_); clear hK K; simp only [lp])) | ((first | refine wi ?_ | refine wj ?_ | refine wk ?_ | refine wl ?_ | refine wm ?_ | refine wn ?_); simp only [lt, ↓reduceIte, Nat.reduceEqDiff]) | refine wo ?_)
  refine ⟨_, hg x _ _ ⟨rfl, rfl⟩, hK _ ?_⟩
  clear hK K; simp only [lp]
  repeat (first | refine wa ?_ | refine wb rfl ?_ | refine wc rfl rfl hM ?_ | refine wd rfl hM ?_ | ((first | refine we rfl fun K hK => ?_ | refine wf rfl rfl fun K hK => ?_ | refine wg rfl rfl fun K hK => ?_ | refine wh rfl fun K hK => ?_); (simp only [lo, ld, ↓aop, ↓aCall, hP, hG, Nat.reduceLT, ↓reduceIte, Nat.reduceEqDiff, Nat.reduceAdd, Nat.reduceMul, Nat.reduceLeDiff, reduceCtorEq, D.cs, D.plain, fillD, chop, List.replicate, tk_3, ze_3, sz_3, tk_9, ze_9, sz_9, tk_23, ze_23, sz_23, tk_37, ze_37, sz_37, kn_37, tk_121, ze_121, sz_121, hcl, hr, hrt, List.drop_zero, hp_old hb]; repeat (with_reducible refine And.intro ?_ ?_; focus (first | decide | omega | (simp only [ln]; omega)))); try ((first | refine hK _ _ ?_ | refine hK _ ?_); clear hK K; simp only [lp])) | ((first | refine wi ?_ | refine wj ?_ | refine wk ?_ | refine wl ?_ | refine wm ?_ | refine wn ?_); simp only [lt, ↓reduceIte, Nat.reduceEqDiff]) | refine wo ?_)
  refine ⟨_, hg y _ _ ⟨rfl, rfl⟩, hK _ ?_⟩
  clear hK K; simp only [lp]
  (refine W0 t3 ?_; try with_reducible intro K hK)
  refine ⟨_, spec_Compare (txt x) (txt y) _ _ ⟨rfl, rfl⟩, hK _ ?_⟩
  clear hK K; simp only [lp]
  (refine W0 t3 ?_; try with_reducible intro K hK)
  exact Fin.gc (.v (.int .i64 (Lib.compareBytes (txt x) (txt y)))) hE (by decide) rfl (by simp only [D.lt]) hK
set_option maxHeartbeats 8000000 in
theorem spec_bySlv {α : Type} (rv : α → List V) (hrv : ∀ x, (rv x).length = 2) (txt : α → Str) (g : FuncId) (hg : ∀ x (H : List Ob) (K : D → List Ob → Prop), K (.v (.str (txt x))) H → ACalls Tryz.prog G g [.agg ((rv x).map .v)] H K)
    (l : List α) (hl : l.length ≤ 1000000) (H : List Ob) (K : D → List Ob → Prop) (hK : K (.v (.list 2 ((stab (fun x y => Lib.compareBytes (txt x) (txt y)) l).map rv))) H) : ACalls Tryz.prog G 85 [.v (.list 2 (l.map rv)), .fn g []] H K := by
  refine ACalls.go Tryz.f85 _ 12 [4] Tryz.func85 rfl Tryz.ntmps85 (by kernel_rfl) rfl (by simp) (fun E hE hP hG hH => ?_)
  have hM : E.P.follows .mixedOrders = true := hP ▸ mixed
  subst hH
  have hr : ∀ x, ((rv x).map D.v).length = 2 := fun x => by rw [List.length_map, hrv]
  have hcl : ∀ x, ((rv x).map D.v).all D.cell = true := fun x => by simp [D.cell]
  simp only [args0]
  (refine W0 (c5 t3 t9 t23 t37 t121) ?_; try with_reducible intro K hK)
  refine spec_CloneSlv rv hrv l hl _ _ (fun d L hd => hK _ _ ?_)
  clear hK K; simp only [lp]
  rcases hd with ⟨rfl, rfl, rfl⟩ | ⟨ver, hv, rfl, rfl⟩
  · rw [List.append_nil]
    (refine W0 (c5 t3 t9 t23 t37 t121) ?_; try with_reducible intro K hK)
    refine spec_sortNilSlv _ _ _ _ (hK _ _ ?_)
    clear hK K; simp only [lp]
    (refine W0 t3 ?_; try with_reducible intro K hK)
    have hK0 : K (.v (.list 2 [])) E.H0 := by
      have e : stab (fun x y => Lib.compareBytes (txt x) (txt y)) ([] : List α) = [] := by exact stab_few _ [] (show 0 < 20 by decide)
      rw [e] at hK; exact hK
    refine Fin.gcle (.v (.list 2 [])) hE (by decide) ?_ (by simp only [D.lt]) hK0
    exact D.le_nils 2
  · rw [List.append_assoc, List.cons_append, List.nil_append, List.length_append]
    (refine W0 (c5 t3 t9 t23 t37 t121) ?_; try with_reducible intro K hK)
    refine spec_sortStableSlv (fun x => (rv x).map .v) hr hcl (fun x y => Lib.compareBytes (txt x) (txt y)) _ _ l (E.H0.length + 1) ver hl _ ?_ ?_ _ (hK _ _ ?_)
    · rw [hp_get]; simp
    · intro x y H' K hj hk
      exact spec_byCmpSlv (fun x => (rv x).map .v) hr hcl txt g hg x y E.H0.length H' (by rw [hj _ (by omega), hp_get0]; rfl) K hk
    clear hK K; simp only [lp]
    (refine W0 (c5 t3 t9 t23 t37 t121) ?_; try with_reducible intro K hK)
    have hpl := (stab_perm (fun x y => Lib.compareBytes (txt x) (txt y)) l).length_eq
    refine Fin.pub 1 ver 2 0 l.length ((stab (fun x y => Lib.compareBytes (txt x) (txt y)) l).map rv) hE (by decide) rfl (by simp) (Nat.zero_le _) (by rw [List.length_map, hpl]; exact Nat.le_refl _) ?_
    rw [List.take_of_length_le (by rw [List.length_map, hpl]; exact Nat.le_refl _)]
    exact hK
end Go.Ag
namespace Go.Ag
open Go Go.Proofs
variable {G : Nat → Option (List V)}
attribute [local irreducible] aops qops Sat aop

set_option maxRecDepth 20000 in
set_option maxHeartbeats 16000000 in
theorem spec_insertion0Pr {α : Type} (r : α → List D) (hr : ∀ x, (r x).length = 3) (hcl : ∀ x, (r x).all D.cell = true) (c : α → α → Int) (f : FuncId) (caps : List D) (l : List α) (b ver a n : Nat) (han : a < l.length ∨ n ≤ a + 1) (hn : n ≤ l.length) (hl : l.length ≤ 1000000) (ha : a ≤ 1000000) (H : List Ob) (hb : H[b]? = some (.arr ver 3 (l.map r) 0))
    (hq : ∀ x y (H' : List Ob) (K : D → List Ob → Prop), (∀ j, j ≠ b → H'[j]? = H[j]?) → K (.v (.int .i64 (c x y))) H' → ACalls Tryz.prog G f (.agg (r x) :: .agg (r y) :: caps) H' K)
    (K : D → List Ob → Prop) (hK : K (.tup []) (H.set b (.arr ver 3 ((isort c a n l).map r) 0))) : ACalls Tryz.prog G 146 [.own b ver l.length, .v (.int .i64 a), .v (.int .i64 n), .fn f caps] H K := by
  have hlt := (List.getElem?_eq_some_iff.1 hb).1
  refine ACalls.go Tryz.f146 _ 53 [] Tryz.func146 rfl Tryz.ntmps146 (by kernel_rfl) rfl (by simp) (fun E hE hP hG hH => ?_)
  have hM : E.P.follows .mixedOrders = true := hP ▸ mixed
  subst hH
  have hrt : ∀ x, (r x).take 3 = r x := fun x => List.take_of_length_le (by rw [hr]; exact Nat.le_refl _)
  have hrd : ∀ x, (r x).drop 3 = [] := fun x => List.drop_of_length_le (by rw [hr]; exact Nat.le_refl _)
  have hms : ∀ (l : List α) i y, (l.map r).set i (r y) = (l.set i y).map r := fun l i y => by simp [List.map_set]
  have hwa := wrap_succ (i := a) (by omega)
  simp only [args0]
  (refine W0 (c2 t3 @hwa) ?_; try with_reducible intro K hK)
  refine sat_loop_ent (fun m ts H => ∃ (i : Nat) (xs : List α), m = n - i ∧ a + 1 ≤ i ∧ i ≤ 1000001 ∧ xs.length = l.length ∧ isoF c a i (n - i) xs = isort c a n l ∧
    ts = fr 53 [(8, .v (.int .i64 i)), (3, .fn f caps), (2, .v (.int .i64 n)), (1, .v (.int .i64 a)), (0, .own b ver l.length)] ∧ H = E.H0.set b (.arr ver 3 (xs.map r) 0)) (n - (a + 1)) (ts0 := fr 53 [(8, .v (.int .i64 (a + 1 : Nat))), (3, .fn f caps), (2, .v (.int .i64 n)), (1, .v (.int .i64 a)), (0, .own b ver l.length)]) (H0 := E.H0) (.weakFr ?_) ⟨a + 1, l, rfl, Nat.le_refl _, by omega, rfl, rfl, rfl, (set_nop hb).symm⟩ ?_
  · simp only [le, ↓reduceIte, Nat.reduceEqDiff, and_true]; repeat' (first | exact trivial | exact D.le_refl _ | exact D.le_any _ | with_reducible refine And.intro ?_ ?_)
  rintro m ts H ⟨i, xs, rfl, hai, hi6, hxl, hiso, rfl, hHH⟩
  (refine W0 t3 ?_; try with_reducible intro K hK)
  refine sat_cond rfl (fun hc => ?_) (fun hc => ?_)
  · simp at hc
    have hwi := wrap_succ (i := i) (by omega)
    (refine W0 t3 ?_; try with_reducible intro K hK)
    refine sat_loop_ent (fun m ts H => ∃ (j : Nat) (ys : List α), m = j ∧ j ≤ i ∧ ys.length = l.length ∧ insF c a j ys = insF c a i xs ∧
      ts = fr 53 [(9, .v (.int .i64 j)), (8, .v (.int .i64 i)), (3, .fn f caps), (2, .v (.int .i64 n)), (1, .v (.int .i64 a)), (0, .own b ver l.length)] ∧ H = E.H0.set b (.arr ver 3 (ys.map r) 0)) i (.weakFr ?_) ⟨i, xs, rfl, Nat.le_refl _, hxl, rfl, rfl, hHH⟩ ?_
    · simp only [le, ↓reduceIte, Nat.reduceEqDiff, and_true]; repeat' (first | exact trivial | exact D.le_refl _ | exact D.le_any _ | with_reducible refine And.intro ?_ ?_)
    clear hHH
    rintro j ts H ⟨_, ys, rfl, hji, hyl, hins, rfl, hHH⟩
    have hb1 : H[b]? = some (.arr ver 3 (ys.map r) 0) := by rw [hHH]; exact List.getElem?_set_self hlt
    have hoth : ∀ k, k ≠ b → H[k]? = E.H0[k]? := fun k hk => by rw [hHH, List.getElem?_set_ne (fun e => hk e.symm)]
    have gs : ∀ o, (H.set b o)[b]? = some o := fun o => List.getElem?_set_self (by rw [hHH]; simpa using hlt)
    by_cases hja : a < j
    · obtain ⟨q, rfl⟩ : ∃ q, j = q + 1 := ⟨j - 1, by omega⟩
      obtain ⟨y, hy⟩ : ∃ y, ys[q + 1]? = some y := ⟨_, List.getElem?_eq_getElem (by omega)⟩
      obtain ⟨x, hx⟩ : ∃ x, ys[q]? = some x := ⟨_, List.getElem?_eq_getElem (by omega)⟩
      have hyr : (ys.map r)[q + 1]? = some (r y) := by simp [hy]
      have hxr : (ys.map r)[q]? = some (r x) := by simp [hx]
      have hwj := wrap_pred (i := q) (by omega)
      have hgt : decide (a < q + 1) = true := by simp; omega
      repeat (first | ((first | refine wi ?_ | refine wj ?_ | refine wk ?_ | refine wl ?_ | refine wm ?_ | refine wn ?_); simp only [lt, ↓reduceIte, Nat.reduceEqDiff]) | refine wo ?_)
      repeat refine wa ?_
      (first | refine wr ?_ | refine wp rfl hM ?_ | refine wq hM ?_); repeat' (first | (refine G0 (c11 t3 t114 t116 @hb1 @hyr @hxr @hwj @hgt @hr @hrt @List.drop_zero.{0}) ?_; try with_reducible intro K hK) | ((first | refine Xs rfl rfl (by decide) rfl (fun h => ?_) fun h => ?_ | refine Ys rfl rfl (by decide) rfl (fun h => ?_) fun h => ?_ | refine Zs rfl rfl rfl (by decide) rfl (fun h => ?_) fun h => ?_); rotate_left; (focus (simp only [Bool.not_true, Bool.not_false, lp])); rotate_left))
      refine ⟨_, hq y x _ _ hoth ⟨rfl, rfl⟩, hK _ ?_⟩
      clear hK K; simp only [lp]
      repeat' (first | (refine G0 (c3 t3 t114 t116) ?_; try with_reducible intro K hK) | ((first | refine Xs rfl rfl (by decide) rfl (fun h => ?_) fun h => ?_ | refine Ys rfl rfl (by decide) rfl (fun h => ?_) fun h => ?_ | refine Zs rfl rfl rfl (by decide) rfl (fun h => ?_) fun h => ?_); rotate_left; (focus (simp only [Bool.not_true, Bool.not_false, lp])); rotate_left))
      repeat (first | ((first | refine wi ?_ | refine wj ?_ | refine wk ?_ | refine wl ?_ | refine wm ?_ | refine wn ?_); simp only [lt, ↓reduceIte, Nat.reduceEqDiff]) | refine wo ?_)
      refine sat_cond rfl (fun hd => ?_) (fun hd => ?_)
      · simp at hd
        have hsw : ((ys.set (q + 1) x).map r)[q]? = some (r x) := by simp [hx, List.getElem?_set_ne]
        refine sat_skip ?_
        repeat (first | ((first | refine wi ?_ | refine wj ?_ | refine wk ?_ | refine wl ?_ | refine wm ?_ | refine wn ?_); simp only [lt, ↓reduceIte, Nat.reduceEqDiff]) | refine wo ?_)
        repeat refine wa ?_
        refine wo ?_
        refine sat_stay hM ?_
        (refine S0 (c19 t3 t114 t116 @hb1 @hyr @hxr @hwj @gs @hms @hsw @hcl @hr @hrt @hrd @List.drop_zero.{0} @List.take_zero.{0} @List.nil_append.{0} @List.append_nil.{0} @List.set_set.{0}) ?_; try with_reducible intro K hK)
        (refine W0 (c2 t3 @hwj) ?_; try with_reducible intro K hK)
        refine ⟨q, _, _, by omega, .weakFr ?_, q, swp ys (q + 1) q, rfl, by omega, by rw [swp_len]; exact hyl, ?_, rfl, ?_⟩
        · simp only [le, ↓reduceIte, Nat.reduceEqDiff, and_true]; repeat' (first | exact trivial | exact D.le_refl _ | exact D.le_any _ | with_reducible refine And.intro ?_ ?_)
        · rw [← hins, insF_yes hja hy hx hd]
        · rw [hHH, List.set_set, swp_eq hy hx]
      · have hst := insF_no hja hy hx (by simpa using hd)
        (refine W0 (c2 t3 @hwi) ?_; try with_reducible intro K hK)
        refine ⟨n - (i + 1), _, _, by omega, .weakFr ?_, i + 1, ys, rfl, by omega, by omega, hyl, ?_, rfl, hHH⟩
        · simp only [le, ↓reduceIte, Nat.reduceEqDiff, and_true]; repeat' (first | exact trivial | exact D.le_refl _ | exact D.le_any _ | with_reducible refine And.intro ?_ ?_)
        · rw [← hiso, show n - i = (n - (i + 1)) + 1 by omega, isoF, ← hins, hst]
    · have hst := insF_stop (c := c) (xs := ys) hja
      have hgt : decide (a < j) = false := by simp; omega
      repeat (first | ((first | refine wi ?_ | refine wj ?_ | refine wk ?_ | refine wl ?_ | refine wm ?_ | refine wn ?_); simp only [lt, ↓reduceIte, Nat.reduceEqDiff]) | refine wo ?_)
      repeat refine wa ?_
      (first | refine wr ?_ | refine wp rfl hM ?_ | refine wq hM ?_); repeat' (first | (refine G0 (c4 t3 t114 t116 @hgt) ?_; try with_reducible intro K hK) | ((first | refine Xs rfl rfl (by decide) rfl (fun h => ?_) fun h => ?_ | refine Ys rfl rfl (by decide) rfl (fun h => ?_) fun h => ?_ | refine Zs rfl rfl rfl (by decide) rfl (fun h => ?_) fun h => ?_); rotate_left; (focus (simp only [Bool.not_true, Bool.not_false, lp])); rotate_left))
      refine sat_cond rfl (fun hd => ?_) (fun hd => ?_)
      · cases hd
      · (refine W0 (c2 t3 @hwi) ?_; try with_reducible intro K hK)
        refine ⟨n - (i + 1), _, _, by omega, .weakFr ?_, i + 1, ys, rfl, by omega, by omega, hyl, ?_, rfl, hHH⟩
        · simp only [le, ↓reduceIte, Nat.reduceEqDiff, and_true]; repeat' (first | exact trivial | exact D.le_refl _ | exact D.le_any _ | with_reducible refine And.intro ?_ ?_)
        · rw [← hiso, show n - i = (n - (i + 1)) + 1 by omega, isoF, ← hins, hst]
  · simp at hc
    rw [show n - i = 0 by omega, isoF] at hiso
    rw [hiso] at hHH
    (refine W0 trivial ?_; try with_reducible intro K hK)
    refine Fin.here ?_
    rw [hHH]; exact hK
theorem spec_insertionPr {α : Type} (r : α → List D) (hr : ∀ x, (r x).length = 3) (hcl : ∀ x, (r x).all D.cell = true) (c : α → α → Int) (f : FuncId) (caps : List D) (l : List α) (b ver len a n : Nat) (hlen : l.length = len) (han : a < len ∨ n ≤ a + 1) (hn : n ≤ len) (hl : len ≤ 1000000) (ha : a ≤ 1000000) (H : List Ob) (hb : H[b]? = some (.arr ver 3 (l.map r) 0))
    (hq : ∀ x y (H' : List Ob) (K : D → List Ob → Prop), (∀ j, j ≠ b → H'[j]? = H[j]?) → K (.v (.int .i64 (c x y))) H' → ACalls Tryz.prog G f (.agg (r x) :: .agg (r y) :: caps) H' K)
    (K : D → List Ob → Prop) (hK : K (.tup []) (H.set b (.arr ver 3 ((isort c a n l).map r) 0))) : ACalls Tryz.prog G 146 [.own b ver len, .v (.int .i64 a), .v (.int .i64 n), .fn f caps] H K := by
  subst hlen
  exact spec_insertion0Pr r hr hcl c f caps l b ver a n han hn hl ha H hb hq K hK
set_option maxRecDepth 20000 in
set_option maxHeartbeats 16000000 in
theorem spec_swapRangePr {α : Type} (r : α → List D) (hr : ∀ x, (r x).length = 3) (hcl : ∀ x, (r x).all D.cell = true) (f : FuncId) (caps : List D) (l : List α) (b ver len p q n : Nat) (hlen : l.length = len) (hp : p + n ≤ len) (hq : q + n ≤ len) (hl : len ≤ 1000000) (H : List Ob) (hb : H[b]? = some (.arr ver 3 (l.map r) 0))
    (K : D → List Ob → Prop) (hK : K (.tup []) (H.set b (.arr ver 3 ((swr p q n l).map r) 0))) : ACalls Tryz.prog G 161 [.own b ver len, .v (.int .i64 p), .v (.int .i64 q), .v (.int .i64 n), .fn f caps] H K := by
  have hlt := (List.getElem?_eq_some_iff.1 hb).1
  refine ACalls.go Tryz.f161 _ 38 [] Tryz.func161 rfl Tryz.ntmps161 (by kernel_rfl) rfl (by simp) (fun E hE hP hG hH => ?_)
  have hM : E.P.follows .mixedOrders = true := hP ▸ mixed
  subst hH
  have hrt : ∀ x, (r x).take 3 = r x := fun x => List.take_of_length_le (by rw [hr]; exact Nat.le_refl _)
  have hrd : ∀ x, (r x).drop 3 = [] := fun x => List.drop_of_length_le (by rw [hr]; exact Nat.le_refl _)
  have hms : ∀ (l : List α) i y, (l.map r).set i (r y) = (l.set i y).map r := fun l i y => by simp [List.map_set]
  simp only [args0]
  (refine W0 t3 ?_; try with_reducible intro K hK)
  refine sat_loop_ent (fun m ts H => ∃ (i : Nat) (xs : List α), m = n - i ∧ i ≤ n ∧ xs = swr p q i l ∧
    ts = fr 38 [(10, .v (.int .i64 i)), (4, .fn f caps), (3, .v (.int .i64 n)), (2, .v (.int .i64 q)), (1, .v (.int .i64 p)), (0, .own b ver len)] ∧ H = E.H0.set b (.arr ver 3 (xs.map r) 0)) n (ts0 := fr 38 [(10, .v (.int .i64 (0 : Nat))), (4, .fn f caps), (3, .v (.int .i64 n)), (2, .v (.int .i64 q)), (1, .v (.int .i64 p)), (0, .own b ver len)]) (H0 := E.H0) (.weakFr ?_) ⟨0, l, rfl, Nat.zero_le _, rfl, rfl, (set_nop hb).symm⟩ ?_
  · simp only [le, ↓reduceIte, Nat.reduceEqDiff, and_true]; repeat' (first | exact trivial | exact D.le_refl _ | exact D.le_any _ | with_reducible refine And.intro ?_ ?_)
  rintro m ts H ⟨i, xs, rfl, hi, hxs, rfl, hHH⟩
  have hxl : xs.length = len := by rw [hxs, (swr_perm _ _ _ _).length_eq, hlen]
  have hb1 : H[b]? = some (.arr ver 3 (xs.map r) 0) := by rw [hHH]; exact List.getElem?_set_self hlt
  have gs : ∀ o, (H.set b o)[b]? = some o := fun o => List.getElem?_set_self (by rw [hHH]; simpa using hlt)
  (refine W0 t3 ?_; try with_reducible intro K hK)
  refine sat_cond rfl (fun hc => ?_) (fun hc => ?_)
  · simp at hc
    obtain ⟨x, hx⟩ : ∃ x, xs[p + i]? = some x := ⟨_, List.getElem?_eq_getElem (by omega)⟩
    obtain ⟨y, hy⟩ : ∃ y, xs[q + i]? = some y := ⟨_, List.getElem?_eq_getElem (by omega)⟩
    have hyr : (xs.map r)[q + i]? = some (r y) := by simp [hy]
    have hxr : (xs.map r)[p + i]? = some (r x) := by simp [hx]
    have hsw : ((xs.set (p + i) y).map r)[q + i]? = some (r y) := by
      by_cases e : p + i = q + i
      · rw [e, List.getElem?_map, List.getElem?_set_self (by omega)]; rfl
      · rw [List.getElem?_map, List.getElem?_set_ne e, hy]; rfl
    have hwp := wrap_addN (i := p) (j := i) (by omega)
    have hwq := wrap_addN (i := q) (j := i) (by omega)
    have hwi := wrap_succ (i := i) (by omega)
    have hpi : p + i < len := by omega
    have hqi : q + i < len := by omega
    refine sat_skip ?_
    repeat (first | ((first | refine wi ?_ | refine wj ?_ | refine wk ?_ | refine wl ?_ | refine wm ?_ | refine wn ?_); simp only [lt, ↓reduceIte, Nat.reduceEqDiff]) | refine wo ?_)
    repeat refine wa ?_
    refine wo ?_
    refine sat_stay hM ?_
    (refine S0 (c2 (c19 t3 t114 t116 @hb1 @hyr @hxr @hwp @hwq @hpi @hqi @gs @hms @hsw @hcl @hr @hrt @hrd @List.drop_zero.{0} @List.take_zero.{0}) (c3 @List.nil_append.{0} @List.append_nil.{0} @List.set_set.{0})) ?_; try with_reducible intro K hK)
    (refine W0 (c2 t3 @hwi) ?_; try with_reducible intro K hK)
    refine ⟨n - (i + 1), _, _, by omega, .weakFr ?_, i + 1, swp xs (p + i) (q + i), rfl, by omega, by rw [hxs]; rfl, rfl, ?_⟩
    · simp only [le, ↓reduceIte, Nat.reduceEqDiff, and_true]; repeat' (first | exact trivial | exact D.le_refl _ | exact D.le_any _ | with_reducible refine And.intro ?_ ?_)
    · rw [hHH, List.set_set, swp_eq hx hy]
  · simp at hc
    (refine W0 trivial ?_; try with_reducible intro K hK)
    refine Fin.here ?_
    obtain rfl : i = n := by omega
    rw [hHH, hxs]; exact hK
end Go.Ag
namespace Go.Ag
open Go Go.Proofs
variable {G : Nat → Option (List V)}
attribute [local irreducible] aops qops Sat aop

set_option maxRecDepth 20000 in
set_option maxHeartbeats 16000000 in
theorem spec_rotatePr {α : Type} (r : α → List D) (hr : ∀ x, (r x).length = 3) (hcl : ∀ x, (r x).all D.cell = true) (f : FuncId) (caps : List D) (l : List α) (b ver len p m q : Nat) (hlen : l.length = len) (hpm : p < m) (hmq : m < q) (hq : q ≤ len) (hl : len ≤ 1000000) (H : List Ob) (hb : H[b]? = some (.arr ver 3 (l.map r) 0))
    (K : D → List Ob → Prop) (hK : K (.tup []) (H.set b (.arr ver 3 ((rotF m (m - p) (q - m) l).map r) 0))) : ACalls Tryz.prog G 158 [.own b ver len, .v (.int .i64 p), .v (.int .i64 m), .v (.int .i64 q), .fn f caps] H K := by
  have hlt := (List.getElem?_eq_some_iff.1 hb).1
  refine ACalls.go Tryz.f158 _ 58 [] Tryz.func158 rfl Tryz.ntmps158 (by kernel_rfl) rfl (by simp) (fun E hE hP hG hH => ?_)
  have hM : E.P.follows .mixedOrders = true := hP ▸ mixed
  subst hH
  have hw1 := wrap_subN (i := m) (j := p) (by omega) (by omega)
  have hw2 := wrap_subN (i := q) (j := m) (by omega) (by omega)
  simp only [args0]
  (refine W0 (c3 t3 @hw1 @hw2) ?_; try with_reducible intro K hK)
  refine sat_loop_ent (fun z ts H => ∃ (i j : Nat) (xs : List α), z = i + j ∧ 1 ≤ i ∧ 1 ≤ j ∧ i ≤ m - p ∧ j ≤ q - m ∧ xs.length = len ∧ rotF m i j xs = rotF m (m - p) (q - m) l ∧
    ts = fr 58 [(11, .v (.int .i64 j)), (10, .v (.int .i64 i)), (4, .fn f caps), (2, .v (.int .i64 m)), (0, .own b ver len)] ∧ H = E.H0.set b (.arr ver 3 (xs.map r) 0)) ((m - p) + (q - m)) (ts0 := fr 58 [(11, .v (.int .i64 (q - m : Nat))), (10, .v (.int .i64 (m - p : Nat))), (4, .fn f caps), (2, .v (.int .i64 m)), (0, .own b ver len)]) (H0 := E.H0) (.weakFr ?_) ⟨m - p, q - m, l, rfl, by omega, by omega, Nat.le_refl _, Nat.le_refl _, hlen, rfl, rfl, (set_nop hb).symm⟩ ?_
  · simp only [le, ↓reduceIte, Nat.reduceEqDiff, and_true]; repeat' (first | exact trivial | exact D.le_refl _ | exact D.le_any _ | with_reducible refine And.intro ?_ ?_)
  rintro z ts H ⟨i, j, xs, rfl, hi1, hj1, hi, hj, hxl, hrot, rfl, hHH⟩
  have hb1 : H[b]? = some (.arr ver 3 (xs.map r) 0) := by rw [hHH]; exact List.getElem?_set_self hlt
  have hwmi := wrap_subN (i := m) (j := i) (by omega) (by omega)
  (refine W0 t3 ?_; try with_reducible intro K hK)
  refine sat_cond rfl (fun hc => ?_) (fun hc => ?_)
  · simp at hc
    (refine W0 t3 ?_; try with_reducible intro K hK)
    refine sat_cond rfl (fun hd => ?_) (fun hd => ?_)
    · simp at hd
      have hwij := wrap_subN (i := i) (j := j) (by omega) (by omega)
      (refine W0 (c2 t3 @hwmi) ?_; try with_reducible intro K hK)
      refine spec_swapRangePr r hr hcl f caps xs b ver len (m - i) m j hxl (by omega) (by omega) hl _ hb1 _ (hK _ _ ?_)
      clear hK K; simp only [lp]
      (refine W0 (c2 t3 @hwij) ?_; try with_reducible intro K hK)
      refine ⟨(i - j) + j, _, _, by omega, .weakFr ?_, i - j, j, swr (m - i) m j xs, rfl, by omega, by omega, by omega, by omega, by rw [(swr_perm (m - i) m j xs).length_eq, hxl], by rw [← rotF_gt hd hj1, hrot], rfl, ?_⟩
      · simp only [le, ↓reduceIte, Nat.reduceEqDiff, and_true]; repeat' (first | exact trivial | exact D.le_refl _ | exact D.le_any _ | with_reducible refine And.intro ?_ ?_)
      · rw [hHH, List.set_set]
    · simp at hd
      have hwji := wrap_subN (i := j) (j := i) (by omega) (by omega)
      have hwmj := wrap_addN (i := m) (j := j) (by omega)
      have hwmji := wrap_subN (i := m + j) (j := i) (by omega) (by omega)
      (refine W0 (c4 t3 @hwmi @hwmj @hwmji) ?_; try with_reducible intro K hK)
      refine spec_swapRangePr r hr hcl f caps xs b ver len (m - i) (m + j - i) i hxl (by omega) (by omega) hl _ hb1 _ (hK _ _ ?_)
      clear hK K; simp only [lp]
      (refine W0 (c2 t3 @hwji) ?_; try with_reducible intro K hK)
      refine ⟨i + (j - i), _, _, by omega, .weakFr ?_, i, j - i, swr (m - i) (m + j - i) i xs, rfl, by omega, by omega, by omega, by omega, by rw [(swr_perm (m - i) (m + j - i) i xs).length_eq, hxl], by rw [← rotF_lt (by omega) hi1, hrot], rfl, ?_⟩
      · simp only [le, ↓reduceIte, Nat.reduceEqDiff, and_true]; repeat' (first | exact trivial | exact D.le_refl _ | exact D.le_any _ | with_reducible refine And.intro ?_ ?_)
      · rw [hHH, List.set_set]
  · simp at hc
    (refine W0 (c2 t3 @hwmi) ?_; try with_reducible intro K hK)
    refine spec_swapRangePr r hr hcl f caps xs b ver len (m - i) m i hxl (by omega) (by omega) hl _ hb1 _ (hK _ _ ?_)
    clear hK K; simp only [lp]
    (refine W0 t3 ?_; try with_reducible intro K hK)
    refine Fin.here ?_
    rw [hHH, List.set_set, ← rotF_eq hc, hrot]
    exact hK
end Go.Ag
