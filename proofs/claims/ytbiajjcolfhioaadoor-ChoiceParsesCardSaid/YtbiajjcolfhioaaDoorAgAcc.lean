/- AGo, part 19: slices that are gathered. -/
import Derived.Test.YtbiajjcolfhioaaDoorAgLib
set_option linter.all false
namespace Go.Ag
open Go Go.RowKit

theorem ltL_v (n : Nat) : ∀ l : List V, D.ltL n (l.map D.v)
  | [] => by simp only [List.map_nil, D.ltL]
  | x :: l => by simp only [List.map_cons, D.ltL, D.lt]; exact ⟨trivial, ltL_v n l⟩
theorem ltRows (n : Nat) (ys : List (List V)) : ∀ x ∈ ys.map (·.map D.v), D.ltL n x := by
  intro x hx
  obtain ⟨y, _, rfl⟩ := List.mem_map.1 hx
  exact ltL_v n y

/-- A slice that is gathered: nil, or the first rows of an array of one's own, behind m objects that are told no more. -/
def Acs (E : Env) (m sz : Nat) (ys : List (List V)) (d : D) (L : List Ob) : Prop :=
  (ys = [] ∧ d = .nils ∧ L = []) ∨ ∃ (ver : Nat) (zs : List (List V)), 1 ≤ ver ∧ ys.length ≤ zs.length ∧ zs.take ys.length = ys ∧ d = .own (E.H0.length + m) ver ys.length ∧ L = List.replicate m .dead ++ [.arr ver sz (zs.map (·.map .v)) 0]
theorem Acs.start {E : Env} (m sz : Nat) : Acs E m sz [] .nils [] := .inl ⟨rfl, rfl, rfl⟩
theorem Acs.own {E : Env} {m sz : Nat} {ys : List (List V)} (ver : Nat) (h : 1 ≤ ver) : Acs E m sz ys (.own (E.H0.length + m) ver ys.length) (List.replicate m .dead ++ [.arr ver sz (ys.map (·.map .v)) 0]) :=
  .inr ⟨ver, ys, h, Nat.le_refl _, take_len ys, rfl, rfl⟩
theorem ltObs_dead (n m : Nat) (o : Ob) (h : o.lt n) : ltObs n (List.replicate m .dead ++ [o]) := by
  induction m with
  | zero => exact ⟨h, trivial⟩
  | succ m ih => exact ⟨trivial, ih⟩
theorem Acs.lt {E : Env} {m sz : Nat} {ys : List (List V)} {d : D} {L : List Ob} (h : Acs E m sz ys d L) : D.lt (E.H0.length + L.length) d ∧ ltObs (E.H0.length + L.length) L := by
  rcases h with ⟨_, rfl, rfl⟩ | ⟨ver, zs, _, _, _, rfl, rfl⟩
  · exact ⟨by simp only [D.lt], trivial⟩
  · refine ⟨by simp only [D.lt]; simp, ltObs_dead _ _ _ ?_⟩
    simp only [Ob.lt]
    exact ltRows _ _

mutual
theorem conv_old {b ver sz n : Nat} {ys : List (List V)} (hb : n ≤ b) : ∀ {d : D}, D.lt n d → D.conv b ver sz ys d = d
  | .own b' v' l', h => by
    simp only [D.lt] at h
    simp only [D.conv]
    rw [if_neg (by omega)]
  | .agg cs, h => by simp only [D.lt] at h; simp only [D.conv, convL_old hb h]
  | .tup cs, h => by simp only [D.lt] at h; simp only [D.conv, convL_old hb h]
  | .fn f cs, h => by simp only [D.lt] at h; simp only [D.conv, convL_old hb h]
  | .v x, _ => by simp only [D.conv]
  | .nils, _ => by simp only [D.conv]
  | .ptr _ _, _ => by simp only [D.conv]
  | .eptr _ _ _ _ _, _ => by simp only [D.conv]
  | .rptr _, _ => by simp only [D.conv]
  | .nilp, _ => by simp only [D.conv]
  | .map _, _ => by simp only [D.conv]
  | .nilm, _ => by simp only [D.conv]
  | .nilf, _ => by simp only [D.conv]
  | .any, _ => by simp only [D.conv]
theorem convL_old {b ver sz n : Nat} {ys : List (List V)} (hb : n ≤ b) : ∀ {ds : List D}, D.ltL n ds → D.convL b ver sz ys ds = ds
  | [], _ => by simp only [D.convL]
  | d :: ds, h => by simp only [D.ltL] at h; simp only [D.convL, conv_old hb h.1, convL_old hb h.2]
end
/-- It is told by value from here on, and all that was made is forgotten. -/
theorem Ent.acs {E : Env} {n m sz : Nat} {l : List (Nat × D)} {L : List Ob} {ys : List (List V)} (s : Nat) {d : D} (l' : List (Nat × D)) (hE : E.Closed) (hA : Acs E m sz ys d L) (hd : look l s = d) (h1 : leAll l l') (h2 : ltAll E.H0.length l') :
    Ent E (fr n l) (E.H0 ++ L) (fr n ((s, .v (.list sz ys)) :: l')) E.H0 := by
  rcases hA with ⟨rfl, rfl, rfl⟩ | ⟨ver, zs, _, hle, hz, rfl, rfl⟩
  · rw [List.append_nil]
    exact Ent.weakFr ⟨hd ▸ D.le_nils sz, h1⟩
  · have g : (E.H0 ++ (List.replicate m Ob.dead ++ [Ob.arr ver sz (zs.map (·.map D.v)) 0]))[E.H0.length + m]? = some (.arr ver sz (zs.map (·.map .v)) 0) := by
      rw [hp_get, List.getElem?_append_right (by simp)]; simp
    refine (Ent.weakFr (l' := (s, .own (E.H0.length + m) ver ys.length) :: l') ⟨hd ▸ D.le_refl _, h1⟩).trans ((Ent.pubFr (E.H0.length + m) zs g (Nat.zero_le _) rfl).trans ?_)
    rw [hp_set]
    have e : Ent E (fr n (convFr (E.H0.length + m) ver sz zs ((s, .own (E.H0.length + m) ver ys.length) :: l'))) (E.H0 ++ ((List.replicate m Ob.dead ++ [Ob.arr ver sz (zs.map (·.map D.v)) 0]).set m (Ob.arr ver sz (zs.map (·.map D.v)) zs.length))) (fr n ((s, .v (.list sz ys)) :: l')) (E.H0 ++ ((List.replicate m Ob.dead ++ [Ob.arr ver sz (zs.map (·.map D.v)) 0]).set m (Ob.arr ver sz (zs.map (·.map D.v)) zs.length))) := by
      refine Ent.weak (leL_map _ _ _ fun i => ?_)
      rw [look_conv]
      simp only [look_cons]
      split
      · simp only [D.conv, true_and, hle, if_true, hz]; exact D.le_refl _
      · rw [conv_old (Nat.le_add_right _ m) (ltAll_look h2 i)]; exact D.le_refl _
    refine e.trans ?_
    have g2 := Ent.gcFr (n := n) (l := (s, .v (.list sz ys)) :: l') [] ((List.replicate m Ob.dead ++ [Ob.arr ver sz (zs.map (·.map D.v)) 0]).set m (Ob.arr ver sz (zs.map (·.map D.v)) zs.length)) hE ⟨by simp only [D.lt], h2⟩ trivial
    rwa [List.append_nil] at g2
end Go.Ag
