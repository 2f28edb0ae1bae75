/- AGo, part 15: how a walk is reckoned. -/
import Derived.Test.YtbiajjcolfhioaaDoorAgDraw
set_option linter.all false
namespace Go.Ag
open Go Go.RowKit

@[congr] theorem Sat_cg {E : Env} {c : Code} {ts ts' : List D} {H H' : List Ob} {Q : Exit → List D → List Ob → Prop} (h1 : ts = ts') (h2 : H = H') : Sat E c ts H Q = Sat E c ts' H' Q := by subst h1 h2; rfl
@[congr] theorem ACalls_cg {P : Program} {G : Nat → Option (List V)} {f : FuncId} {args args' : List D} {H H' : List Ob} {K : D → List Ob → Prop} (h1 : args = args') (h2 : H = H') : ACalls P G f args H K = ACalls P G f args' H' K := by subst h1 h2; rfl
@[congr] theorem aop_cg {E : Env} {o : Oper} {ts ts' : List D} {H H' : List Ob} {K : D → List Ob → Prop} (h1 : ts = ts') (h2 : H = H') : aop E o ts H K = aop E o ts' H' K := by subst h1 h2; rfl
@[congr] theorem aops_cg {E : Env} {all : Array Oper} {l : List Oper} {ts ts' : List D} {H H' : List Ob} {Q : List D → List Ob → Prop} (h1 : ts = ts') (h2 : H = H') : aops E all l ts H Q = aops E all l ts' H' Q := by subst h1 h2; rfl
@[congr] theorem qops_cg {E : Env} {all : Array Oper} {l l' : List Oper} {ts ts' : List D} {H H' : List Ob} {Q : List D → Prop} (h1 : ts = ts') (h2 : H = H') (h3 : l = l') : qops E all H l ts Q = qops E all H' l' ts' Q := by subst h1 h2 h3; rfl
@[congr] theorem Ex_cg {A A' B : D → Prop} (h : ∀ d, A d = A' d) : Ex A B = Ex A' B := by have : A = A' := funext h; subst this; rfl
@[congr] theorem aAlloc_cg {P : Program} {t : TypeId} {H H' : List Ob} {K : D → List Ob → Prop} (h2 : H = H') : aAlloc P t H K = aAlloc P t H' K := by subst h2; rfl
@[congr] theorem aBox_cg {d d' : D} {H H' : List Ob} {K : D → List Ob → Prop} (h1 : d = d') (h2 : H = H') : aBox d H K = aBox d' H' K := by subst h1 h2; rfl
@[congr] theorem aStore_cg {P : Program} {t : TypeId} {d d' x x' : D} {H H' : List Ob} {K : List Ob → Prop} (h1 : d = d') (h2 : x = x') (h3 : H = H') : aStore P t d x H K = aStore P t d' x' H' K := by subst h1 h2 h3; rfl
@[congr] theorem aLoad_cg {P : Program} {t : TypeId} {d d' : D} {H H' : List Ob} {K : D → Prop} (h1 : d = d') (h2 : H = H') : aLoad P t d H K = aLoad P t d' H' K := by subst h1 h2; rfl
@[congr] theorem aFieldAddr_cg {P : Program} {t : TypeId} {d d' : D} {f : Nat} {H H' : List Ob} {K : D → Prop} (h1 : d = d') (h2 : H = H') : aFieldAddr P t d f H K = aFieldAddr P t d' f H' K := by subst h1 h2; rfl
@[congr] theorem aIndexAddr_cg {P : Program} {t : TypeId} {d d' i i' : D} {H H' : List Ob} {K : D → Prop} (h1 : d = d') (h2 : i = i') (h3 : H = H') : aIndexAddr P t d i H K = aIndexAddr P t d' i' H' K := by subst h1 h2 h3; rfl
@[congr] theorem aIndex_cg {P : Program} {t : TypeId} {d d' i i' : D} {K : D → Prop} (h1 : d = d') (h2 : i = i') : aIndex P t d i K = aIndex P t d' i' K := by subst h1 h2; rfl
@[congr] theorem aSlice_cg {P : Program} {t : TypeId} {d d' : D} {lo lo' hi hi' : Option D} {H H' : List Ob} {K : D → Prop} (h1 : d = d') (h2 : lo = lo') (h3 : hi = hi') (h4 : H = H') : aSlice P t d lo hi H K = aSlice P t d' lo' hi' H' K := by subst h1 h2 h3 h4; rfl
@[congr] theorem aEq_cg {P : Program} {t : TypeId} {x x' y y' : D} {H H' : List Ob} {K : Bool → Prop} (h1 : x = x') (h2 : y = y') (h3 : H = H') : aEq P t x y H K = aEq P t x' y' H' K := by subst h1 h2 h3; rfl
@[congr] theorem aBin_cg {P : Program} {op : BinOp} {t : TypeId} {x x' y y' : D} {H H' : List Ob} {K : D → Prop} (h1 : x = x') (h2 : y = y') (h3 : H = H') : aBin P op t x y H K = aBin P op t x' y' H' K := by subst h1 h2 h3; rfl
@[congr] theorem aUn_cg {op : UnOp} {x x' : D} {K : D → Prop} (h1 : x = x') : aUn op x K = aUn op x' K := by subst h1; rfl
@[congr] theorem aConv_cg {P : Program} {s t : TypeId} {x x' : D} {K : D → Prop} (h1 : x = x') : aConv P s t x K = aConv P s t x' K := by subst h1; rfl
@[congr] theorem aBuild_cg {P : Program} {t : TypeId} {p p' : List (Nat × D)} {K : D → Prop} (h1 : p = p') : aBuild P t p K = aBuild P t p' K := by subst h1; rfl
@[congr] theorem aBuildSlice_cg {P : Program} {t : TypeId} {n : Nat} {p p' : List (Nat × D)} {H H' : List Ob} {K : D → List Ob → Prop} (h1 : p = p') (h2 : H = H') : aBuildSlice P t n p H K = aBuildSlice P t n p' H' K := by subst h1 h2; rfl
@[congr] theorem aSrc_cg {x x' : D} {H H' : List Ob} {sz : Nat} {K : List (List D) → Prop} (h1 : x = x') (h2 : H = H') : aSrc x H sz K = aSrc x' H' sz K := by subst h1 h2; rfl
@[congr] theorem aAppend_cg {P : Program} {t t2 : TypeId} {s s' x x' : D} {H H' : List Ob} {K : D → List Ob → Prop} (h1 : s = s') (h2 : x = x') (h3 : H = H') : aAppend P t t2 s x H K = aAppend P t t2 s' x' H' K := by subst h1 h2 h3; rfl
@[congr] theorem aLen_cg {P : Program} {t : TypeId} {d d' : D} {H H' : List Ob} {K : D → Prop} (h1 : d = d') (h2 : H = H') : aLen P t d H K = aLen P t d' H' K := by subst h1 h2; rfl
@[congr] theorem aMax_cg {x x' y y' : D} {K : D → Prop} (h1 : x = x') (h2 : y = y') : aMax x y K = aMax x' y' K := by subst h1 h2; rfl
@[congr] theorem aMin_cg {x x' y y' : D} {K : D → Prop} (h1 : x = x') (h2 : y = y') : aMin x y K = aMin x' y' K := by subst h1 h2; rfl
@[congr] theorem aMakeSlice_cg {P : Program} {t : TypeId} {l l' c c' : D} {H H' : List Ob} {K : D → List Ob → Prop} (h1 : l = l') (h2 : c = c') (h3 : H = H') : aMakeSlice P t l c H K = aMakeSlice P t l' c' H' K := by subst h1 h2 h3; rfl
@[congr] theorem aMakeMap_cg {P : Program} {t : TypeId} {r r' : Option D} {H H' : List Ob} {K : D → List Ob → Prop} (h1 : r = r') (h2 : H = H') : aMakeMap P t r H K = aMakeMap P t r' H' K := by subst h1 h2; rfl

@[congr] theorem Gd_cg {b b' w : Bool} {x y : Prop} (h : b = b') : Gd b w x y = Gd b' w x y := by subst h; rfl
theorem Gd_tt (x y : Prop) : Gd true true x y = x := by simp [Gd]
theorem Gd_ff (x y : Prop) : Gd false false x y = x := by simp [Gd]
theorem Gd_tf (x y : Prop) : Gd true false x y = y := by simp [Gd]
theorem Gd_ft (x y : Prop) : Gd false true x y = y := by simp [Gd]
theorem Gd.split {b w : Bool} {x y : Prop} (h : b = w → x) (k : b = !w → y) : Gd b w x y := ⟨h, k⟩
theorem Ex_and {p : Prop} {A B : D → Prop} : Ex (fun d => p ∧ A d) B = (p ∧ Ex A B) := by
  unfold Ex; apply propext
  constructor
  · rintro ⟨d, ⟨h1, h2⟩, h3⟩; exact ⟨h1, d, h2, h3⟩
  · rintro ⟨h1, d, h2, h3⟩; exact ⟨d, ⟨h1, h2⟩, h3⟩
theorem Ex_eq {x : D} {p : Prop} {B : D → Prop} : Ex (fun d => x = d ∧ p) B = (p ∧ B x) := by
  unfold Ex; apply propext
  constructor
  · rintro ⟨d, ⟨rfl, h2⟩, h3⟩; exact ⟨h2, h3⟩
  · rintro ⟨h1, h2⟩; exact ⟨x, ⟨rfl, h1⟩, h2⟩
theorem Ex_eq' {x : D} {B : D → Prop} : Ex (fun d => x = d) B = B x := by
  unfold Ex; apply propext
  constructor
  · rintro ⟨d, rfl, h3⟩; exact h3
  · intro h; exact ⟨x, rfl, h⟩
theorem Ex_intro {A B : D → Prop} (d : D) (h1 : A d) (h2 : B d) : Ex A B := ⟨d, h1, h2⟩

/-! ### the heap of a call: what was there, and what it made -/
theorem hp_get (H L : List Ob) (k : Nat) : (H ++ L)[H.length + k]? = L[k]? := by
  rw [List.getElem?_append_right (by omega)]; congr 1; omega
theorem hp_get0 (H L : List Ob) : (H ++ L)[H.length]? = L[0]? := by
  rw [List.getElem?_append_right (by omega)]; congr 1; omega
theorem hp_old {H L : List Ob} {b : Nat} {o : Ob} (h : H[b]? = some o) : (H ++ L)[b]? = some o := by
  rw [List.getElem?_append_left (List.getElem?_eq_some_iff.1 h).1]; exact h
theorem hp_set (H L : List Ob) (k : Nat) (o : Ob) : (H ++ L).set (H.length + k) o = H ++ L.set k o := by
  rw [List.set_append_right _ _ (by omega)]; congr 2; omega
theorem hp_set0 (H L : List Ob) (o : Ob) : (H ++ L).set H.length o = H ++ L.set 0 o := by
  rw [List.set_append_right _ _ (by omega)]; congr 2; omega
theorem hp_len (H L : List Ob) : (H ++ L).length = H.length + L.length := List.length_append
theorem hp_push (H L : List Ob) (o : Ob) : (H ++ L) ++ [o] = H ++ (L ++ [o]) := List.append_assoc _ _ _

theorem Th_normal {next : List D → List Ob → Prop} {Q : Exit → List D → List Ob → Prop} {ts : List D} {H : List Ob} : Th next Q .normal ts H = next ts H := rfl
theorem Th_exit {next : List D → List Ob → Prop} {Q : Exit → List D → List Ob → Prop} {ts : List D} {H : List Ob} {i : Nat} : Th next Q (.exit i) ts H = Q (.exit i) ts H := rfl
theorem Th_ret {next : List D → List Ob → Prop} {Q : Exit → List D → List Ob → Prop} {ts : List D} {H : List Ob} : Th next Q .ret ts H = Q .ret ts H := rfl
theorem Bl_normal {id : Nat} {Q : Exit → List D → List Ob → Prop} {ts : List D} {H : List Ob} : Bl id Q .normal ts H = Q .normal ts H := rfl
theorem Bl_ret {id : Nat} {Q : Exit → List D → List Ob → Prop} {ts : List D} {H : List Ob} : Bl id Q .ret ts H = Q .ret ts H := rfl
theorem Bl_exit {id i : Nat} {Q : Exit → List D → List Ob → Prop} {ts : List D} {H : List Ob} : Bl id Q (.exit i) ts H = if i = id then Q .normal ts H else Q (.exit i) ts H := rfl

theorem sat_seq' {E : Env} {ts : List D} {H : List Ob} {Q : Exit → List D → List Ob → Prop} {x y : Code} (h : Sat E x ts H (Th (fun ts H => Sat E y ts H Q) Q)) : Sat E (.seq x y) ts H Q :=
  sat_seq fun K hK => h.mono fun e ts H hq => by cases e <;> first | exact hK _ _ hq | exact hq
theorem sat_if {E : Env} {ts : List D} {H : List Ob} {Q : Exit → List D → List Ob → Prop} {c : Operand} {x y : Code} (b : Bool) (hc : ev E ts c = .v (.bool b)) (ht : b = true → Sat E x ts H Q) (hf : b = false → Sat E y ts H Q) : Sat E (.cond c x y) ts H Q := sat_cond hc ht hf

end Go.Ag
