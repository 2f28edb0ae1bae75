/- AGo, part 22: short names, for simp alone. -/
import Derived.Test.YtbiajjcolfhioaaDoorAgMix
import Derived.Test.YtbiajjcolfhioaaDoorAgFinB
set_option linter.all false
namespace Go.Ag
open Go Go.RowKit
set_option linter.defProp false

def zaa := @Ex_and
def zab := @Ex_eq
def zac := @Ex_eq'
def zad := @ev_tmp
def zae := @ev_const
def zaf := @ev_func
def zag := @ev_glob
def zah := @putD_some
def zai := @putD_none
def zaj := @look_cons
def zak := @look_nil
def zal := @if_true
def zam := @if_false
def zan := @Th_normal
def zao := @Th_ret
def zap := @Th_exit
def zaq := @Bl_normal
def zar := @Bl_ret
def zas := @Bl_exit
def zat := @Out_normal
def zau := @Out_ret
def zav := @Out_exit
def zaw := @List.flatten_cons
def zax := @List.flatten_nil
def zay := @hp_get0
def zaz := @hp_get
def za0 := @hp_set0
def za1 := @hp_set
def za2 := @hp_len
def za3 := @hp_push
def za4 := @List.cons_append
def za5 := @List.nil_append
def za6 := @List.append_nil
def za7 := @List.length_nil
def za8 := @List.length_cons
def za9 := @Nat.zero_add
def zba := @Nat.add_zero
def zbb := @Nat.le_refl
def zbc := @List.getElem?_cons_zero
def zbd := @List.getElem?_cons_succ
def zbe := @List.getElem?_nil
def zbf := @List.set_cons_zero
def zbg := @List.set_cons_succ
def zbh := @List.take_succ_cons
def zbi := @List.take_zero
def zbj := @List.drop_succ_cons
def zbk := @List.drop_zero
def zbl := @List.take_nil
def zbm := @List.drop_nil
def zbn := @List.map_cons
def zbo := @List.map_nil
def zbp := @List.all_cons
def zbq := @List.all_nil
def zbr := @Bool.and_true
def zbs := @Bool.true_and
def zbt := @Bool.and_self
def zbu := @Option.bind_some
def zbv := @Option.bind_none
def zbw := @Option.map_some
def zbx := @Option.map_none
def zby := @true_and
def zbz := @and_true
def zb0 := @ne_eq
def zb1 := @not_false_eq_true
def zb2 := @not_true_eq_false
def zb3 := @and_self
def zb4 := @Nat.add_eq
def zb5 := @List.getD_cons_zero
def zb6 := @List.getD_cons_succ
def zb7 := @beq_self_eq_true
def zb8 := @List.toList_toArray
def zb9 := @Int.toNat_natCast
def zca := @List.getD_eq_getElem?_getD
def zcb := @List.getElem?_map
def zcc := @Option.getD_some
def zcd := @Int.natCast_nonneg
def zce := @List.length_map
def zcf := @Int.ofNat_lt
def zcg := @Int.ofNat_le
def zch := @lit_le
def zci := @lit_lt
def zcj := @lit_ge
def zck := @lit_gt
def zcl := @lit_beq
def zcm := @nat_beq
def zcn := @nat_ge
def zco := @nat_gt
def zcp := @take_len_map
def zcq := @take_len
def zcr := @Via_normal
def zcs := @fr_set
def zct := @fr_get
def zcu := @List.getElem?_toArray
def zcv := @Bool.not_true
def zcw := @Bool.not_false
def zcx := @forall_const
def zcy := @true_implies
def zcz := @false_implies
def zc0 := @Bool.true_eq_false
def zc1 := @Bool.false_eq_true
def zc2 := @List.length_append
def zc3 := @List.append_eq_nil_iff

section
variable {E : Env} {o : Oper} {ts : List D} {H : List Ob}
theorem goA {K : D → List Ob → Prop} (h : aop E o ts H K) : aop E o ts H K := h
theorem goB {K : D → Prop} (h : Ex (fun d => aop E o ts H fun d' H' => d' = d ∧ H' = H) K) : Ex (fun d => aop E o ts H fun d' H' => d' = d ∧ H' = H) K := h
theorem goC {K : D → Prop} (h : Ex (fun d => ∀ H, aop E o ts H fun d' H' => d' = d ∧ H' = H) K) : Ex (fun d => ∀ H, aop E o ts H fun d' H' => d' = d ∧ H' = H) K := h
end
end Go.Ag
