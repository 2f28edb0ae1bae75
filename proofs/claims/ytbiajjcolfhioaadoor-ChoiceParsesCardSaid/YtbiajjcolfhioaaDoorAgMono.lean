/- AGo, part 13: an operation's answer, told with less. -/
import Derived.Test.YtbiajjcolfhioaaDoorAgFr
set_option linter.all false
namespace Go.Ag
open Go Go.RowKit

theorem aLoad_mono {P : Program} {t : TypeId} {d : D} {H : List Ob} {K K' : D → Prop} (hk : ∀ d, K d → K' d) (h : aLoad P t d H K) : aLoad P t d H K' := by
  unfold aLoad at *; (repeat' split at h) <;> grind
theorem aAlloc_mono {P : Program} {t : TypeId} {H : List Ob} {K K' : D → List Ob → Prop} (hk : ∀ d H, K d H → K' d H) (h : aAlloc P t H K) : aAlloc P t H K' := by
  unfold aAlloc at *; grind
theorem aBox_mono {d : D} {H : List Ob} {K K' : D → List Ob → Prop} (hk : ∀ d H, K d H → K' d H) (h : aBox d H K) : aBox d H K' := by
  unfold aBox at *; grind
theorem aStore_mono {P : Program} {t : TypeId} {d x : D} {H : List Ob} {K K' : List Ob → Prop} (hk : ∀ H, K H → K' H) (h : aStore P t d x H K) : aStore P t d x H K' := by
  unfold aStore at *; (repeat' split at h) <;> grind
theorem aFieldAddr_mono {P : Program} {t : TypeId} {d : D} {f : Nat} {H : List Ob} {K K' : D → Prop} (hk : ∀ d, K d → K' d) (h : aFieldAddr P t d f H K) : aFieldAddr P t d f H K' := by
  unfold aFieldAddr at *; (repeat' split at h) <;> grind
theorem aIndexAddr_mono {P : Program} {t : TypeId} {d i : D} {H : List Ob} {K K' : D → Prop} (hk : ∀ d, K d → K' d) (h : aIndexAddr P t d i H K) : aIndexAddr P t d i H K' := by
  unfold aIndexAddr at *; (repeat' split at h) <;> grind
theorem aIndex_mono {P : Program} {t : TypeId} {d i : D} {K K' : D → Prop} (hk : ∀ d, K d → K' d) (h : aIndex P t d i K) : aIndex P t d i K' := by
  unfold aIndex at *; grind
theorem aSlice_mono {P : Program} {t : TypeId} {d : D} {lo hi : Option D} {H : List Ob} {K K' : D → Prop} (hk : ∀ d, K d → K' d) (h : aSlice P t d lo hi H K) : aSlice P t d lo hi H K' := by
  unfold aSlice at *; grind
theorem aEq_mono {P : Program} {t : TypeId} {x y : D} {H : List Ob} {K K' : Bool → Prop} (hk : ∀ d, K d → K' d) (h : aEq P t x y H K) : aEq P t x y H K' := by
  unfold aEq at *; (repeat' split at h) <;> grind
theorem aBin_mono {P : Program} {op : BinOp} {t : TypeId} {x y : D} {H : List Ob} {K K' : D → Prop} (hk : ∀ d, K d → K' d) (h : aBin P op t x y H K) : aBin P op t x y H K' := by
  cases op
  case eql => unfold aBin at *; exact aEq_mono (fun b hb => hk _ hb) h
  case neq => unfold aBin at *; exact aEq_mono (fun b hb => hk _ hb) h
  all_goals (unfold aBin at *; (repeat' split at h) <;> grind)
theorem aUn_mono {op : UnOp} {x : D} {K K' : D → Prop} (hk : ∀ d, K d → K' d) (h : aUn op x K) : aUn op x K' := by
  unfold aUn at *; grind
theorem aConv_mono {P : Program} {s t : TypeId} {x : D} {K K' : D → Prop} (hk : ∀ d, K d → K' d) (h : aConv P s t x K) : aConv P s t x K' := by
  unfold aConv at *; grind
theorem aBuild_mono {P : Program} {t : TypeId} {parts : List (Nat × D)} {K K' : D → Prop} (hk : ∀ d, K d → K' d) (h : aBuild P t parts K) : aBuild P t parts K' := by
  unfold aBuild at *; (repeat' split at h) <;> grind
theorem aBuildSlice_mono {P : Program} {t : TypeId} {n : Nat} {parts : List (Nat × D)} {H : List Ob} {K K' : D → List Ob → Prop} (hk : ∀ d H, K d H → K' d H) (h : aBuildSlice P t n parts H K) : aBuildSlice P t n parts H K' := by
  unfold aBuildSlice at *; (repeat' split at h) <;> grind
theorem aSrc_mono {x : D} {H : List Ob} {sz : Nat} {K K' : List (List D) → Prop} (hk : ∀ d, K d → K' d) (h : aSrc x H sz K) : aSrc x H sz K' := by
  unfold aSrc at *; grind
theorem aAppend_mono {P : Program} {t t2 : TypeId} {s x : D} {H : List Ob} {K K' : D → List Ob → Prop} (hk : ∀ d H, K d H → K' d H) (h : aAppend P t t2 s x H K) : aAppend P t t2 s x H K' := by
  unfold aAppend at *
  refine ⟨h.1, ?_⟩
  have h := h.2
  cases ht : tk P t <;> simp only [ht] at h ⊢
  case sl e esz bytes =>
    cases hz : zerosB P e with
    | none => simp only [hz] at h
    | some z =>
      simp only [hz] at h ⊢
      refine ⟨h.1, aSrc_mono (fun rows hr => ?_) h.2⟩
      cases s <;> first
        | exact hr.elim
        | exact ⟨fun e => hk _ _ (hr.1 e), fun e => ⟨(hr.2 e).1, (hr.2 e).2.1, hk _ _ (hr.2 e).2.2⟩⟩
        | (simp only [] at hr ⊢
           split at hr
           · rename_i ho
             exact ⟨hr.1, hr.2.1, hr.2.2.1, hr.2.2.2.1, hr.2.2.2.2.1, hr.2.2.2.2.2.1, hk _ _ hr.2.2.2.2.2.2⟩
           · exact hr.elim)
theorem aLen_mono {P : Program} {t : TypeId} {d : D} {H : List Ob} {K K' : D → Prop} (hk : ∀ d, K d → K' d) (h : aLen P t d H K) : aLen P t d H K' := by
  unfold aLen at *; (repeat' split at h) <;> grind
theorem aMax_mono {x y : D} {K K' : D → Prop} (hk : ∀ d, K d → K' d) (h : aMax x y K) : aMax x y K' := by unfold aMax at *; grind
theorem aMin_mono {x y : D} {K K' : D → Prop} (hk : ∀ d, K d → K' d) (h : aMin x y K) : aMin x y K' := by unfold aMin at *; grind
theorem aMakeSlice_mono {P : Program} {t : TypeId} {l c : D} {H : List Ob} {K K' : D → List Ob → Prop} (hk : ∀ d H, K d H → K' d H) (h : aMakeSlice P t l c H K) : aMakeSlice P t l c H K' := by
  unfold aMakeSlice at *; (repeat' split at h) <;> grind
theorem aMakeMap_mono {P : Program} {t : TypeId} {r : Option D} {H : List Ob} {K K' : D → List Ob → Prop} (hk : ∀ d H, K d H → K' d H) (h : aMakeMap P t r H K) : aMakeMap P t r H K' := by
  unfold aMakeMap at *; grind
theorem aCall_mono {E : Env} {c : Call} {ρ : Operand → D} {H : List Ob} {K K' : D → List Ob → Prop} (hk : ∀ d H, K d H → K' d H) (h : aCall E c ρ H K) : aCall E c ρ H K' := by
  unfold aCall at *
  split at h
  · split at h
    · exact h.mono hk
    · exact h
  · split at h
    · exact aAppend_mono hk h
    · exact h
  · split at h
    · exact aLen_mono (fun d => hk d H) h
    · exact h
  · split at h
    · exact aMax_mono (fun d => hk d H) h
    · exact h
  · split at h
    · exact aMin_mono (fun d => hk d H) h
    · exact h
  · exact h
theorem aop_mono {E : Env} {o : Oper} {ts : List D} {H : List Ob} {K K' : D → List Ob → Prop} (hk : ∀ d H, K d H → K' d H) (h : aop E o ts H K) : aop E o ts H K' := by
  unfold aop at *
  split at h
  · exact hk _ _ h
  · exact hk _ _ h
  · split at h
    · exact hk _ _ h
    · exact h
  · exact aAlloc_mono hk h
  · exact aBox_mono hk h
  · exact ⟨h.1, aBuild_mono (fun d => hk d H) h.2⟩
  · exact aBuildSlice_mono hk h
  · exact aLoad_mono (fun d => hk d H) h
  · exact aStore_mono (fun H' => hk _ H') h
  · split at h
    · exact hk _ _ h
    · exact hk _ _ h
    · exact ⟨h.1, hk _ _ h.2⟩
    · exact h
  · exact aBin_mono (fun d => hk d H) h
  · exact aUn_mono (fun d => hk d H) h
  · exact aConv_mono (fun d => hk d H) h
  · split at h
    · exact ⟨h.1, hk _ _ h.2⟩
    · exact h
  · exact aMakeMap_mono hk h
  · exact aMakeSlice_mono hk h
  · exact ⟨h.1, aSlice_mono (fun d => hk d H) h.2⟩
  · exact aFieldAddr_mono (fun d => hk d H) h
  · exact aIndexAddr_mono (fun d => hk d H) h
  · exact aIndex_mono (fun d => hk d H) h
  · split at h
    · split at h
      · exact hk _ _ h
      · exact h
    · exact h
  · exact aCall_mono hk h
  · exact h

end Go.Ag
