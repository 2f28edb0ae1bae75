/- AGo, part 5: indexing, slicing, arithmetic, comparisons. -/
import Derived.Test.YtbiajjcolfhioaaDoorAgOpB
set_option linter.all false
namespace Go.Ag
open Go Go.RowKit

/-- Is an object's array still the one of that round? -/
def vOk (H : List Ob) (b ver : Nat) : Prop :=
  match H[b]? with
  | some (.arr ver' _ _ _) => ver' = ver
  | _ => False
theorem vOk_ver {E : Env} {M : Mem} {μ : Mu} {H : List Ob} {w : World} (h : R E M μ H w) {b ver : Nat} (k : vOk H b ver) {p : Pt} (hp : μ b = some p) : p.ver = ver := by
  unfold vOk at k
  cases ho : H[b]? with
  | none => simp [ho] at k
  | some ob =>
    cases ob <;> simp only [ho] at k
    case arr ver' sz xs esc => subst k; exact (h.obj b _ p ho hp).2.1
    all_goals exact k.elim

def aIndexAddr (P : Program) (t : TypeId) (d i : D) (H : List Ob) (K : D → Prop) : Prop :=
  match i with
  | .v (.int _ n) => (match tk P t with
    | .sl _ esz _ => (match d with
      | .v (.list sz xs) => 0 ≤ n ∧ n < xs.length ∧ sz = esz ∧ K (.rptr (xs.getD n.toNat []))
      | .own b ver len => 0 ≤ n ∧ n < len ∧ vOk H b ver ∧ K (.eptr b ver esz n.toNat 0)
      | _ => False)
    | .ar len esz _ => (match d with
      | .ptr b o => 0 ≤ n ∧ n < len ∧ esz ≠ 0 ∧ K (.ptr b (o + n.toNat * esz))
      | .rptr cs => 0 ≤ n ∧ n < len ∧ esz ≠ 0 ∧ K (.rptr (cs.drop (n.toNat * esz)))
      | _ => False)
    | _ => False)
  | _ => False

theorem aIndexAddr_sound {E : Env} {M : Mem} {μ : Mu} {H : List Ob} {w : World} (h : R E M μ H w) {t : TypeId} {d i : D} {y z : Value} (hy : Rel M μ d y) (hz : Rel M μ i z) {K : D → Prop} (k : aIndexAddr E.P t d i H K) :
    ∃ v d', (Instr.indexAt t y z).run E.P w = .ok v w ∧ Rel M μ d' v ∧ K d' := by
  unfold aIndexAddr at k
  cases i <;> simp only [] at k
  case v x =>
    cases x <;> simp only [] at k
    case int kk n =>
      simp only [Rel, RelV] at hz
      subst hz
      cases ht : tk E.P t <;> simp only [ht] at k
      case sl e esz bytes =>
        obtain ⟨j, hu, hj, hsz, hby⟩ := tk_sl ht
        cases d <;> (try simp only [] at k)
        case v x =>
          cases x <;> (try simp only [] at k)
          case list sz xs =>
            obtain ⟨h0, hn, rfl, k⟩ := k
            simp only [Rel, RelV] at hy
            obtain ⟨A, c, rfl, hc, hr⟩ := hy
            rcases hr with rfl | ⟨b, o, rfl, hr⟩
            · simp at hn; omega
            · have hx : xs[n.toNat]? = some (xs.getD n.toNat []) := by
                rw [List.getD_eq_getElem?_getD, List.getElem?_eq_getElem (by omega)]; rfl
              have hg := hr.get _ _ hx
              refine ⟨.pointer (some ⟨b, o + n.toNat * sz, none⟩), _, ?_, by simp only [Rel]; exact ⟨b, _, rfl, hg.2⟩, k⟩
              simp [Instr.indexAt, run_underlying hu, asIntOf, h0, hn, sizeOf, typeInfo, hj, hsz, Addr.add_mid]
          all_goals exact k.elim
        case own b ver len =>
          obtain ⟨h0, hn, hv, k⟩ := k
          simp only [Rel] at hy
          obtain ⟨_, p, hp, hle, hv1, hy⟩ := hy
          obtain ⟨hlen, rfl⟩ := hy (vOk_ver h hv hp)
          refine ⟨.pointer (some ⟨p.blk, n.toNat * esz, none⟩), _, ?_, by simp only [Rel]; exact ⟨⟨_, rfl⟩, p, hp, hle, hv1, fun _ => by rw [Nat.add_zero]⟩, k⟩
          simp [Instr.indexAt, run_underlying hu, asIntOf, h0, hn, sizeOf, typeInfo, hj, hsz, Addr.add_mid]
        all_goals exact k.elim
      case ar len esz sz =>
        obtain ⟨e, i, hu, hi, hsz, rfl⟩ := tk_ar ht
        have hrun : ∀ b o, 0 ≤ n → n < len → szB E.P e ≠ 0 → (Instr.indexAt t (.pointer (some ⟨b, o, none⟩)) (.int kk n)).run E.P w = .ok (.pointer (some ⟨b, o + n.toNat * szB E.P e, none⟩)) w := fun b o h0 hn hnz => by
          simp [Instr.indexAt, run_underlying hu, asIntOf, Instr.sureAddr, h0, hn, run_sizeOf' rfl hnz, Addr.add_mid]
        cases d <;> simp only [] at k
        case ptr b o =>
          obtain ⟨h0, hn, hnz, k⟩ := k
          simp only [Rel] at hy
          obtain ⟨p, hp, hv, rfl⟩ := hy
          exact ⟨_, _, hrun _ _ h0 hn hnz, by simp only [Rel]; exact ⟨p, hp, hv, rfl⟩, k⟩
        case rptr cs =>
          obtain ⟨h0, hn, hnz, k⟩ := k
          simp only [Rel] at hy
          obtain ⟨b, o, rfl, hr⟩ := hy
          exact ⟨_, _, hrun _ _ h0 hn hnz, by simp only [Rel]; exact ⟨b, _, rfl, hr.drop _⟩, k⟩
        all_goals exact k.elim
      all_goals exact k.elim
    all_goals exact k.elim
  all_goals exact k.elim

theorem tk_str {P : Program} {t : TypeId} (h : tk P t = .str) : P.underlying t = some .string := by
  unfold tk at h
  cases hu : P.underlying t with
  | none => simp [hu] at h
  | some d =>
    cases hi : P.info? t with
    | none => simp only [hu, hi] at h; cases d <;> simp at h
    | some i =>
      simp only [hu, hi] at h
      cases d <;> simp only [reduceCtorEq] at h
      case slice e => split at h <;> simp at h
      case string => rfl
theorem tk_it {P : Program} {t : TypeId} {k : IntKind} (h : tk P t = .it k) : P.underlying t = some (.int k) := by
  unfold tk at h
  cases hu : P.underlying t with
  | none => simp [hu] at h
  | some d =>
    cases hi : P.info? t with
    | none => simp only [hu, hi] at h; cases d <;> simp at h
    | some i =>
      simp only [hu, hi] at h
      cases d <;> simp only [reduceCtorEq, TK.it.injEq] at h
      case slice e => split at h <;> simp at h
      case int k' => rw [h]
theorem tk_bl {P : Program} {t : TypeId} (h : tk P t = .bl) : P.underlying t = some .bool := by
  unfold tk at h
  cases hu : P.underlying t with
  | none => simp [hu] at h
  | some d =>
    cases hi : P.info? t with
    | none => simp only [hu, hi] at h; cases d <;> simp at h
    | some i =>
      simp only [hu, hi] at h
      cases d <;> simp only [reduceCtorEq] at h
      case slice e => split at h <;> simp at h
      case bool => rfl
theorem tk_pt {P : Program} {t : TypeId} (h : tk P t = .pt) : ∃ e, P.underlying t = some (.pointer e) := by
  unfold tk at h
  cases hu : P.underlying t with
  | none => simp [hu] at h
  | some d =>
    cases hi : P.info? t with
    | none => simp only [hu, hi] at h; cases d <;> simp at h
    | some i =>
      simp only [hu, hi] at h
      cases d <;> simp only [reduceCtorEq] at h
      case slice e => split at h <;> simp at h
      case pointer e => exact ⟨e, rfl⟩
theorem tk_mp {P : Program} {t : TypeId} {k e : TypeId} (h : tk P t = .mp k e) : P.underlying t = some (.map k e) := by
  unfold tk at h
  cases hu : P.underlying t with
  | none => simp [hu] at h
  | some d =>
    cases hi : P.info? t with
    | none => simp only [hu, hi] at h; cases d <;> simp at h
    | some i =>
      simp only [hu, hi] at h
      cases d <;> simp only [reduceCtorEq, TK.mp.injEq] at h
      case slice e => split at h <;> simp at h
      case map k' e' => rw [h.1, h.2]

/-! ### an element of a string -/
def aIndex (P : Program) (t : TypeId) (d i : D) (K : D → Prop) : Prop :=
  match i, d, tk P t with
  | .v (.int _ n), .v (.str s), .str => 0 ≤ n ∧ n < s.length ∧ K (.v (.int .u8 (s.getD n.toNat 0).toNat))
  | _, _, _ => False
theorem aIndex_sound {P : Program} {M : Mem} {μ : Mu} {w : World} {t : TypeId} {d i : D} {y z : Value} (hy : Rel M μ d y) (hz : Rel M μ i z) {K : D → Prop} (k : aIndex P t d i K) :
    ∃ v d', (Instr.index t y z).run P w = .ok v w ∧ Rel M μ d' v ∧ K d' := by
  unfold aIndex at k
  split at k
  · rename_i kk n s ht
    obtain ⟨h0, hn, k⟩ := k
    simp only [Rel, RelV] at hy hz
    subst hy; subst hz
    refine ⟨.int .u8 (s.getD n.toNat 0).toNat, _, ?_, by simp only [Rel, RelV], k⟩
    have hlt : n.toNat < s.length := by omega
    have hg : (⟨s.toArray⟩ : ByteArray)[n.toNat]? = some (s.getD n.toNat 0) := by
      have : (⟨s.toArray⟩ : ByteArray)[n.toNat]? = s.toArray[n.toNat]? := by
        simp only [getElem?_def]
        split <;> rename_i h1 <;> split <;> rename_i h2 <;> first | rfl | (exfalso; simp [ByteArray.size] at h1 h2; omega)
      rw [this]
      simp [hlt]
    simp [Instr.index, run_underlying (tk_str ht), asIntOf, h0, hg]
  · exact k.elim

/-! ### slicing -/
def bnd (x : Option D) (dflt : Int) : Int := match x with | none => dflt | some (.v (.int _ n)) => n | _ => -1
def aSlice (P : Program) (t : TypeId) (d : D) (lo hi : Option D) (H : List Ob) (K : D → Prop) : Prop :=
  match d with
  | .v (.str s) => tk P t = .str ∧ 0 ≤ bnd lo 0 ∧ bnd lo 0 ≤ bnd hi s.length ∧ bnd hi s.length ≤ s.length ∧ K (.v (.str ((s.take (bnd hi s.length).toNat).drop (bnd lo 0).toNat)))
  | .v (.list sz xs) => (match tk P t with
    | .sl _ esz _ => sz = esz ∧ 0 ≤ bnd lo 0 ∧ bnd lo 0 ≤ bnd hi xs.length ∧ bnd hi xs.length ≤ xs.length ∧ K (.v (.list sz ((xs.take (bnd hi xs.length).toNat).drop (bnd lo 0).toNat)))
    | _ => False)
  | .nils => (match tk P t with
    | .sl _ _ _ => bnd lo 0 = 0 ∧ bnd hi 0 = 0 ∧ K .nils
    | _ => False)
  | .own b ver len => (match tk P t with
    | .sl _ _ _ => bnd lo 0 = 0 ∧ 0 ≤ bnd hi len ∧ bnd hi len ≤ len ∧ vOk H b ver ∧ K (.own b ver (bnd hi len).toNat)
    | _ => False)
  | _ => False

theorem run_sliceBound_ok {P : Program} {w : World} {k : IntKind} {n : Int} {y : Nat} {c : BoundsCode} (h0 : 0 ≤ n) (h1 : n ≤ y) : (Instr.sliceBound (.int k n) y c).run P w = .ok n.toNat w := by
  simp [Instr.sliceBound, asIntOf, h0, h1]
/-- What a bound is, as a value. -/
def bndV (M : Mem) (μ : Mu) (x : Option D) (v : Option Value) : Prop := match x, v with | none, none => True | some d, some y => Rel M μ d y | _, _ => False
theorem bnd_val {M : Mem} {μ : Mu} {x : Option D} {v : Option Value} {dflt : Int} (h : bndV M μ x v) (h0 : 0 ≤ bnd x dflt) : (x = none ∧ v = none ∧ bnd x dflt = dflt) ∨ ∃ k n, v = some (.int k n) ∧ bnd x dflt = n := by
  cases x with
  | none =>
    cases v with
    | none => exact .inl ⟨rfl, rfl, rfl⟩
    | some y => exact h.elim
  | some d =>
    cases v with
    | none => exact h.elim
    | some y =>
      right
      unfold bnd at h0
      split at h0
      · rename_i h; cases h
      · rename_i k n hd
        cases hd
        simp only [bndV, Rel, RelV] at h
        exact ⟨k, n, by rw [h], rfl⟩
      · omega
theorem run_sliceBounds {P : Program} {w : World} {M : Mem} {μ : Mu} {s : Bool} {len cap : Nat} {lo hi : Option D} {lv hv : Option Value} (hl : bndV M μ lo lv) (hh : bndV M μ hi hv)
    (h0 : 0 ≤ bnd lo 0) (h1 : bnd lo 0 ≤ bnd hi len) (h2 : bnd hi len ≤ cap) :
    (Instr.sliceBounds s len cap lv hv none).run P w = .ok ((bnd lo 0).toNat, (bnd hi len).toNat, cap) w := by
  have h3 : 0 ≤ bnd hi len := by omega
  rcases bnd_val hl h0 with ⟨_, rfl, e0⟩ | ⟨k, n, rfl, e0⟩ <;> rcases bnd_val hh h3 with ⟨_, rfl, e1⟩ | ⟨k', n', rfl, e1⟩
  · simp [Instr.sliceBounds, e0, e1]
  · simp [Instr.sliceBounds, e0, e1, run_sliceBound_ok (show 0 ≤ n' from by omega) (show n' ≤ cap from by omega)]
  · simp [Instr.sliceBounds, e0, e1, run_sliceBound_ok (show 0 ≤ n from by omega) (show n ≤ (len : Int) from by omega)]
  · have ht : (n'.toNat : Int) = n' := Int.toNat_of_nonneg (by omega)
    simp [Instr.sliceBounds, e0, e1, run_sliceBound_ok (P := P) (w := w) (k := k') (c := if s = true then BoundsCode.sliceAcap else BoundsCode.sliceAlen) (show 0 ≤ n' from by omega) (show n' ≤ (cap : Int) from by omega), run_sliceBound_ok (P := P) (w := w) (k := k) (c := .sliceB) (show 0 ≤ n from by omega) (show n ≤ (n'.toNat : Int) from by omega)]

theorem extract_list (s : List UInt8) (a b : Nat) : (⟨s.toArray⟩ : ByteArray).extract a b = ⟨((s.take b).drop a).toArray⟩ := by
  apply ByteArray.ext
  simp only [ByteArray.data_extract]
  apply Array.toList_inj.1
  simp [List.extract_eq_take_drop, List.drop_take]

theorem aSlice_sound {E : Env} {M : Mem} {μ : Mu} {H : List Ob} {w : World} (h : R E M μ H w) {t : TypeId} {d : D} {lo hi : Option D} {y : Value} {lv hv : Option Value} (hy : Rel M μ d y) (hl : bndV M μ lo lv) (hh : bndV M μ hi hv)
    {K : D → Prop} (k : aSlice E.P t d lo hi H K) : ∃ v d', (Instr.sliceAt t y lv hv none).run E.P w = .ok v w ∧ Rel M μ d' v ∧ K d' := by
  unfold aSlice at k
  split at k
  · rename_i s
    obtain ⟨ht, h0, h1, h2, k⟩ := k
    simp only [Rel, RelV] at hy
    subst hy
    refine ⟨.string ((⟨s.toArray⟩ : ByteArray).extract (bnd lo 0).toNat (bnd hi s.length).toNat), _, ?_, ?_, k⟩
    · have hb := run_sliceBounds (P := E.P) (w := w) (s := false) (len := s.length) (cap := s.length) hl hh h0 h1 h2
      have hsz : (⟨s.toArray⟩ : ByteArray).size = s.length := by simp [ByteArray.size]
      simp [Instr.sliceAt, run_underlying (tk_str ht), Instr.slice, hsz, hb]
    · simp only [Rel, RelV]; rw [extract_list]
  · rename_i sz xs
    cases ht : tk E.P t <;> simp only [ht] at k
    case sl e esz bytes =>
      obtain ⟨j, hu, hj, hsz, hby⟩ := tk_sl ht
      obtain ⟨rfl, h0, h1, h2, k⟩ := k
      simp only [Rel, RelV] at hy
      obtain ⟨A, c, rfl, hc, hr⟩ := hy
      have hb := run_sliceBounds (P := E.P) (w := w) (s := true) (len := xs.length) (cap := c) hl hh h0 h1 (by omega)
      refine ⟨.slice (if c = (bnd lo 0).toNat then A else A.map (·.add ((bnd lo 0).toNat * sz))) ((bnd hi xs.length).toNat - (bnd lo 0).toNat) (c - (bnd lo 0).toNat), _, ?_, ?_, k⟩
      · simp [Instr.sliceAt, run_underlying hu, Instr.slice, hb, sizeOf, typeInfo, hj, hsz]
      · simp only [Rel, RelV]
        have hlen : ((xs.take (bnd hi xs.length).toNat).drop (bnd lo 0).toNat).length = (bnd hi xs.length).toNat - (bnd lo 0).toNat := by simp; omega
        refine ⟨_, _, by rw [hlen], ?_, ?_⟩
        · rw [hlen]; omega
        · by_cases he : (xs.take (bnd hi xs.length).toNat).drop (bnd lo 0).toNat = []
          · exact .inl he
          · right
            have hne : ¬ c = (bnd lo 0).toNat := fun e => he (List.drop_eq_nil_of_le (by simp; omega))
            rcases hr with rfl | ⟨b, o, rfl, hr⟩
            · simp at he
            · refine ⟨b, o + (bnd lo 0).toNat * sz, ?_, (hr.take _).drop _⟩
              rw [if_neg hne]
              simp [Addr.add_mid]
    all_goals exact k.elim
  · cases ht : tk E.P t <;> simp only [ht] at k
    case sl e esz bytes =>
      obtain ⟨j, hu, hj, hsz, hby⟩ := tk_sl ht
      obtain ⟨h0, h1, k⟩ := k
      simp only [Rel] at hy
      subst hy
      have hb := run_sliceBounds (P := E.P) (w := w) (s := true) (len := 0) (cap := 0) hl hh (by omega) (by simp; omega) (by simp; omega)
      refine ⟨.slice none 0 0, _, ?_, by simp only [Rel], k⟩
      simp at hb
      simp [Instr.sliceAt, run_underlying hu, Instr.slice, hb, h0, h1, sizeOf, typeInfo, hj, hsz]
    all_goals exact k.elim
  · rename_i b ver len
    cases ht : tk E.P t <;> simp only [ht] at k
    case sl e esz bytes =>
      obtain ⟨j, hu, hj, hsz, hby⟩ := tk_sl ht
      obtain ⟨h0, h1, h2, hv, k⟩ := k
      simp only [Rel] at hy
      obtain ⟨_, p, hp, hle, hv1, hy⟩ := hy
      obtain ⟨hlen, rfl⟩ := hy (vOk_ver h hv hp)
      have hb := run_sliceBounds (P := E.P) (w := w) (s := true) (len := len) (cap := p.cap) hl hh (by omega) (by omega) (by omega)
      refine ⟨.slice (some ⟨p.blk, 0, none⟩) (bnd hi len).toNat p.cap, _, ?_, ?_, k⟩
      · simp [Instr.sliceAt, run_underlying hu, Instr.slice, hb, h0, sizeOf, typeInfo, hj, hsz, Addr.add_mid]
      · simp only [Rel]
        exact ⟨⟨_, _, _, rfl⟩, p, hp, hle, hv1, fun _ => ⟨by omega, rfl⟩⟩
    all_goals exact k.elim
  · exact k.elim

end Go.Ag
