import Derived.Test.YtgnojlbihhnphaaGreatDoorAgSd
set_option linter.all false
namespace Go.Ag
open Go Go.Proofs
variable {G : Nat → Option (List V)}
attribute [local irreducible] aops qops Sat aop

set_option maxRecDepth 20000 in
set_option maxHeartbeats 16000000 in
theorem spec_symMergePr {α : Type} (r : α → List D) (hr : ∀ x, (r x).length = 3) (hcl : ∀ x, (r x).all D.cell = true) (c : α → α → Int) (f : FuncId) (caps : List D) (b ver len : Nat) (hl : len ≤ 1000000) (Hs : List Ob)
    (hf : ∀ x y (H' : List Ob) (K : D → List Ob → Prop), (∀ j, j ≠ b → H'[j]? = Hs[j]?) → K (.v (.int .i64 (c x y))) H' → ACalls Tryz.prog G f (.agg (r x) :: .agg (r y) :: caps) H' K) :
    ∀ (N p m q : Nat) (l : List α) (H : List Ob) (K : D → List Ob → Prop), q - p ≤ N → p < m → m < q → q ≤ len → l.length = len → H[b]? = some (.arr ver 3 (l.map r) 0) → (∀ j, j ≠ b → H[j]? = Hs[j]?) →
      K (.tup []) (H.set b (.arr ver 3 ((symF c N p m q l).map r) 0)) →
      ACalls Tryz.prog G 147 [.own b ver len, .v (.int .i64 p), .v (.int .i64 m), .v (.int .i64 q), .fn f caps] H K := by
  intro N
  induction N with
  | zero => intro p m q l H K h1 h2 h3; omega
  | succ N ih =>
  intro p m q l H K hN hpm hmq hq hlen hb hH0 hK
  have hlt := (List.getElem?_eq_some_iff.1 hb).1
  refine ACalls.go Tryz.f147 _ 220 [] Tryz.func147 rfl Tryz.ntmps147 (by kernel_rfl) rfl (by simp) (fun E hE hP hG hH => ?_)
  have hM : E.P.follows .mixedOrders = true := hP ▸ mixed
  subst hH
  have hrt : ∀ x, (r x).take 3 = r x := fun x => List.take_of_length_le (by rw [hr]; exact Nat.le_refl _)
  have hrd : ∀ x, (r x).drop 3 = [] := fun x => List.drop_of_length_le (by rw [hr]; exact Nat.le_refl _)
  have hms : ∀ (l : List α) i y, (l.map r).set i (r y) = (l.set i y).map r := fun l i y => by simp [List.map_set]
  have hrow : ∀ (xs : List α) (i : Nat) (x : α), xs[i]? = some x → (xs.map r)[i]? = some (r x) := fun xs i x h => by simp [h]
  have hat : ∀ (xs : List α) (i : Nat), xs.length = len → i < len → ∃ x, xs[i]? = some x ∧ (xs.map r)[i]? = some (r x) := fun xs i h1 h2 => ⟨xs[i]'(by omega), List.getElem?_eq_getElem _, hrow _ _ _ (List.getElem?_eq_getElem _)⟩
  have hwmp := wrap_subN (i := m) (j := p) (by omega) (by omega)
  have hwqm := wrap_subN (i := q) (j := m) (by omega) (by omega)
  have hp0 : p < len := by omega
  have hm0 : m < len := by omega
  simp only [args0]
  (refine W0 (c2 t3 @hwmp) ?_; try with_reducible intro K hK)
  refine sat_cond rfl (fun hc1 => ?_) (fun hc1 => ?_)
  · (refine W0 t3 ?_; try with_reducible intro K hK)
    obtain ⟨x0, hx0, hx0r⟩ := hat l p hlen hp0
    refine sat_loop_ent (fun z ts H => ∃ (i j : Nat), z = j - i ∧ m ≤ i ∧ i ≤ j ∧ j ≤ q ∧ bsF (fun h => lessF c l h p) i j = bsF (fun h => lessF c l h p) m q ∧
      ts = fr 220 [(11, .v (.int .i64 j)), (10, .v (.int .i64 i)), (4, .fn f caps), (3, .v (.int .i64 q)), (2, .v (.int .i64 m)), (1, .v (.int .i64 p)), (0, .own b ver len)] ∧ H = E.H0) (q - m) (.weakFr ?_) ⟨m, q, rfl, Nat.le_refl _, by omega, Nat.le_refl _, rfl, rfl, rfl⟩ ?_
    · simp only [le, ↓reduceIte, Nat.reduceEqDiff, and_true]; repeat' (first | exact trivial | exact D.le_refl _ | exact D.le_any _ | with_reducible refine And.intro ?_ ?_)
    rintro z ts H ⟨i, j, rfl, hmi, hij, hjq, hbs, rfl, rfl⟩
    (refine W0 t3 ?_; try with_reducible intro K hK)
    refine sat_cond rfl (fun hc => ?_) (fun hc => ?_)
    · simp at hc
      have hwij := wrap_addN (i := i) (j := j) (by omega)
      have hh := halfN (n := i + j) (by omega)
      have hhl : (i + j) / 2 < len := by omega
      have hwh := wrap_succ (i := (i + j) / 2) (by omega)
      obtain ⟨xh, hxh, hxhr⟩ := hat l ((i + j) / 2) hlen hhl
      (refine W0 (c14 t3 t130 t114 t116 @hwij @hh @hb @hp0 @hhl @hx0r @hxhr @hr @hrt @List.drop_zero.{0}) ?_; try with_reducible intro K hK)
      refine ⟨_, hf xh x0 _ _ hH0 ⟨rfl, rfl⟩, hK _ ?_⟩
      clear hK K; simp only [lp]
      (refine W0 t3 ?_; try with_reducible intro K hK)
      have hle := lessF_eq (c := c) hxh hx0
      refine sat_cond rfl (fun hd => ?_) (fun hd => ?_)
      · (refine W0 (c2 t3 @hwh) ?_; try with_reducible intro K hK)
        refine ⟨j - ((i + j) / 2 + 1), _, _, by omega, .weakFr ?_, (i + j) / 2 + 1, j, rfl, by omega, by omega, hjq, by rw [← bsF_yes hc (by rw [hle]; exact hd), hbs], rfl, rfl⟩
        simp only [le, ↓reduceIte, Nat.reduceEqDiff, and_true]; repeat' (first | exact trivial | exact D.le_refl _ | exact D.le_any _ | with_reducible refine And.intro ?_ ?_)
      · (refine W0 t3 ?_; try with_reducible intro K hK)
        refine ⟨(i + j) / 2 - i, _, _, by omega, .weakFr ?_, i, (i + j) / 2, rfl, hmi, by omega, by omega, by rw [← bsF_no hc (by rw [hle]; exact hd), hbs], rfl, rfl⟩
        simp only [le, ↓reduceIte, Nat.reduceEqDiff, and_true]; repeat' (first | exact trivial | exact D.le_refl _ | exact D.le_any _ | with_reducible refine And.intro ?_ ?_)
    · simp at hc
      obtain ⟨i0, rfl⟩ : ∃ i0, i = i0 + 1 := ⟨i - 1, by omega⟩
      rw [bsF_stop (by omega)] at hbs
      have hsym : symF c (N + 1) p m q l = upF (i0 - p) p l := by rw [symF, if_pos (by simp at hc1; omega), ← hbs]; rfl
      rw [hsym] at hK
      have hwi := wrap_pred (i := i0) (by omega)
      (refine W0 t3 ?_; try with_reducible intro K hK)
      refine sat_loop_ent (fun z ts H => ∃ (k : Nat) (xs : List α), z = i0 - k ∧ xs.length = len ∧ upF (i0 - k) k xs = upF (i0 - p) p l ∧
        ts = fr 220 [(13, .v (.int .i64 k)), (10, .v (.int .i64 (i0 + 1 : Nat))), (0, .own b ver len)] ∧ H = E.H0.set b (.arr ver 3 (xs.map r) 0)) (i0 - p) (ts0 := fr 220 [(13, .v (.int .i64 p)), (10, .v (.int .i64 (i0 + 1 : Nat))), (0, .own b ver len)]) (H0 := E.H0) (.weakFr ?_) ⟨p, l, rfl, hlen, rfl, rfl, (set_nop hb).symm⟩ ?_
      · simp only [le, ↓reduceIte, Nat.reduceEqDiff, and_true]; repeat' (first | exact trivial | exact D.le_refl _ | exact D.le_any _ | with_reducible refine And.intro ?_ ?_)
      rintro z ts H ⟨k, xs, rfl, hxl, hup, rfl, hHH⟩
      have hb1 : H[b]? = some (.arr ver 3 (xs.map r) 0) := by rw [hHH]; exact List.getElem?_set_self hlt
      have gs : ∀ o, (H.set b o)[b]? = some o := fun o => List.getElem?_set_self (by rw [hHH]; simpa using hlt)
      (refine W0 (c2 t3 @hwi) ?_; try with_reducible intro K hK)
      refine sat_cond rfl (fun hd => ?_) (fun hd => ?_)
      · simp at hd
        obtain ⟨x, hx, hxr⟩ := hat xs k hxl (by omega)
        obtain ⟨y, hy, hyr⟩ := hat xs (k + 1) hxl (by omega)
        have hwk := wrap_succ (i := k) (by omega)
        have hkl : k < len := by omega
        have hkl1 : k + 1 < len := by omega
        have hsw : ((xs.set k y).map r)[k + 1]? = some (r y) := hrow _ _ _ (by rw [List.getElem?_set_ne (by omega)]; exact hy)
        refine sat_skip ?_
        repeat (first | ((first | refine wi ?_ | refine wj ?_ | refine wk ?_ | refine wl ?_ | refine wm ?_ | refine wn ?_); simp only [lt, ↓reduceIte, Nat.reduceEqDiff]) | refine wo ?_)
        repeat refine wa ?_
        refine wo ?_
        refine sat_stay hM ?_
        (refine S0 (c2 (c19 t3 t114 t116 @hb1 @hyr @hxr @hwk @hkl @hkl1 @gs @hms @hsw @hcl @hr @hrt @hrd @List.drop_zero.{0} @List.take_zero.{0} @List.nil_append.{0}) (c2 @List.append_nil.{0} @List.set_set.{0})) ?_; try with_reducible intro K hK)
        (refine W0 (c2 t3 @hwk) ?_; try with_reducible intro K hK)
        refine ⟨i0 - (k + 1), _, _, by omega, .weakFr ?_, k + 1, swp xs k (k + 1), rfl, by rw [swp_len, hxl], by rw [← hup, show i0 - k = i0 - (k + 1) + 1 by omega]; rfl, rfl, ?_⟩
        · simp only [le, ↓reduceIte, Nat.reduceEqDiff, and_true]; repeat' (first | exact trivial | exact D.le_refl _ | exact D.le_any _ | with_reducible refine And.intro ?_ ?_)
        · rw [hHH, List.set_set, swp_eq hx hy]
      · simp at hd
        rw [show i0 - k = 0 by omega] at hup
        (refine W0 trivial ?_; try with_reducible intro K hK)
        refine Fin.here ?_
        rw [hHH, show xs = upF (i0 - p) p l from hup]; exact hK
  (refine W0 (c2 t3 @hwqm) ?_; try with_reducible intro K hK)
  refine sat_cond rfl (fun hc2 => ?_) (fun hc2 => ?_)
  · (refine W0 t3 ?_; try with_reducible intro K hK)
    obtain ⟨x0, hx0, hx0r⟩ := hat l m hlen hm0
    refine sat_loop_ent (fun z ts H => ∃ (i j : Nat), z = j - i ∧ p ≤ i ∧ i ≤ j ∧ j ≤ m ∧ bsF (fun h => !lessF c l m h) i j = bsF (fun h => !lessF c l m h) p m ∧
      ts = fr 220 [(15, .v (.int .i64 j)), (14, .v (.int .i64 i)), (4, .fn f caps), (3, .v (.int .i64 q)), (2, .v (.int .i64 m)), (1, .v (.int .i64 p)), (0, .own b ver len)] ∧ H = E.H0) (m - p) (.weakFr ?_) ⟨p, m, rfl, Nat.le_refl _, by omega, Nat.le_refl _, rfl, rfl, rfl⟩ ?_
    · simp only [le, ↓reduceIte, Nat.reduceEqDiff, and_true]; repeat' (first | exact trivial | exact D.le_refl _ | exact D.le_any _ | with_reducible refine And.intro ?_ ?_)
    rintro z ts H ⟨i, j, rfl, hmi, hij, hjq, hbs, rfl, rfl⟩
    (refine W0 t3 ?_; try with_reducible intro K hK)
    refine sat_cond rfl (fun hc => ?_) (fun hc => ?_)
    · simp at hc
      have hwij := wrap_addN (i := i) (j := j) (by omega)
      have hh := halfN (n := i + j) (by omega)
      have hhl : (i + j) / 2 < len := by omega
      have hwh := wrap_succ (i := (i + j) / 2) (by omega)
      obtain ⟨xh, hxh, hxhr⟩ := hat l ((i + j) / 2) hlen hhl
      (refine W0 (c14 t3 t130 t114 t116 @hwij @hh @hb @hm0 @hhl @hx0r @hxhr @hr @hrt @List.drop_zero.{0}) ?_; try with_reducible intro K hK)
      refine ⟨_, hf x0 xh _ _ hH0 ⟨rfl, rfl⟩, hK _ ?_⟩
      clear hK K; simp only [lp]
      (refine W0 t3 ?_; try with_reducible intro K hK)
      have hle := lessF_eq (c := c) hx0 hxh
      refine sat_cond rfl (fun hd => ?_) (fun hd => ?_)
      · (refine W0 (c2 t3 @hwh) ?_; try with_reducible intro K hK)
        refine ⟨j - ((i + j) / 2 + 1), _, _, by omega, .weakFr ?_, (i + j) / 2 + 1, j, rfl, by omega, by omega, hjq, by rw [← bsF_yes hc (by rw [hle]; exact hd), hbs], rfl, rfl⟩
        simp only [le, ↓reduceIte, Nat.reduceEqDiff, and_true]; repeat' (first | exact trivial | exact D.le_refl _ | exact D.le_any _ | with_reducible refine And.intro ?_ ?_)
      · (refine W0 t3 ?_; try with_reducible intro K hK)
        refine ⟨(i + j) / 2 - i, _, _, by omega, .weakFr ?_, i, (i + j) / 2, rfl, hmi, by omega, by omega, by rw [← bsF_no hc (by rw [hle]; exact hd), hbs], rfl, rfl⟩
        simp only [le, ↓reduceIte, Nat.reduceEqDiff, and_true]; repeat' (first | exact trivial | exact D.le_refl _ | exact D.le_any _ | with_reducible refine And.intro ?_ ?_)
    · simp at hc
      rw [bsF_stop (by omega)] at hbs
      have hsym : symF c (N + 1) p m q l = dnF (m - i) m l := by rw [symF, if_neg (by simp at hc1; omega), if_pos (by simp at hc2; omega), ← hbs]
      rw [hsym] at hK
      (refine W0 t3 ?_; try with_reducible intro K hK)
      refine sat_loop_ent (fun z ts H => ∃ (k : Nat) (xs : List α), z = k ∧ k ≤ m ∧ i ≤ k ∧ xs.length = len ∧ dnF (k - i) k xs = dnF (m - i) m l ∧
        ts = fr 220 [(17, .v (.int .i64 k)), (14, .v (.int .i64 i)), (0, .own b ver len)] ∧ H = E.H0.set b (.arr ver 3 (xs.map r) 0)) m (ts0 := fr 220 [(17, .v (.int .i64 m)), (14, .v (.int .i64 i)), (0, .own b ver len)]) (H0 := E.H0) (.weakFr ?_) ⟨m, l, rfl, Nat.le_refl _, by omega, hlen, rfl, rfl, (set_nop hb).symm⟩ ?_
      · simp only [le, ↓reduceIte, Nat.reduceEqDiff, and_true]; repeat' (first | exact trivial | exact D.le_refl _ | exact D.le_any _ | with_reducible refine And.intro ?_ ?_)
      rintro k ts H ⟨_, xs, rfl, hkm, hik, hxl, hdn, rfl, hHH⟩
      have hb1 : H[b]? = some (.arr ver 3 (xs.map r) 0) := by rw [hHH]; exact List.getElem?_set_self hlt
      have gs : ∀ o, (H.set b o)[b]? = some o := fun o => List.getElem?_set_self (by rw [hHH]; simpa using hlt)
      (refine W0 t3 ?_; try with_reducible intro K hK)
      refine sat_cond rfl (fun hd => ?_) (fun hd => ?_)
      · simp at hd
        obtain ⟨k0, rfl⟩ : ∃ k0, k = k0 + 1 := ⟨k - 1, by omega⟩
        have hkl : k0 < len := by omega
        have hkl1 : k0 + 1 < len := by omega
        obtain ⟨x, hx, hxr⟩ := hat xs k0 hxl hkl
        obtain ⟨y, hy, hyr⟩ := hat xs (k0 + 1) hxl hkl1
        have hwk := wrap_pred (i := k0) (by omega)
        have hsw : ((xs.set (k0 + 1) x).map r)[k0]? = some (r x) := hrow _ _ _ (by rw [List.getElem?_set_ne (by omega)]; exact hx)
        refine sat_skip ?_
        repeat (first | ((first | refine wi ?_ | refine wj ?_ | refine wk ?_ | refine wl ?_ | refine wm ?_ | refine wn ?_); simp only [lt, ↓reduceIte, Nat.reduceEqDiff]) | refine wo ?_)
        repeat refine wa ?_
        refine wo ?_
        refine sat_stay hM ?_
        (refine S0 (c2 (c19 t3 t114 t116 @hb1 @hyr @hxr @hwk @hkl @hkl1 @gs @hms @hsw @hcl @hr @hrt @hrd @List.drop_zero.{0} @List.take_zero.{0} @List.nil_append.{0}) (c2 @List.append_nil.{0} @List.set_set.{0})) ?_; try with_reducible intro K hK)
        (refine W0 (c2 t3 @hwk) ?_; try with_reducible intro K hK)
        refine ⟨k0, _, _, by omega, .weakFr ?_, k0, swp xs (k0 + 1) k0, rfl, by omega, by omega, by rw [swp_len, hxl], by rw [← hdn, show k0 + 1 - i = k0 - i + 1 by omega]; rfl, rfl, ?_⟩
        · simp only [le, ↓reduceIte, Nat.reduceEqDiff, and_true]; repeat' (first | exact trivial | exact D.le_refl _ | exact D.le_any _ | with_reducible refine And.intro ?_ ?_)
        · rw [hHH, List.set_set, swp_eq hy hx]
      · simp at hd
        rw [show k - i = 0 by omega] at hdn
        (refine W0 trivial ?_; try with_reducible intro K hK)
        refine Fin.here ?_
        rw [hHH, show xs = dnF (m - i) m l from hdn]; exact hK
  simp at hc1 hc2
  have hsym : ∀ s, s = symS c p m q l → symF c (N + 1) p m q l = (if (p + q) / 2 < (p + q) / 2 + m - s ∧ (p + q) / 2 + m - s < q then symF c N ((p + q) / 2) ((p + q) / 2 + m - s) q (if p < s ∧ s < (p + q) / 2 then symF c N p s ((p + q) / 2) (if s < m ∧ m < (p + q) / 2 + m - s then rotF m (m - s) ((p + q) / 2 + m - s - m) l else l) else (if s < m ∧ m < (p + q) / 2 + m - s then rotF m (m - s) ((p + q) / 2 + m - s - m) l else l)) else (if p < s ∧ s < (p + q) / 2 then symF c N p s ((p + q) / 2) (if s < m ∧ m < (p + q) / 2 + m - s then rotF m (m - s) ((p + q) / 2 + m - s - m) l else l) else (if s < m ∧ m < (p + q) / 2 + m - s then rotF m (m - s) ((p + q) / 2 + m - s - m) l else l))) := fun s hs => by
    rw [symF, if_neg (by omega), if_neg (by omega)]; subst hs; rfl
  obtain ⟨mid, hmid⟩ : ∃ mid, mid = (p + q) / 2 := ⟨_, rfl⟩
  obtain ⟨n, hn⟩ : ∃ n, mid + m = n + 1 := ⟨mid + m - 1, by omega⟩
  have hwpq := wrap_addN (i := p) (j := q) (by omega)
  have hh0 := halfN (n := p + q) (by omega)
  have hwn := wrap_addN (i := mid) (j := m) (by omega)
  rw [← hmid] at hh0
  rw [hn] at hwn
  obtain ⟨tt, htt⟩ : ∃ tt : Nat → Bool, tt = fun h => !lessF c l ((p + q) / 2 + m - 1 - h) h := ⟨_, rfl⟩
  have hS : symS c p m q l = if m > (p + q) / 2 then bsF tt ((p + q) / 2 + m - q) ((p + q) / 2) else bsF tt p m := by rw [symS, htt]
  rw [← hmid] at hS htt
  (refine W0 (c5 t3 t130 @hwpq @hh0 @hwn) ?_; try with_reducible intro K hK)
  refine sat_thruF (ι := Nat × Nat) (fun x => p ≤ x.1 ∧ x.1 ≤ x.2 ∧ x.2 ≤ m ∧ n + 1 - x.1 ≤ q ∧ x.2 ≤ n + 1 ∧ bsF tt x.1 x.2 = symS c p m q l) (fun x => fr 220 [(21, .v (.int .i64 x.2)), (20, .v (.int .i64 x.1)), (19, .v (.int .i64 (n + 1 : Nat))), (18, .v (.int .i64 mid)), (4, .fn f caps), (3, .v (.int .i64 q)), (2, .v (.int .i64 m)), (1, .v (.int .i64 p)), (0, .own b ver len)]) (fun _ => E.H0) ?_ ?_
  · refine sat_cond rfl (fun hd => ?_) (fun hd => ?_)
    · simp at hd
      have hw := wrap_subN (i := n + 1) (j := q) (by omega) (by omega)
      (refine W0 (c2 t3 @hw) ?_; try with_reducible intro K hK)
      refine ⟨(n + 1 - q, mid), ⟨by omega, by omega, by omega, by omega, by omega, by rw [hS, if_pos hd, hn]⟩, .weakFr ?_⟩
      simp only [le, ↓reduceIte, Nat.reduceEqDiff, and_true]; repeat' (first | exact trivial | exact D.le_refl _ | exact D.le_any _ | with_reducible refine And.intro ?_ ?_)
    · simp at hd
      (refine W0 t3 ?_; try with_reducible intro K hK)
      refine ⟨(p, m), ⟨by omega, by omega, by omega, by omega, by omega, by rw [hS, if_neg (by omega)]⟩, .weakFr ?_⟩
      simp only [le, ↓reduceIte, Nat.reduceEqDiff, and_true]; repeat' (first | exact trivial | exact D.le_refl _ | exact D.le_any _ | with_reducible refine And.intro ?_ ?_)
  rintro ⟨s0, r0⟩ ⟨hs1, hs2, hs3, hs4, hs5, hs6⟩
  simp only at hs1 hs2 hs3 hs4 hs5 hs6
  have hwp := wrap_pred (i := n) (by omega)
  (refine W0 (c2 t3 @hwp) ?_; try with_reducible intro K hK)
  refine sat_loop_ent (fun z ts H => ∃ (s t : Nat), z = t - s ∧ s0 ≤ s ∧ s ≤ t ∧ t ≤ r0 ∧ bsF tt s t = symS c p m q l ∧
    ts = fr 220 [(22, .v (.int .i64 n)), (21, .v (.int .i64 t)), (20, .v (.int .i64 s)), (19, .v (.int .i64 (n + 1 : Nat))), (18, .v (.int .i64 mid)), (4, .fn f caps), (3, .v (.int .i64 q)), (2, .v (.int .i64 m)), (1, .v (.int .i64 p)), (0, .own b ver len)] ∧ H = E.H0) (r0 - s0) (.weakFr ?_) ⟨s0, r0, rfl, Nat.le_refl _, hs2, Nat.le_refl _, hs6, rfl, rfl⟩ ?_
  · simp only [le, ↓reduceIte, Nat.reduceEqDiff, and_true]; repeat' (first | exact trivial | exact D.le_refl _ | exact D.le_any _ | with_reducible refine And.intro ?_ ?_)
  rintro z ts H ⟨s, t, rfl, hss, hst, htr, hbs, rfl, rfl⟩
  (refine W0 t3 ?_; try with_reducible intro K hK)
  refine sat_cond rfl (fun hc => ?_) (fun hc => ?_)
  · simp at hc
    have hwst := wrap_addN (i := s) (j := t) (by omega)
    have hh := halfN (n := s + t) (by omega)
    have hhl : (s + t) / 2 < len := by omega
    have hwh := wrap_succ (i := (s + t) / 2) (by omega)
    have hwc := wrap_subN (i := n) (j := (s + t) / 2) (by omega) (by omega)
    have hwl : n - (s + t) / 2 < len := by omega
    obtain ⟨xh, hxh, hxhr⟩ := hat l ((s + t) / 2) hlen hhl
    obtain ⟨xk, hxk, hxkr⟩ := hat l (n - (s + t) / 2) hlen hwl
    (refine W0 (c15 t3 t130 t114 t116 @hwst @hh @hwc @hb @hhl @hwl @hxhr @hxkr @hr @hrt @List.drop_zero.{0}) ?_; try with_reducible intro K hK)
    refine ⟨_, hf xk xh _ _ hH0 ⟨rfl, rfl⟩, hK _ ?_⟩
    clear hK K; simp only [lp]
    (refine W0 t3 ?_; try with_reducible intro K hK)
    have hle : tt ((s + t) / 2) = !decide (c xk xh < 0) := by
      rw [htt]
      show (!lessF c l (mid + m - 1 - (s + t) / 2) ((s + t) / 2)) = _
      rw [show mid + m - 1 - (s + t) / 2 = n - (s + t) / 2 by omega, lessF_eq hxk hxh]
    refine sat_cond rfl (fun hd => ?_) (fun hd => ?_)
    · (refine W0 (c2 t3 @hwh) ?_; try with_reducible intro K hK)
      refine ⟨t - ((s + t) / 2 + 1), _, _, by omega, .weakFr ?_, (s + t) / 2 + 1, t, rfl, by omega, by omega, htr, by rw [← bsF_yes hc (by rw [hle]; exact hd), hbs], rfl, rfl⟩
      simp only [le, ↓reduceIte, Nat.reduceEqDiff, and_true]; repeat' (first | exact trivial | exact D.le_refl _ | exact D.le_any _ | with_reducible refine And.intro ?_ ?_)
    · (refine W0 t3 ?_; try with_reducible intro K hK)
      refine ⟨(s + t) / 2 - s, _, _, by omega, .weakFr ?_, s, (s + t) / 2, rfl, hss, by omega, by omega, by rw [← bsF_no hc (by rw [hle]; exact hd), hbs], rfl, rfl⟩
      simp only [le, ↓reduceIte, Nat.reduceEqDiff, and_true]; repeat' (first | exact trivial | exact D.le_refl _ | exact D.le_any _ | with_reducible refine And.intro ?_ ?_)
  simp at hc
  rw [bsF_stop (by omega)] at hbs
  have hsym := hsym s hbs
  rw [← hmid, hn] at hsym
  rw [hsym] at hK
  clear hsym hS htt
  have hwe := wrap_subN (i := n + 1) (j := s) (by omega) (by omega)
  (refine W0 (c2 t3 @hwe) ?_; try with_reducible intro K hK)
  have hset : ∀ xs : List α, (E.H0.set b (.arr ver 3 (xs.map r) 0))[b]? = some (.arr ver 3 (xs.map r) 0) := fun xs => List.getElem?_set_self hlt
  have hoth : ∀ (o : Ob) (j : Nat), j ≠ b → (E.H0.set b o)[j]? = Hs[j]? := fun o j hj => by rw [List.getElem?_set_ne (Ne.symm hj)]; exact hH0 j hj
  refine sat_thru (fr 220 [(185, .v (.bool (decide (s < m) && decide (m < n + 1 - s)))), (24, .v (.int .i64 (n + 1 - s : Nat))), (20, .v (.int .i64 s)), (18, .v (.int .i64 mid)), (4, .fn f caps), (3, .v (.int .i64 q)), (2, .v (.int .i64 m)), (1, .v (.int .i64 p)), (0, .own b ver len)]) E.H0 ?_ ?_
  · by_cases hg : s < m
    · have hgt : decide (s < m) = true := by simp; omega
      (first | refine wr ?_ | refine wp rfl hM ?_ | refine wq hM ?_); repeat' (first | (refine G0 (c2 t3 @hgt) ?_; try with_reducible intro K hK) | ((first | refine Xs rfl rfl (by decide) rfl (fun h => ?_) fun h => ?_ | refine Ys rfl rfl (by decide) rfl (fun h => ?_) fun h => ?_ | refine Zs rfl rfl rfl (by decide) rfl (fun h => ?_) fun h => ?_); rotate_left; (focus (simp only [Bool.not_true, Bool.not_false, lp])); rotate_left))
      refine .weakFr ?_
      rw [hgt]
      simp only [le, ↓reduceIte, Nat.reduceEqDiff, and_true]; repeat' (first | exact trivial | exact D.le_refl _ | exact D.le_any _ | with_reducible refine And.intro ?_ ?_)
    · have hgt : decide (s < m) = false := by simp; omega
      (first | refine wr ?_ | refine wp rfl hM ?_ | refine wq hM ?_); repeat' (first | (refine G0 (c2 t3 @hgt) ?_; try with_reducible intro K hK) | ((first | refine Xs rfl rfl (by decide) rfl (fun h => ?_) fun h => ?_ | refine Ys rfl rfl (by decide) rfl (fun h => ?_) fun h => ?_ | refine Zs rfl rfl rfl (by decide) rfl (fun h => ?_) fun h => ?_); rotate_left; (focus (simp only [Bool.not_true, Bool.not_false, lp])); rotate_left))
      refine .weakFr ?_
      rw [hgt]
      simp only [le, ↓reduceIte, Nat.reduceEqDiff, and_true]; repeat' (first | exact trivial | exact D.le_refl _ | exact D.le_any _ | with_reducible refine And.intro ?_ ?_)
  refine sat_thruF (ι := List α) (fun xs => xs.length = len ∧ xs = (if s < m ∧ m < n + 1 - s then rotF m (m - s) (n + 1 - s - m) l else l)) (fun _ => fr 220 [(24, .v (.int .i64 (n + 1 - s : Nat))), (20, .v (.int .i64 s)), (18, .v (.int .i64 mid)), (4, .fn f caps), (3, .v (.int .i64 q)), (2, .v (.int .i64 m)), (1, .v (.int .i64 p)), (0, .own b ver len)]) (fun xs => E.H0.set b (.arr ver 3 (xs.map r) 0)) ?_ ?_
  · refine sat_cond rfl (fun hd => ?_) (fun hd => ?_)
    · simp at hd
      (refine W0 trivial ?_; try with_reducible intro K hK)
      refine spec_rotatePr r hr hcl f caps l b ver len s m (n + 1 - s) hlen (by omega) (by omega) (by omega) hl _ hb _ (hK _ _ ?_)
      clear hK K; simp only [lp]
      (refine W0 trivial ?_; try with_reducible intro K hK)
      refine ⟨rotF m (m - s) (n + 1 - s - m) l, ⟨by rw [(rotF_perm m (m - s) (n + 1 - s - m) l).length_eq, hlen], by rw [if_pos hd]⟩, .weakFr ?_⟩
      simp only [le, ↓reduceIte, Nat.reduceEqDiff, and_true]; repeat' (first | exact trivial | exact D.le_refl _ | exact D.le_any _ | with_reducible refine And.intro ?_ ?_)
    · (refine W0 trivial ?_; try with_reducible intro K hK)
      refine ⟨l, ⟨hlen, by rw [if_neg (by simpa using hd)]⟩, ?_⟩
      rw [set_nop hb]
      refine .weakFr ?_
      simp only [le, ↓reduceIte, Nat.reduceEqDiff, and_true]; repeat' (first | exact trivial | exact D.le_refl _ | exact D.le_any _ | with_reducible refine And.intro ?_ ?_)
  rintro ys ⟨hyl, hys⟩
  rw [← hys] at hK
  repeat (first | ((first | refine wi ?_ | refine wj ?_ | refine wk ?_ | refine wl ?_ | refine wm ?_ | refine wn ?_); simp only [lt, ↓reduceIte, Nat.reduceEqDiff]) | refine wo ?_)
  repeat refine wa ?_
  refine sat_thru (fr 220 [(199, .v (.bool (decide (p < s) && decide (s < mid)))), (24, .v (.int .i64 (n + 1 - s : Nat))), (20, .v (.int .i64 s)), (18, .v (.int .i64 mid)), (4, .fn f caps), (3, .v (.int .i64 q)), (2, .v (.int .i64 m)), (1, .v (.int .i64 p)), (0, .own b ver len)]) (E.H0.set b (.arr ver 3 (ys.map r) 0)) ?_ ?_
  · by_cases hg : p < s
    · have hgt : decide (p < s) = true := by simp; omega
      (first | refine wr ?_ | refine wp rfl hM ?_ | refine wq hM ?_); repeat' (first | (refine G0 (c2 t3 @hgt) ?_; try with_reducible intro K hK) | ((first | refine Xs rfl rfl (by decide) rfl (fun h => ?_) fun h => ?_ | refine Ys rfl rfl (by decide) rfl (fun h => ?_) fun h => ?_ | refine Zs rfl rfl rfl (by decide) rfl (fun h => ?_) fun h => ?_); rotate_left; (focus (simp only [Bool.not_true, Bool.not_false, lp])); rotate_left))
      refine .weakFr ?_
      rw [hgt]
      simp only [le, ↓reduceIte, Nat.reduceEqDiff, and_true]; repeat' (first | exact trivial | exact D.le_refl _ | exact D.le_any _ | with_reducible refine And.intro ?_ ?_)
    · have hgt : decide (p < s) = false := by simp; omega
      (first | refine wr ?_ | refine wp rfl hM ?_ | refine wq hM ?_); repeat' (first | (refine G0 (c2 t3 @hgt) ?_; try with_reducible intro K hK) | ((first | refine Xs rfl rfl (by decide) rfl (fun h => ?_) fun h => ?_ | refine Ys rfl rfl (by decide) rfl (fun h => ?_) fun h => ?_ | refine Zs rfl rfl rfl (by decide) rfl (fun h => ?_) fun h => ?_); rotate_left; (focus (simp only [Bool.not_true, Bool.not_false, lp])); rotate_left))
      refine .weakFr ?_
      rw [hgt]
      simp only [le, ↓reduceIte, Nat.reduceEqDiff, and_true]; repeat' (first | exact trivial | exact D.le_refl _ | exact D.le_any _ | with_reducible refine And.intro ?_ ?_)
  refine sat_thruF (ι := List α) (fun xs => xs.length = len ∧ xs = if p < s ∧ s < mid then symF c N p s mid ys else ys) (fun _ => fr 220 [(24, .v (.int .i64 (n + 1 - s : Nat))), (20, .v (.int .i64 s)), (18, .v (.int .i64 mid)), (4, .fn f caps), (3, .v (.int .i64 q)), (2, .v (.int .i64 m)), (1, .v (.int .i64 p)), (0, .own b ver len)]) (fun xs => E.H0.set b (.arr ver 3 (xs.map r) 0)) ?_ ?_
  · refine sat_cond rfl (fun hd => ?_) (fun hd => ?_)
    · simp at hd
      (refine W0 trivial ?_; try with_reducible intro K hK)
      refine ih p s mid ys _ _ (by omega) (by omega) (by omega) (by omega) hyl (hset ys) (hoth _) (hK _ _ ?_)
      clear hK K; simp only [lp]
      (refine W0 trivial ?_; try with_reducible intro K hK)
      refine ⟨symF c N p s mid ys, ⟨by rw [(symF_perm c N p s mid ys).length_eq, hyl], by rw [if_pos hd]⟩, ?_⟩
      rw [List.set_set]
      refine .weakFr ?_
      simp only [le, ↓reduceIte, Nat.reduceEqDiff, and_true]; repeat' (first | exact trivial | exact D.le_refl _ | exact D.le_any _ | with_reducible refine And.intro ?_ ?_)
    · (refine W0 trivial ?_; try with_reducible intro K hK)
      refine ⟨ys, ⟨hyl, by rw [if_neg (by simpa using hd)]⟩, .weakFr ?_⟩
      simp only [le, ↓reduceIte, Nat.reduceEqDiff, and_true]; repeat' (first | exact trivial | exact D.le_refl _ | exact D.le_any _ | with_reducible refine And.intro ?_ ?_)
  rintro zs ⟨hzl, hzs⟩
  rw [← hzs] at hK
  repeat (first | ((first | refine wi ?_ | refine wj ?_ | refine wk ?_ | refine wl ?_ | refine wm ?_ | refine wn ?_); simp only [lt, ↓reduceIte, Nat.reduceEqDiff]) | refine wo ?_)
  repeat refine wa ?_
  refine sat_thru (fr 220 [(213, .v (.bool (decide (mid < n + 1 - s) && decide (n + 1 - s < q)))), (24, .v (.int .i64 (n + 1 - s : Nat))), (20, .v (.int .i64 s)), (18, .v (.int .i64 mid)), (4, .fn f caps), (3, .v (.int .i64 q)), (2, .v (.int .i64 m)), (1, .v (.int .i64 p)), (0, .own b ver len)]) (E.H0.set b (.arr ver 3 (zs.map r) 0)) ?_ ?_
  · by_cases hg : mid < n + 1 - s
    · have hgt : decide (mid < n + 1 - s) = true := by simp; omega
      (first | refine wr ?_ | refine wp rfl hM ?_ | refine wq hM ?_); repeat' (first | (refine G0 (c2 t3 @hgt) ?_; try with_reducible intro K hK) | ((first | refine Xs rfl rfl (by decide) rfl (fun h => ?_) fun h => ?_ | refine Ys rfl rfl (by decide) rfl (fun h => ?_) fun h => ?_ | refine Zs rfl rfl rfl (by decide) rfl (fun h => ?_) fun h => ?_); rotate_left; (focus (simp only [Bool.not_true, Bool.not_false, lp])); rotate_left))
      refine .weakFr ?_
      rw [hgt]
      simp only [le, ↓reduceIte, Nat.reduceEqDiff, and_true]; repeat' (first | exact trivial | exact D.le_refl _ | exact D.le_any _ | with_reducible refine And.intro ?_ ?_)
    · have hgt : decide (mid < n + 1 - s) = false := by simp; omega
      (first | refine wr ?_ | refine wp rfl hM ?_ | refine wq hM ?_); repeat' (first | (refine G0 (c2 t3 @hgt) ?_; try with_reducible intro K hK) | ((first | refine Xs rfl rfl (by decide) rfl (fun h => ?_) fun h => ?_ | refine Ys rfl rfl (by decide) rfl (fun h => ?_) fun h => ?_ | refine Zs rfl rfl rfl (by decide) rfl (fun h => ?_) fun h => ?_); rotate_left; (focus (simp only [Bool.not_true, Bool.not_false, lp])); rotate_left))
      refine .weakFr ?_
      rw [hgt]
      simp only [le, ↓reduceIte, Nat.reduceEqDiff, and_true]; repeat' (first | exact trivial | exact D.le_refl _ | exact D.le_any _ | with_reducible refine And.intro ?_ ?_)
  refine sat_cond rfl (fun hd => ?_) (fun hd => ?_)
  · simp at hd
    (refine W0 trivial ?_; try with_reducible intro K hK)
    refine ih mid (n + 1 - s) q zs _ _ (by omega) (by omega) (by omega) (by omega) hzl (hset zs) (hoth _) (hK _ _ ?_)
    clear hK K; simp only [lp]
    (refine W0 trivial ?_; try with_reducible intro K hK)
    refine Fin.here ?_
    rw [if_pos hd] at hK
    rw [List.set_set]; exact hK
  · rw [if_neg (by simpa using hd)] at hK
    (refine W0 trivial ?_; try with_reducible intro K hK)
    exact Fin.here hK
end Go.Ag
namespace Go.Ag
open Go Go.Proofs
variable {G : Nat → Option (List V)}
attribute [local irreducible] aops qops Sat aop

set_option maxRecDepth 20000 in
set_option maxHeartbeats 16000000 in
theorem spec_stablePr {α : Type} (r : α → List D) (hr : ∀ x, (r x).length = 3) (hcl : ∀ x, (r x).all D.cell = true) (c : α → α → Int) (f : FuncId) (caps : List D) (l : List α) (b ver len : Nat) (hlen : l.length = len) (hl : len ≤ 1000000) (H : List Ob) (hb : H[b]? = some (.arr ver 3 (l.map r) 0))
    (hf : ∀ x y (H' : List Ob) (K : D → List Ob → Prop), (∀ j, j ≠ b → H'[j]? = H[j]?) → K (.v (.int .i64 (c x y))) H' → ACalls Tryz.prog G f (.agg (r x) :: .agg (r y) :: caps) H' K)
    (K : D → List Ob → Prop) (hK : K (.tup []) (H.set b (.arr ver 3 ((stab c l).map r) 0))) : ACalls Tryz.prog G 126 [.own b ver len, .v (.int .i64 len), .fn f caps] H K := by
  have hlt := (List.getElem?_eq_some_iff.1 hb).1
  refine ACalls.go Tryz.f126 _ 63 [] Tryz.func126 rfl Tryz.ntmps126 (by kernel_rfl) rfl (by simp) (fun E hE hP hG hH => ?_)
  have hM : E.P.follows .mixedOrders = true := hP ▸ mixed
  subst hH
  have hset : ∀ xs : List α, (E.H0.set b (.arr ver 3 (xs.map r) 0))[b]? = some (.arr ver 3 (xs.map r) 0) := fun xs => List.getElem?_set_self hlt
  have hoth : ∀ (o : Ob) (j : Nat), j ≠ b → (E.H0.set b o)[j]? = E.H0[j]? := fun o j hj => by rw [List.getElem?_set_ne (Ne.symm hj)]
  have hfo : ∀ (o : Ob) (x y : α) (H' : List Ob) (K : D → List Ob → Prop), (∀ j, j ≠ b → H'[j]? = (E.H0.set b o)[j]?) → K (.v (.int .i64 (c x y))) H' → ACalls Tryz.prog G f (.agg (r x) :: .agg (r y) :: caps) H' K := fun o x y H' K h hk => hf x y H' K (fun j hj => by rw [h j hj, hoth o j hj]) hk
  simp only [args0]
  (refine W0 t3 ?_; try with_reducible intro K hK)
  refine sat_loop_ent (fun z ts H => ∃ (a : Nat) (xs : List α), z = len - a ∧ a ≤ len ∧ xs.length = len ∧ st1 c len a xs = st1 c len 0 l ∧
    ts = fr 63 [(8, .v (.int .i64 (a + 20 : Nat))), (7, .v (.int .i64 a)), (6, .v (.int .i64 20)), (2, .fn f caps), (1, .v (.int .i64 len)), (0, .own b ver len)] ∧ H = E.H0.set b (.arr ver 3 (xs.map r) 0)) len (ts0 := fr 63 [(8, .v (.int .i64 (0 + 20 : Nat))), (7, .v (.int .i64 (0 : Nat))), (6, .v (.int .i64 20)), (2, .fn f caps), (1, .v (.int .i64 len)), (0, .own b ver len)]) (H0 := E.H0) (.weakFr ?_) ⟨0, l, rfl, Nat.zero_le _, hlen, rfl, rfl, (set_nop hb).symm⟩ ?_
  · simp only [le, ↓reduceIte, Nat.reduceEqDiff, and_true]; repeat' (first | exact trivial | exact D.le_refl _ | exact D.le_any _ | with_reducible refine And.intro ?_ ?_)
  rintro z ts H ⟨a, xs, rfl, hal, hxl, hst, rfl, rfl⟩
  (refine W0 t3 ?_; try with_reducible intro K hK)
  refine sat_cond rfl (fun hc => ?_) (fun hc => ?_)
  · simp at hc
    have hw : IntKind.i64.wrap (((a + 20 : Nat) : Int) + 20) = ((a + 20 + 20 : Nat) : Int) := by rw [IntKind.wrap_i64]; omega
    (refine W0 t3 ?_; try with_reducible intro K hK)
    refine spec_insertionPr r hr hcl c f caps xs b ver len a (a + 20) hxl (by omega) (by omega) hl (by omega) _ (hset xs) (hfo _) _ (hK _ _ ?_)
    clear hK K; simp only [lp]
    rw [List.set_set]
    (refine W0 (c2 t3 @hw) ?_; try with_reducible intro K hK)
    refine ⟨len - (a + 20), _, _, by omega, .weakFr ?_, a + 20, isort c a (a + 20) xs, rfl, by omega, by rw [(isort_perm c a (a + 20) xs).length_eq, hxl], by rw [← hst]; conv => rhs; rw [st1, if_pos hc]
      , rfl, rfl⟩
    simp only [le, ↓reduceIte, Nat.reduceEqDiff, and_true]; repeat' (first | exact trivial | exact D.le_refl _ | exact D.le_any _ | with_reducible refine And.intro ?_ ?_)
  simp at hc
  (refine W0 t3 ?_; try with_reducible intro K hK)
  refine spec_insertionPr r hr hcl c f caps xs b ver len a len hxl (by omega) (Nat.le_refl _) hl (by omega) _ (hset xs) (hfo _) _ (hK _ _ ?_)
  clear hK K; simp only [lp]
  rw [List.set_set]
  obtain ⟨zs, hzs⟩ : ∃ zs, zs = isort c a len xs := ⟨_, rfl⟩
  rw [← hzs]
  rw [st1, if_neg (by omega)] at hst
  have hzl : zs.length = len := by rw [hzs, (isort_perm c a len xs).length_eq, hxl]
  have hstab : stab c l = st2 c len 20 zs := by rw [stab, hlen, ← hst, hzs]
  rw [hstab] at hK
  (refine W0 t3 ?_; try with_reducible intro K hK)
  refine sat_loop_ent (fun z ts H => ∃ (s : Nat) (xs : List α), z = len - s ∧ 20 ≤ s ∧ s ≤ 2000000 ∧ xs.length = len ∧ st2 c len s xs = st2 c len 20 zs ∧
    ts = fr 63 [(6, .v (.int .i64 s)), (2, .fn f caps), (1, .v (.int .i64 len)), (0, .own b ver len)] ∧ H = E.H0.set b (.arr ver 3 (xs.map r) 0)) (len - 20) (ts0 := fr 63 [(6, .v (.int .i64 (20 : Nat))), (2, .fn f caps), (1, .v (.int .i64 len)), (0, .own b ver len)]) (H0 := E.H0.set b (.arr ver 3 (zs.map r) 0)) (.weakFr ?_) ⟨20, zs, rfl, Nat.le_refl _, by omega, hzl, rfl, rfl, rfl⟩ ?_
  · simp only [le, ↓reduceIte, Nat.reduceEqDiff, and_true]; repeat' (first | exact trivial | exact D.le_refl _ | exact D.le_any _ | with_reducible refine And.intro ?_ ?_)
  rintro z ts H ⟨s, ys, rfl, hs20, hs2, hyl, hye, rfl, rfl⟩
  (refine W0 t3 ?_; try with_reducible intro K hK)
  refine sat_cond rfl (fun hd => ?_) (fun hd => ?_)
  · simp at hd
    have hw2 : IntKind.i64.wrap (2 * (s : Int)) = ((2 * s : Nat) : Int) := by rw [IntKind.wrap_i64]; omega
    have hw3 : IntKind.i64.wrap ((s : Int) * 2) = ((s * 2 : Nat) : Int) := by rw [IntKind.wrap_i64]; omega
    (refine W0 (c2 t3 @hw2) ?_; try with_reducible intro K hK)
    refine sat_loop_ent (fun z ts H => ∃ (a : Nat) (xs : List α), z = len - a ∧ a ≤ len ∧ xs.length = len ∧ st3 c len s a xs = st3 c len s 0 ys ∧
      ts = fr 63 [(8, .v (.int .i64 (a + 2 * s : Nat))), (7, .v (.int .i64 a)), (6, .v (.int .i64 s)), (2, .fn f caps), (1, .v (.int .i64 len)), (0, .own b ver len)] ∧ H = E.H0.set b (.arr ver 3 (xs.map r) 0)) len (ts0 := fr 63 [(8, .v (.int .i64 (2 * s : Nat))), (7, .v (.int .i64 (0 : Nat))), (6, .v (.int .i64 s)), (2, .fn f caps), (1, .v (.int .i64 len)), (0, .own b ver len)]) (H0 := E.H0.set b (.arr ver 3 (ys.map r) 0)) (.weakFr ?_) ⟨0, ys, rfl, Nat.zero_le _, hyl, rfl, by rw [Nat.zero_add], rfl⟩ ?_
    · simp only [le, ↓reduceIte, Nat.reduceEqDiff, and_true]; repeat' (first | exact trivial | exact D.le_refl _ | exact D.le_any _ | with_reducible refine And.intro ?_ ?_)
    rintro z ts H ⟨a, xs, rfl, hal, hxl, hs3, rfl, rfl⟩
    (refine W0 t3 ?_; try with_reducible intro K hK)
    refine sat_cond rfl (fun hc => ?_) (fun hc => ?_)
    · simp at hc
      have hwa := wrap_addN (i := a) (j := s) (by omega)
      have hwb := wrap_addN (i := a + 2 * s) (j := 2 * s) (by omega)
      (refine W0 (c2 t3 @hwa) ?_; try with_reducible intro K hK)
      refine spec_symMergePr r hr hcl c f caps b ver len hl E.H0 hf (2 * s) a (a + s) (a + 2 * s) xs _ _ (by omega) (by omega) (by omega) (by omega) hxl (hset xs) (hoth _) (hK _ _ ?_)
      clear hK K; simp only [lp]
      rw [List.set_set]
      (refine W0 (c3 t3 @hw2 @hwb) ?_; try with_reducible intro K hK)
      refine ⟨len - (a + 2 * s), _, _, by omega, .weakFr ?_, a + 2 * s, symF c (2 * s) a (a + s) (a + 2 * s) xs, rfl, by omega, by rw [(symF_perm c (2 * s) a (a + s) (a + 2 * s) xs).length_eq, hxl], by rw [← hs3]; conv => rhs; rw [st3, dif_pos ⟨hc, by omega⟩]
        , rfl, rfl⟩
      simp only [le, ↓reduceIte, Nat.reduceEqDiff, and_true]; repeat' (first | exact trivial | exact D.le_refl _ | exact D.le_any _ | with_reducible refine And.intro ?_ ?_)
    simp at hc
    rw [st3, dif_neg (by omega)] at hs3
    have hwa := wrap_addN (i := a) (j := s) (by omega)
    (refine W0 (c2 t3 @hwa) ?_; try with_reducible intro K hK)
    refine sat_thruF (ι := List α) (fun ws => ws.length = len ∧ ws = st4 c len s (a, xs)) (fun _ => fr 63 [(6, .v (.int .i64 s)), (2, .fn f caps), (1, .v (.int .i64 len)), (0, .own b ver len)]) (fun xs => E.H0.set b (.arr ver 3 (xs.map r) 0)) ?_ ?_
    · refine sat_cond rfl (fun he => ?_) (fun he => ?_)
      · simp at he
        (refine W0 t3 ?_; try with_reducible intro K hK)
        refine spec_symMergePr r hr hcl c f caps b ver len hl E.H0 hf (len - a) a (a + s) len xs _ _ (Nat.le_refl _) (by omega) (by omega) (Nat.le_refl _) hxl (hset xs) (hoth _) (hK _ _ ?_)
        clear hK K; simp only [lp]
        rw [List.set_set]
        (refine W0 trivial ?_; try with_reducible intro K hK)
        refine ⟨symF c (len - a) a (a + s) len xs, ⟨by rw [(symF_perm c (len - a) a (a + s) len xs).length_eq, hxl], by rw [st4, if_pos he]⟩, .weakFr ?_⟩
        simp only [le, ↓reduceIte, Nat.reduceEqDiff, and_true]; repeat' (first | exact trivial | exact D.le_refl _ | exact D.le_any _ | with_reducible refine And.intro ?_ ?_)
      · (refine W0 trivial ?_; try with_reducible intro K hK)
        refine ⟨xs, ⟨hxl, by rw [st4, if_neg (by simpa using he)]⟩, .weakFr ?_⟩
        simp only [le, ↓reduceIte, Nat.reduceEqDiff, and_true]; repeat' (first | exact trivial | exact D.le_refl _ | exact D.le_any _ | with_reducible refine And.intro ?_ ?_)
    rintro ws ⟨hwl, hws⟩
    (refine W0 (c2 t3 @hw3) ?_; try with_reducible intro K hK)
    refine ⟨len - s * 2, _, _, by omega, .weakFr ?_, s * 2, ws, rfl, by omega, by omega, hwl, by rw [← hye, hws, hs3]; conv => rhs; rw [st2, dif_pos ⟨hd, by omega⟩]
      , rfl, rfl⟩
    simp only [le, ↓reduceIte, Nat.reduceEqDiff, and_true]; repeat' (first | exact trivial | exact D.le_refl _ | exact D.le_any _ | with_reducible refine And.intro ?_ ?_)
  · simp at hd
    (refine W0 trivial ?_; try with_reducible intro K hK)
    rw [st2, dif_neg (by omega)] at hye
    rw [← hye] at hK
    exact Fin.here hK
end Go.Ag
namespace Go.Ag
open Go Go.Proofs
variable {G : Nat → Option (List V)}
attribute [local irreducible] aops qops Sat aop

set_option maxHeartbeats 4000000 in
theorem spec_sortStablePr {α : Type} (r : α → List D) (hr : ∀ x, (r x).length = 3) (hcl : ∀ x, (r x).all D.cell = true) (c : α → α → Int) (f : FuncId) (caps : List D) (l : List α) (b ver : Nat) (hl : l.length ≤ 1000000) (H : List Ob) (hb : H[b]? = some (.arr ver 3 (l.map r) 0))
    (hf : ∀ x y (H' : List Ob) (K : D → List Ob → Prop), (∀ j, j ≠ b → H'[j]? = H[j]?) → K (.v (.int .i64 (c x y))) H' → ACalls Tryz.prog G f (.agg (r x) :: .agg (r y) :: caps) H' K)
    (K : D → List Ob → Prop) (hK : K (.tup []) (H.set b (.arr ver 3 ((stab c l).map r) 0))) : ACalls Tryz.prog G 100 [.own b ver l.length, .fn f caps] H K := by
  refine ACalls.go Tryz.f100 _ 9 [] Tryz.func100 rfl Tryz.ntmps100 (by kernel_rfl) rfl (by simp) (fun E hE hP hG hH => ?_)
  have hM : E.P.follows .mixedOrders = true := hP ▸ mixed
  subst hH
  simp only [args0]
  (refine W0 (c3 t3 t114 @hb) ?_; try with_reducible intro K hK)
  refine spec_stablePr r hr hcl c f caps l b ver l.length rfl hl _ hb hf _ (hK _ _ ?_)
  clear hK K; simp only [lp]
  (refine W0 trivial ?_; try with_reducible intro K hK)
  exact Fin.here hK
/-! ### nothing to sort -/
set_option maxHeartbeats 4000000 in
theorem spec_insNilPr (f : FuncId) (caps : List D) (H : List Ob) (K : D → List Ob → Prop) (hK : K (.tup []) H) : ACalls Tryz.prog G 146 [.nils, .v (.int .i64 0), .v (.int .i64 0), .fn f caps] H K := by
  refine ACalls.go Tryz.f146 _ 53 [] Tryz.func146 rfl Tryz.ntmps146 (by kernel_rfl) rfl (by simp) (fun E hE hP hG hH => ?_)
  have hM : E.P.follows .mixedOrders = true := hP ▸ mixed
  subst hH
  have hw : IntKind.i64.wrap (0 + 1) = 1 := by rw [IntKind.wrap_i64]; rfl
  simp only [args0]
  (refine W0 (c2 t3 @hw) ?_; try with_reducible intro K hK)
  refine sat_loop_ent (fun m ts H => m = 0 ∧ ts = fr 53 [(8, .v (.int .i64 1)), (2, .v (.int .i64 0))] ∧ H = E.H0) 0 (.weakFr ?_) ⟨rfl, rfl, rfl⟩ ?_
  · simp only [le, ↓reduceIte, Nat.reduceEqDiff, and_true]; repeat' (first | exact trivial | exact D.le_refl _ | exact D.le_any _ | with_reducible refine And.intro ?_ ?_)
  rintro m ts H ⟨rfl, rfl, rfl⟩
  (refine W0 t3 ?_; try with_reducible intro K hK)
  refine sat_cond rfl (fun hc => ?_) (fun hc => ?_)
  · simp at hc
  · (refine W0 trivial ?_; try with_reducible intro K hK)
    exact Fin.here hK
set_option maxHeartbeats 4000000 in
theorem spec_stableNilPr (f : FuncId) (caps : List D) (H : List Ob) (K : D → List Ob → Prop) (hK : K (.tup []) H) : ACalls Tryz.prog G 126 [.nils, .v (.int .i64 0), .fn f caps] H K := by
  refine ACalls.go Tryz.f126 _ 63 [] Tryz.func126 rfl Tryz.ntmps126 (by kernel_rfl) rfl (by simp) (fun E hE hP hG hH => ?_)
  have hM : E.P.follows .mixedOrders = true := hP ▸ mixed
  subst hH
  simp only [args0]
  (refine W0 t3 ?_; try with_reducible intro K hK)
  refine sat_loop_ent (fun m ts H => m = 0 ∧ ts = fr 63 [(8, .v (.int .i64 20)), (7, .v (.int .i64 0)), (6, .v (.int .i64 20)), (2, .fn f caps), (1, .v (.int .i64 0)), (0, .nils)] ∧ H = E.H0) 0 (.weakFr ?_) ⟨rfl, rfl, rfl⟩ ?_
  · simp only [le, ↓reduceIte, Nat.reduceEqDiff, and_true]; repeat' (first | exact trivial | exact D.le_refl _ | exact D.le_any _ | with_reducible refine And.intro ?_ ?_)
  rintro m ts H ⟨rfl, rfl, rfl⟩
  (refine W0 t3 ?_; try with_reducible intro K hK)
  refine sat_cond rfl (fun hc => ?_) (fun hc => ?_)
  · simp at hc
  (refine W0 t3 ?_; try with_reducible intro K hK)
  refine spec_insNilPr f caps _ _ (hK _ _ ?_)
  clear hK K; simp only [lp]
  (refine W0 t3 ?_; try with_reducible intro K hK)
  refine sat_loop_ent (fun m ts H => m = 0 ∧ ts = fr 63 [(6, .v (.int .i64 20)), (1, .v (.int .i64 0))] ∧ H = E.H0) 0 (.weakFr ?_) ⟨rfl, rfl, rfl⟩ ?_
  · simp only [le, ↓reduceIte, Nat.reduceEqDiff, and_true]; repeat' (first | exact trivial | exact D.le_refl _ | exact D.le_any _ | with_reducible refine And.intro ?_ ?_)
  rintro m ts H ⟨rfl, rfl, rfl⟩
  (refine W0 t3 ?_; try with_reducible intro K hK)
  refine sat_cond rfl (fun hc => ?_) (fun hc => ?_)
  · simp at hc
  · (refine W0 trivial ?_; try with_reducible intro K hK)
    exact Fin.here hK
set_option maxHeartbeats 4000000 in
theorem spec_sortNilPr (f : FuncId) (caps : List D) (H : List Ob) (K : D → List Ob → Prop) (hK : K (.tup []) H) : ACalls Tryz.prog G 100 [.nils, .fn f caps] H K := by
  refine ACalls.go Tryz.f100 _ 9 [] Tryz.func100 rfl Tryz.ntmps100 (by kernel_rfl) rfl (by simp) (fun E hE hP hG hH => ?_)
  have hM : E.P.follows .mixedOrders = true := hP ▸ mixed
  subst hH
  simp only [args0]
  (refine W0 (c2 t3 t114) ?_; try with_reducible intro K hK)
  refine spec_stableNilPr f caps _ _ (hK _ _ ?_)
  clear hK K; simp only [lp]
  (refine W0 trivial ?_; try with_reducible intro K hK)
  exact Fin.here hK
end Go.Ag
namespace Go.Ag
open Go Go.Proofs
variable {G : Nat → Option (List V)}
attribute [local irreducible] aops qops Sat aop

set_option maxHeartbeats 4000000 in
theorem spec_ClonePr {α : Type} (rv : α → List V) (hrv : ∀ x, (rv x).length = 3) (l : List α) (hl : l.length ≤ 1000000) (H : List Ob) (K : D → List Ob → Prop) (hK : ∀ d L, (l = [] ∧ L = [] ∧ d = .nils ∨ ∃ ver, 1 ≤ ver ∧ d = .own H.length ver l.length ∧ L = [.arr ver 3 ((l.map rv).map (·.map .v)) 0]) → K d (H ++ L)) : ACalls Tryz.prog G 99 [.v (.list 3 (l.map rv))] H K := by
  refine ACalls.go Tryz.f99 _ 8 [2] Tryz.func99 rfl Tryz.ntmps99 (by kernel_rfl) rfl (by simp) (fun E hE hP hG hH => ?_)
  have hM : E.P.follows .mixedOrders = true := hP ▸ mixed
  subst hH
  simp only [args0]
  (refine W0 (c3 t3 t114 t116) ?_; try with_reducible intro K hK)
  refine ⟨fun hne => hK _ _ ?_, fun he => ⟨hK _ _ ?_, hK _ _ ?_⟩⟩
  · clear hK K; simp only [lp]
    (refine W0 trivial ?_; try with_reducible intro K hK)
    refine sat_cond rfl (fun hb => ?_) (fun hb => ?_)
    · exact absurd hb (by decide)
    (refine W0 (c3 t3 t114 t116) ?_; try with_reducible intro K hK)
    refine Fin.is _ (by decide) rfl (hK _ _ (.inr ⟨2, by omega, rfl, rfl⟩))
  · clear hK K; simp only [lp]
    (refine W0 trivial ?_; try with_reducible intro K hK)
    refine sat_cond rfl (fun hb => ?_) (fun hb => ?_)
    · (refine W0 t114 ?_; try with_reducible intro K hK)
      refine Fin.is .nils (by decide) rfl ?_
      have := hK .nils [] (.inl ⟨by simpa using he, rfl, rfl⟩)
      rwa [List.append_nil] at this
    · exact absurd hb (by decide)
  · clear hK K; simp only [lp]
    (refine W0 trivial ?_; try with_reducible intro K hK)
    refine sat_cond rfl (fun hb => ?_) (fun hb => ?_)
    · exact absurd hb (by decide)
    (refine W0 (c3 t3 t114 t116) ?_; try with_reducible intro K hK)
    refine Fin.is _ (by decide) rfl (hK _ _ (.inr ⟨2, by omega, rfl, rfl⟩))
set_option maxHeartbeats 4000000 in
theorem spec_byCmpPr {α : Type} (r : α → List D) (hr : ∀ x, (r x).length = 3) (hcl : ∀ x, (r x).all D.cell = true) (txt : α → Str) (g : FuncId) (hg : ∀ x (H : List Ob) (K : D → List Ob → Prop), K (.v (.str (txt x))) H → ACalls Tryz.prog G g [.agg (r x)] H K)
    (x y : α) (bx : Nat) (H : List Ob) (hb : H[bx]? = some (.box [.fn g []])) (K : D → List Ob → Prop) (hK : K (.v (.int .i64 (Lib.compareBytes (txt x) (txt y)))) H) : ACalls Tryz.prog G 101 [.agg (r x), .agg (r y), .ptr bx 0] H K := by
  refine ACalls.go Tryz.f101 _ 13 [5] Tryz.func101 rfl Tryz.ntmps101 (by kernel_rfl) rfl (by simp) (fun E hE hP hG hH => ?_)
  have hM : E.P.follows .mixedOrders = true := hP ▸ mixed
  subst hH
  have hrt : ∀ x, (r x).take 3 = r x := fun x => List.take_of_length_le (by rw [hr]; exact Nat.le_refl _)
  simp only [args0]
  repeat (first | refine wa ?_ | refine wb rfl ?_ | refine wc rfl rfl hM ?_ | refine wd rfl hM ?_ | ((first | refine we rfl fun K hK => ?_ | refine wf rfl rfl fun K hK => ?_ | refine wg rfl rfl fun K hK => ?_ | refine wh rfl fun K hK => ?_); (simp only [lo, ld, ↓aop, ↓aCall, hP, hG, Nat.reduceLT, ↓reduceIte, Nat.reduceEqDiff, Nat.reduceAdd, Nat.reduceMul, Nat.reduceLeDiff, reduceCtorEq, D.cs, D.plain, fillD, chop, List.replicate, tk_3, ze_3, sz_3, tk_9, ze_9, sz_9, tk_114, ze_114, sz_114, tk_116, ze_116, sz_116, kn_116, tk_118, ze_118, sz_118, hcl, hr, hrt, List.drop_zero, hp_old hb]; repeat (with_reducible refine And.intro ?_ ?_; focus (first | decide | omega | (simp only [ln]; omega)))); try ((first | refine hK _ _ ?_ | refine hK _ ?_); clear hK K; simp only [lp])) | ((first | refine wi ?_ | refine wj ?_ | refine wk ?_ | refine wl ?_ | refine wm ?_ | refine wn ?_); simp only [lt, ↓reduceIte, Nat.reduceEqDiff]) | refine wo ?_)
  refine ⟨_, hg x _ _ ⟨rfl, rfl⟩, hK _ ?_⟩
  clear hK K; simp only [lp]
  repeat (first | refine wa ?_ | refine wb rfl ?_ | refine wc rfl rfl hM ?_ | refine wd rfl hM ?_ | ((first | refine we rfl fun K hK => ?_ | refine wf rfl rfl fun K hK => ?_ | refine wg rfl rfl fun K hK => ?_ | refine wh rfl fun K hK => ?_); (simp only [lo, ld, ↓aop, ↓aCall, hP, hG, Nat.reduceLT, ↓reduceIte, Nat.reduceEqDiff, Nat.reduceAdd, Nat.reduceMul, Nat.reduceLeDiff, reduceCtorEq, D.cs, D.plain, fillD, chop, List.replicate, tk_3, ze_3, sz_3, tk_9, ze_9, sz_9, tk_114, ze_114, sz_114, tk_116, ze_116, sz_116, kn_116, tk_118, ze_118, sz_118, hcl, hr, hrt, List.drop_zero, hp_old hb]; repeat (with_reducible refine And.intro ?_ ?_; focus (first | decide | omega | (simp only [ln]; omega)))); try ((first | refine hK _ _ ?_ | refine hK _ ?_); clear hK K; simp only [lp])) | ((first | refine wi ?_ | refine wj ?_ | refine wk ?_ | refine wl ?_ | refine wm ?_ | refine wn ?_); simp only [lt, ↓reduceIte, Nat.reduceEqDiff]) | refine wo ?_)
  refine ⟨_, hg y _ _ ⟨rfl, rfl⟩, hK _ ?_⟩
  clear hK K; simp only [lp]
  (refine W0 t3 ?_; try with_reducible intro K hK)
  refine ⟨_, spec_Compare (txt x) (txt y) _ _ ⟨rfl, rfl⟩, hK _ ?_⟩
  clear hK K; simp only [lp]
  (refine W0 t3 ?_; try with_reducible intro K hK)
  exact Fin.gc (.v (.int .i64 (Lib.compareBytes (txt x) (txt y)))) hE (by decide) rfl (by simp only [D.lt]) hK
set_option maxHeartbeats 8000000 in
theorem spec_byPr {α : Type} (rv : α → List V) (hrv : ∀ x, (rv x).length = 3) (txt : α → Str) (g : FuncId) (hg : ∀ x (H : List Ob) (K : D → List Ob → Prop), K (.v (.str (txt x))) H → ACalls Tryz.prog G g [.agg ((rv x).map .v)] H K)
    (l : List α) (hl : l.length ≤ 1000000) (H : List Ob) (K : D → List Ob → Prop) (hK : K (.v (.list 3 ((stab (fun x y => Lib.compareBytes (txt x) (txt y)) l).map rv))) H) : ACalls Tryz.prog G 82 [.v (.list 3 (l.map rv)), .fn g []] H K := by
  refine ACalls.go Tryz.f82 _ 12 [4] Tryz.func82 rfl Tryz.ntmps82 (by kernel_rfl) rfl (by simp) (fun E hE hP hG hH => ?_)
  have hM : E.P.follows .mixedOrders = true := hP ▸ mixed
  subst hH
  have hr : ∀ x, ((rv x).map D.v).length = 3 := fun x => by rw [List.length_map, hrv]
  have hcl : ∀ x, ((rv x).map D.v).all D.cell = true := fun x => by simp [D.cell]
  simp only [args0]
  (refine W0 (c5 t3 t9 t114 t116 t118) ?_; try with_reducible intro K hK)
  refine spec_ClonePr rv hrv l hl _ _ (fun d L hd => hK _ _ ?_)
  clear hK K; simp only [lp]
  rcases hd with ⟨rfl, rfl, rfl⟩ | ⟨ver, hv, rfl, rfl⟩
  · rw [List.append_nil]
    (refine W0 (c5 t3 t9 t114 t116 t118) ?_; try with_reducible intro K hK)
    refine spec_sortNilPr _ _ _ _ (hK _ _ ?_)
    clear hK K; simp only [lp]
    (refine W0 t3 ?_; try with_reducible intro K hK)
    have hK0 : K (.v (.list 3 [])) E.H0 := by
      have e : stab (fun x y => Lib.compareBytes (txt x) (txt y)) ([] : List α) = [] := by exact stab_few _ [] (show 0 < 20 by decide)
      rw [e] at hK; exact hK
    refine Fin.gcle (.v (.list 3 [])) hE (by decide) ?_ (by simp only [D.lt]) hK0
    exact D.le_nils 3
  · rw [List.append_assoc, List.cons_append, List.nil_append, List.length_append]
    (refine W0 (c5 t3 t9 t114 t116 t118) ?_; try with_reducible intro K hK)
    refine spec_sortStablePr (fun x => (rv x).map .v) hr hcl (fun x y => Lib.compareBytes (txt x) (txt y)) _ _ l (E.H0.length + 1) ver hl _ ?_ ?_ _ (hK _ _ ?_)
    · rw [hp_get]; simp
    · intro x y H' K hj hk
      exact spec_byCmpPr (fun x => (rv x).map .v) hr hcl txt g hg x y E.H0.length H' (by rw [hj _ (by omega), hp_get0]; rfl) K hk
    clear hK K; simp only [lp]
    (refine W0 (c5 t3 t9 t114 t116 t118) ?_; try with_reducible intro K hK)
    have hpl := (stab_perm (fun x y => Lib.compareBytes (txt x) (txt y)) l).length_eq
    refine Fin.pub 1 ver 3 0 l.length ((stab (fun x y => Lib.compareBytes (txt x) (txt y)) l).map rv) hE (by decide) rfl (by simp) (Nat.zero_le _) (by rw [List.length_map, hpl]; exact Nat.le_refl _) ?_
    rw [List.take_of_length_le (by rw [List.length_map, hpl]; exact Nat.le_refl _)]
    exact hK
end Go.Ag
namespace Go.Ag
open Go Go.Proofs
variable {G : Nat → Option (List V)}
attribute [local irreducible] aops qops Sat aop

set_option maxRecDepth 20000 in
set_option maxHeartbeats 16000000 in
theorem spec_insertion0Cho {α : Type} (r : α → List D) (hr : ∀ x, (r x).length = 3) (hcl : ∀ x, (r x).all D.cell = true) (c : α → α → Int) (f : FuncId) (caps : List D) (l : List α) (b ver a n : Nat) (han : a < l.length ∨ n ≤ a + 1) (hn : n ≤ l.length) (hl : l.length ≤ 1000000) (ha : a ≤ 1000000) (H : List Ob) (hb : H[b]? = some (.arr ver 3 (l.map r) 0))
    (hq : ∀ x y (H' : List Ob) (K : D → List Ob → Prop), (∀ j, j ≠ b → H'[j]? = H[j]?) → K (.v (.int .i64 (c x y))) H' → ACalls Tryz.prog G f (.agg (r x) :: .agg (r y) :: caps) H' K)
    (K : D → List Ob → Prop) (hK : K (.tup []) (H.set b (.arr ver 3 ((isort c a n l).map r) 0))) : ACalls Tryz.prog G 151 [.own b ver l.length, .v (.int .i64 a), .v (.int .i64 n), .fn f caps] H K := by
  have hlt := (List.getElem?_eq_some_iff.1 hb).1
  refine ACalls.go Tryz.f151 _ 53 [] Tryz.func151 rfl Tryz.ntmps151 (by kernel_rfl) rfl (by simp) (fun E hE hP hG hH => ?_)
  have hM : E.P.follows .mixedOrders = true := hP ▸ mixed
  subst hH
  have hrt : ∀ x, (r x).take 3 = r x := fun x => List.take_of_length_le (by rw [hr]; exact Nat.le_refl _)
  have hrd : ∀ x, (r x).drop 3 = [] := fun x => List.drop_of_length_le (by rw [hr]; exact Nat.le_refl _)
  have hms : ∀ (l : List α) i y, (l.map r).set i (r y) = (l.set i y).map r := fun l i y => by simp [List.map_set]
  have hwa := wrap_succ (i := a) (by omega)
  simp only [args0]
  (refine W0 (c2 t3 @hwa) ?_; try with_reducible intro K hK)
  refine sat_loop_ent (fun m ts H => ∃ (i : Nat) (xs : List α), m = n - i ∧ a + 1 ≤ i ∧ i ≤ 1000001 ∧ xs.length = l.length ∧ isoF c a i (n - i) xs = isort c a n l ∧
    ts = fr 53 [(8, .v (.int .i64 i)), (3, .fn f caps), (2, .v (.int .i64 n)), (1, .v (.int .i64 a)), (0, .own b ver l.length)] ∧ H = E.H0.set b (.arr ver 3 (xs.map r) 0)) (n - (a + 1)) (ts0 := fr 53 [(8, .v (.int .i64 (a + 1 : Nat))), (3, .fn f caps), (2, .v (.int .i64 n)), (1, .v (.int .i64 a)), (0, .own b ver l.length)]) (H0 := E.H0) (.weakFr ?_) ⟨a + 1, l, rfl, Nat.le_refl _, by omega, rfl, rfl, rfl, (set_nop hb).symm⟩ ?_
  · simp only [le, ↓reduceIte, Nat.reduceEqDiff, and_true]; repeat' (first | exact trivial | exact D.le_refl _ | exact D.le_any _ | with_reducible refine And.intro ?_ ?_)
  rintro m ts H ⟨i, xs, rfl, hai, hi6, hxl, hiso, rfl, hHH⟩
  (refine W0 t3 ?_; try with_reducible intro K hK)
  refine sat_cond rfl (fun hc => ?_) (fun hc => ?_)
  · simp at hc
    have hwi := wrap_succ (i := i) (by omega)
    (refine W0 t3 ?_; try with_reducible intro K hK)
    refine sat_loop_ent (fun m ts H => ∃ (j : Nat) (ys : List α), m = j ∧ j ≤ i ∧ ys.length = l.length ∧ insF c a j ys = insF c a i xs ∧
      ts = fr 53 [(9, .v (.int .i64 j)), (8, .v (.int .i64 i)), (3, .fn f caps), (2, .v (.int .i64 n)), (1, .v (.int .i64 a)), (0, .own b ver l.length)] ∧ H = E.H0.set b (.arr ver 3 (ys.map r) 0)) i (.weakFr ?_) ⟨i, xs, rfl, Nat.le_refl _, hxl, rfl, rfl, hHH⟩ ?_
    · simp only [le, ↓reduceIte, Nat.reduceEqDiff, and_true]; repeat' (first | exact trivial | exact D.le_refl _ | exact D.le_any _ | with_reducible refine And.intro ?_ ?_)
    clear hHH
    rintro j ts H ⟨_, ys, rfl, hji, hyl, hins, rfl, hHH⟩
    have hb1 : H[b]? = some (.arr ver 3 (ys.map r) 0) := by rw [hHH]; exact List.getElem?_set_self hlt
    have hoth : ∀ k, k ≠ b → H[k]? = E.H0[k]? := fun k hk => by rw [hHH, List.getElem?_set_ne (fun e => hk e.symm)]
    have gs : ∀ o, (H.set b o)[b]? = some o := fun o => List.getElem?_set_self (by rw [hHH]; simpa using hlt)
    by_cases hja : a < j
    · obtain ⟨q, rfl⟩ : ∃ q, j = q + 1 := ⟨j - 1, by omega⟩
      obtain ⟨y, hy⟩ : ∃ y, ys[q + 1]? = some y := ⟨_, List.getElem?_eq_getElem (by omega)⟩
      obtain ⟨x, hx⟩ : ∃ x, ys[q]? = some x := ⟨_, List.getElem?_eq_getElem (by omega)⟩
      have hyr : (ys.map r)[q + 1]? = some (r y) := by simp [hy]
      have hxr : (ys.map r)[q]? = some (r x) := by simp [hx]
      have hwj := wrap_pred (i := q) (by omega)
      have hgt : decide (a < q + 1) = true := by simp; omega
      repeat (first | ((first | refine wi ?_ | refine wj ?_ | refine wk ?_ | refine wl ?_ | refine wm ?_ | refine wn ?_); simp only [lt, ↓reduceIte, Nat.reduceEqDiff]) | refine wo ?_)
      repeat refine wa ?_
      (first | refine wr ?_ | refine wp rfl hM ?_ | refine wq hM ?_); repeat' (first | (refine G0 (c11 t3 t24 t46 @hb1 @hyr @hxr @hwj @hgt @hr @hrt @List.drop_zero.{0}) ?_; try with_reducible intro K hK) | ((first | refine Xs rfl rfl (by decide) rfl (fun h => ?_) fun h => ?_ | refine Ys rfl rfl (by decide) rfl (fun h => ?_) fun h => ?_ | refine Zs rfl rfl rfl (by decide) rfl (fun h => ?_) fun h => ?_); rotate_left; (focus (simp only [Bool.not_true, Bool.not_false, lp])); rotate_left))
      refine ⟨_, hq y x _ _ hoth ⟨rfl, rfl⟩, hK _ ?_⟩
      clear hK K; simp only [lp]
      repeat' (first | (refine G0 (c3 t3 t24 t46) ?_; try with_reducible intro K hK) | ((first | refine Xs rfl rfl (by decide) rfl (fun h => ?_) fun h => ?_ | refine Ys rfl rfl (by decide) rfl (fun h => ?_) fun h => ?_ | refine Zs rfl rfl rfl (by decide) rfl (fun h => ?_) fun h => ?_); rotate_left; (focus (simp only [Bool.not_true, Bool.not_false, lp])); rotate_left))
      repeat (first | ((first | refine wi ?_ | refine wj ?_ | refine wk ?_ | refine wl ?_ | refine wm ?_ | refine wn ?_); simp only [lt, ↓reduceIte, Nat.reduceEqDiff]) | refine wo ?_)
      refine sat_cond rfl (fun hd => ?_) (fun hd => ?_)
      · simp at hd
        have hsw : ((ys.set (q + 1) x).map r)[q]? = some (r x) := by simp [hx, List.getElem?_set_ne]
        refine sat_skip ?_
        repeat (first | ((first | refine wi ?_ | refine wj ?_ | refine wk ?_ | refine wl ?_ | refine wm ?_ | refine wn ?_); simp only [lt, ↓reduceIte, Nat.reduceEqDiff]) | refine wo ?_)
        repeat refine wa ?_
        refine wo ?_
        refine sat_stay hM ?_
        (refine S0 (c19 t3 t24 t46 @hb1 @hyr @hxr @hwj @gs @hms @hsw @hcl @hr @hrt @hrd @List.drop_zero.{0} @List.take_zero.{0} @List.nil_append.{0} @List.append_nil.{0} @List.set_set.{0}) ?_; try with_reducible intro K hK)
        (refine W0 (c2 t3 @hwj) ?_; try with_reducible intro K hK)
        refine ⟨q, _, _, by omega, .weakFr ?_, q, swp ys (q + 1) q, rfl, by omega, by rw [swp_len]; exact hyl, ?_, rfl, ?_⟩
        · simp only [le, ↓reduceIte, Nat.reduceEqDiff, and_true]; repeat' (first | exact trivial | exact D.le_refl _ | exact D.le_any _ | with_reducible refine And.intro ?_ ?_)
        · rw [← hins, insF_yes hja hy hx hd]
        · rw [hHH, List.set_set, swp_eq hy hx]
      · have hst := insF_no hja hy hx (by simpa using hd)
        (refine W0 (c2 t3 @hwi) ?_; try with_reducible intro K hK)
        refine ⟨n - (i + 1), _, _, by omega, .weakFr ?_, i + 1, ys, rfl, by omega, by omega, hyl, ?_, rfl, hHH⟩
        · simp only [le, ↓reduceIte, Nat.reduceEqDiff, and_true]; repeat' (first | exact trivial | exact D.le_refl _ | exact D.le_any _ | with_reducible refine And.intro ?_ ?_)
        · rw [← hiso, show n - i = (n - (i + 1)) + 1 by omega, isoF, ← hins, hst]
    · have hst := insF_stop (c := c) (xs := ys) hja
      have hgt : decide (a < j) = false := by simp; omega
      repeat (first | ((first | refine wi ?_ | refine wj ?_ | refine wk ?_ | refine wl ?_ | refine wm ?_ | refine wn ?_); simp only [lt, ↓reduceIte, Nat.reduceEqDiff]) | refine wo ?_)
      repeat refine wa ?_
      (first | refine wr ?_ | refine wp rfl hM ?_ | refine wq hM ?_); repeat' (first | (refine G0 (c4 t3 t24 t46 @hgt) ?_; try with_reducible intro K hK) | ((first | refine Xs rfl rfl (by decide) rfl (fun h => ?_) fun h => ?_ | refine Ys rfl rfl (by decide) rfl (fun h => ?_) fun h => ?_ | refine Zs rfl rfl rfl (by decide) rfl (fun h => ?_) fun h => ?_); rotate_left; (focus (simp only [Bool.not_true, Bool.not_false, lp])); rotate_left))
      refine sat_cond rfl (fun hd => ?_) (fun hd => ?_)
      · cases hd
      · (refine W0 (c2 t3 @hwi) ?_; try with_reducible intro K hK)
        refine ⟨n - (i + 1), _, _, by omega, .weakFr ?_, i + 1, ys, rfl, by omega, by omega, hyl, ?_, rfl, hHH⟩
        · simp only [le, ↓reduceIte, Nat.reduceEqDiff, and_true]; repeat' (first | exact trivial | exact D.le_refl _ | exact D.le_any _ | with_reducible refine And.intro ?_ ?_)
        · rw [← hiso, show n - i = (n - (i + 1)) + 1 by omega, isoF, ← hins, hst]
  · simp at hc
    rw [show n - i = 0 by omega, isoF] at hiso
    rw [hiso] at hHH
    (refine W0 trivial ?_; try with_reducible intro K hK)
    refine Fin.here ?_
    rw [hHH]; exact hK
theorem spec_insertionCho {α : Type} (r : α → List D) (hr : ∀ x, (r x).length = 3) (hcl : ∀ x, (r x).all D.cell = true) (c : α → α → Int) (f : FuncId) (caps : List D) (l : List α) (b ver len a n : Nat) (hlen : l.length = len) (han : a < len ∨ n ≤ a + 1) (hn : n ≤ len) (hl : len ≤ 1000000) (ha : a ≤ 1000000) (H : List Ob) (hb : H[b]? = some (.arr ver 3 (l.map r) 0))
    (hq : ∀ x y (H' : List Ob) (K : D → List Ob → Prop), (∀ j, j ≠ b → H'[j]? = H[j]?) → K (.v (.int .i64 (c x y))) H' → ACalls Tryz.prog G f (.agg (r x) :: .agg (r y) :: caps) H' K)
    (K : D → List Ob → Prop) (hK : K (.tup []) (H.set b (.arr ver 3 ((isort c a n l).map r) 0))) : ACalls Tryz.prog G 151 [.own b ver len, .v (.int .i64 a), .v (.int .i64 n), .fn f caps] H K := by
  subst hlen
  exact spec_insertion0Cho r hr hcl c f caps l b ver a n han hn hl ha H hb hq K hK
set_option maxRecDepth 20000 in
set_option maxHeartbeats 16000000 in
theorem spec_swapRangeCho {α : Type} (r : α → List D) (hr : ∀ x, (r x).length = 3) (hcl : ∀ x, (r x).all D.cell = true) (f : FuncId) (caps : List D) (l : List α) (b ver len p q n : Nat) (hlen : l.length = len) (hp : p + n ≤ len) (hq : q + n ≤ len) (hl : len ≤ 1000000) (H : List Ob) (hb : H[b]? = some (.arr ver 3 (l.map r) 0))
    (K : D → List Ob → Prop) (hK : K (.tup []) (H.set b (.arr ver 3 ((swr p q n l).map r) 0))) : ACalls Tryz.prog G 163 [.own b ver len, .v (.int .i64 p), .v (.int .i64 q), .v (.int .i64 n), .fn f caps] H K := by
  have hlt := (List.getElem?_eq_some_iff.1 hb).1
  refine ACalls.go Tryz.f163 _ 38 [] Tryz.func163 rfl Tryz.ntmps163 (by kernel_rfl) rfl (by simp) (fun E hE hP hG hH => ?_)
  have hM : E.P.follows .mixedOrders = true := hP ▸ mixed
  subst hH
  have hrt : ∀ x, (r x).take 3 = r x := fun x => List.take_of_length_le (by rw [hr]; exact Nat.le_refl _)
  have hrd : ∀ x, (r x).drop 3 = [] := fun x => List.drop_of_length_le (by rw [hr]; exact Nat.le_refl _)
  have hms : ∀ (l : List α) i y, (l.map r).set i (r y) = (l.set i y).map r := fun l i y => by simp [List.map_set]
  simp only [args0]
  (refine W0 t3 ?_; try with_reducible intro K hK)
  refine sat_loop_ent (fun m ts H => ∃ (i : Nat) (xs : List α), m = n - i ∧ i ≤ n ∧ xs = swr p q i l ∧
    ts = fr 38 [(10, .v (.int .i64 i)), (4, .fn f caps), (3, .v (.int .i64 n)), (2, .v (.int .i64 q)), (1, .v (.int .i64 p)), (0, .own b ver len)] ∧ H = E.H0.set b (.arr ver 3 (xs.map r) 0)) n (ts0 := fr 38 [(10, .v (.int .i64 (0 : Nat))), (4, .fn f caps), (3, .v (.int .i64 n)), (2, .v (.int .i64 q)), (1, .v (.int .i64 p)), (0, .own b ver len)]) (H0 := E.H0) (.weakFr ?_) ⟨0, l, rfl, Nat.zero_le _, rfl, rfl, (set_nop hb).symm⟩ ?_
  · simp only [le, ↓reduceIte, Nat.reduceEqDiff, and_true]; repeat' (first | exact trivial | exact D.le_refl _ | exact D.le_any _ | with_reducible refine And.intro ?_ ?_)
  rintro m ts H ⟨i, xs, rfl, hi, hxs, rfl, hHH⟩
  have hxl : xs.length = len := by rw [hxs, (swr_perm _ _ _ _).length_eq, hlen]
  have hb1 : H[b]? = some (.arr ver 3 (xs.map r) 0) := by rw [hHH]; exact List.getElem?_set_self hlt
  have gs : ∀ o, (H.set b o)[b]? = some o := fun o => List.getElem?_set_self (by rw [hHH]; simpa using hlt)
  (refine W0 t3 ?_; try with_reducible intro K hK)
  refine sat_cond rfl (fun hc => ?_) (fun hc => ?_)
  · simp at hc
    obtain ⟨x, hx⟩ : ∃ x, xs[p + i]? = some x := ⟨_, List.getElem?_eq_getElem (by omega)⟩
    obtain ⟨y, hy⟩ : ∃ y, xs[q + i]? = some y := ⟨_, List.getElem?_eq_getElem (by omega)⟩
    have hyr : (xs.map r)[q + i]? = some (r y) := by simp [hy]
    have hxr : (xs.map r)[p + i]? = some (r x) := by simp [hx]
    have hsw : ((xs.set (p + i) y).map r)[q + i]? = some (r y) := by
      by_cases e : p + i = q + i
      · rw [e, List.getElem?_map, List.getElem?_set_self (by omega)]; rfl
      · rw [List.getElem?_map, List.getElem?_set_ne e, hy]; rfl
    have hwp := wrap_addN (i := p) (j := i) (by omega)
    have hwq := wrap_addN (i := q) (j := i) (by omega)
    have hwi := wrap_succ (i := i) (by omega)
    have hpi : p + i < len := by omega
    have hqi : q + i < len := by omega
    refine sat_skip ?_
    repeat (first | ((first | refine wi ?_ | refine wj ?_ | refine wk ?_ | refine wl ?_ | refine wm ?_ | refine wn ?_); simp only [lt, ↓reduceIte, Nat.reduceEqDiff]) | refine wo ?_)
    repeat refine wa ?_
    refine wo ?_
    refine sat_stay hM ?_
    (refine S0 (c2 (c19 t3 t24 t46 @hb1 @hyr @hxr @hwp @hwq @hpi @hqi @gs @hms @hsw @hcl @hr @hrt @hrd @List.drop_zero.{0} @List.take_zero.{0}) (c3 @List.nil_append.{0} @List.append_nil.{0} @List.set_set.{0})) ?_; try with_reducible intro K hK)
    (refine W0 (c2 t3 @hwi) ?_; try with_reducible intro K hK)
    refine ⟨n - (i + 1), _, _, by omega, .weakFr ?_, i + 1, swp xs (p + i) (q + i), rfl, by omega, by rw [hxs]; rfl, rfl, ?_⟩
    · simp only [le, ↓reduceIte, Nat.reduceEqDiff, and_true]; repeat' (first | exact trivial | exact D.le_refl _ | exact D.le_any _ | with_reducible refine And.intro ?_ ?_)
    · rw [hHH, List.set_set, swp_eq hx hy]
  · simp at hc
    (refine W0 trivial ?_; try with_reducible intro K hK)
    refine Fin.here ?_
    obtain rfl : i = n := by omega
    rw [hHH, hxs]; exact hK
end Go.Ag
namespace Go.Ag
open Go Go.Proofs
variable {G : Nat → Option (List V)}
attribute [local irreducible] aops qops Sat aop

set_option maxRecDepth 20000 in
set_option maxHeartbeats 16000000 in
theorem spec_rotateCho {α : Type} (r : α → List D) (hr : ∀ x, (r x).length = 3) (hcl : ∀ x, (r x).all D.cell = true) (f : FuncId) (caps : List D) (l : List α) (b ver len p m q : Nat) (hlen : l.length = len) (hpm : p < m) (hmq : m < q) (hq : q ≤ len) (hl : len ≤ 1000000) (H : List Ob) (hb : H[b]? = some (.arr ver 3 (l.map r) 0))
    (K : D → List Ob → Prop) (hK : K (.tup []) (H.set b (.arr ver 3 ((rotF m (m - p) (q - m) l).map r) 0))) : ACalls Tryz.prog G 160 [.own b ver len, .v (.int .i64 p), .v (.int .i64 m), .v (.int .i64 q), .fn f caps] H K := by
  have hlt := (List.getElem?_eq_some_iff.1 hb).1
  refine ACalls.go Tryz.f160 _ 58 [] Tryz.func160 rfl Tryz.ntmps160 (by kernel_rfl) rfl (by simp) (fun E hE hP hG hH => ?_)
  have hM : E.P.follows .mixedOrders = true := hP ▸ mixed
  subst hH
  have hw1 := wrap_subN (i := m) (j := p) (by omega) (by omega)
  have hw2 := wrap_subN (i := q) (j := m) (by omega) (by omega)
  simp only [args0]
  (refine W0 (c3 t3 @hw1 @hw2) ?_; try with_reducible intro K hK)
  refine sat_loop_ent (fun z ts H => ∃ (i j : Nat) (xs : List α), z = i + j ∧ 1 ≤ i ∧ 1 ≤ j ∧ i ≤ m - p ∧ j ≤ q - m ∧ xs.length = len ∧ rotF m i j xs = rotF m (m - p) (q - m) l ∧
    ts = fr 58 [(11, .v (.int .i64 j)), (10, .v (.int .i64 i)), (4, .fn f caps), (2, .v (.int .i64 m)), (0, .own b ver len)] ∧ H = E.H0.set b (.arr ver 3 (xs.map r) 0)) ((m - p) + (q - m)) (ts0 := fr 58 [(11, .v (.int .i64 (q - m : Nat))), (10, .v (.int .i64 (m - p : Nat))), (4, .fn f caps), (2, .v (.int .i64 m)), (0, .own b ver len)]) (H0 := E.H0) (.weakFr ?_) ⟨m - p, q - m, l, rfl, by omega, by omega, Nat.le_refl _, Nat.le_refl _, hlen, rfl, rfl, (set_nop hb).symm⟩ ?_
  · simp only [le, ↓reduceIte, Nat.reduceEqDiff, and_true]; repeat' (first | exact trivial | exact D.le_refl _ | exact D.le_any _ | with_reducible refine And.intro ?_ ?_)
  rintro z ts H ⟨i, j, xs, rfl, hi1, hj1, hi, hj, hxl, hrot, rfl, hHH⟩
  have hb1 : H[b]? = some (.arr ver 3 (xs.map r) 0) := by rw [hHH]; exact List.getElem?_set_self hlt
  have hwmi := wrap_subN (i := m) (j := i) (by omega) (by omega)
  (refine W0 t3 ?_; try with_reducible intro K hK)
  refine sat_cond rfl (fun hc => ?_) (fun hc => ?_)
  · simp at hc
    (refine W0 t3 ?_; try with_reducible intro K hK)
    refine sat_cond rfl (fun hd => ?_) (fun hd => ?_)
    · simp at hd
      have hwij := wrap_subN (i := i) (j := j) (by omega) (by omega)
      (refine W0 (c2 t3 @hwmi) ?_; try with_reducible intro K hK)
      refine spec_swapRangeCho r hr hcl f caps xs b ver len (m - i) m j hxl (by omega) (by omega) hl _ hb1 _ (hK _ _ ?_)
      clear hK K; simp only [lp]
      (refine W0 (c2 t3 @hwij) ?_; try with_reducible intro K hK)
      refine ⟨(i - j) + j, _, _, by omega, .weakFr ?_, i - j, j, swr (m - i) m j xs, rfl, by omega, by omega, by omega, by omega, by rw [(swr_perm (m - i) m j xs).length_eq, hxl], by rw [← rotF_gt hd hj1, hrot], rfl, ?_⟩
      · simp only [le, ↓reduceIte, Nat.reduceEqDiff, and_true]; repeat' (first | exact trivial | exact D.le_refl _ | exact D.le_any _ | with_reducible refine And.intro ?_ ?_)
      · rw [hHH, List.set_set]
    · simp at hd
      have hwji := wrap_subN (i := j) (j := i) (by omega) (by omega)
      have hwmj := wrap_addN (i := m) (j := j) (by omega)
      have hwmji := wrap_subN (i := m + j) (j := i) (by omega) (by omega)
      (refine W0 (c4 t3 @hwmi @hwmj @hwmji) ?_; try with_reducible intro K hK)
      refine spec_swapRangeCho r hr hcl f caps xs b ver len (m - i) (m + j - i) i hxl (by omega) (by omega) hl _ hb1 _ (hK _ _ ?_)
      clear hK K; simp only [lp]
      (refine W0 (c2 t3 @hwji) ?_; try with_reducible intro K hK)
      refine ⟨i + (j - i), _, _, by omega, .weakFr ?_, i, j - i, swr (m - i) (m + j - i) i xs, rfl, by omega, by omega, by omega, by omega, by rw [(swr_perm (m - i) (m + j - i) i xs).length_eq, hxl], by rw [← rotF_lt (by omega) hi1, hrot], rfl, ?_⟩
      · simp only [le, ↓reduceIte, Nat.reduceEqDiff, and_true]; repeat' (first | exact trivial | exact D.le_refl _ | exact D.le_any _ | with_reducible refine And.intro ?_ ?_)
      · rw [hHH, List.set_set]
  · simp at hc
    (refine W0 (c2 t3 @hwmi) ?_; try with_reducible intro K hK)
    refine spec_swapRangeCho r hr hcl f caps xs b ver len (m - i) m i hxl (by omega) (by omega) hl _ hb1 _ (hK _ _ ?_)
    clear hK K; simp only [lp]
    (refine W0 t3 ?_; try with_reducible intro K hK)
    refine Fin.here ?_
    rw [hHH, List.set_set, ← rotF_eq hc, hrot]
    exact hK
end Go.Ag
namespace Go.Ag
open Go Go.Proofs
variable {G : Nat → Option (List V)}
attribute [local irreducible] aops qops Sat aop

set_option maxRecDepth 20000 in
set_option maxHeartbeats 16000000 in
theorem spec_symMergeCho {α : Type} (r : α → List D) (hr : ∀ x, (r x).length = 3) (hcl : ∀ x, (r x).all D.cell = true) (c : α → α → Int) (f : FuncId) (caps : List D) (b ver len : Nat) (hl : len ≤ 1000000) (Hs : List Ob)
    (hf : ∀ x y (H' : List Ob) (K : D → List Ob → Prop), (∀ j, j ≠ b → H'[j]? = Hs[j]?) → K (.v (.int .i64 (c x y))) H' → ACalls Tryz.prog G f (.agg (r x) :: .agg (r y) :: caps) H' K) :
    ∀ (N p m q : Nat) (l : List α) (H : List Ob) (K : D → List Ob → Prop), q - p ≤ N → p < m → m < q → q ≤ len → l.length = len → H[b]? = some (.arr ver 3 (l.map r) 0) → (∀ j, j ≠ b → H[j]? = Hs[j]?) →
      K (.tup []) (H.set b (.arr ver 3 ((symF c N p m q l).map r) 0)) →
      ACalls Tryz.prog G 152 [.own b ver len, .v (.int .i64 p), .v (.int .i64 m), .v (.int .i64 q), .fn f caps] H K := by
  intro N
  induction N with
  | zero => intro p m q l H K h1 h2 h3; omega
  | succ N ih =>
  intro p m q l H K hN hpm hmq hq hlen hb hH0 hK
  have hlt := (List.getElem?_eq_some_iff.1 hb).1
  refine ACalls.go Tryz.f152 _ 220 [] Tryz.func152 rfl Tryz.ntmps152 (by kernel_rfl) rfl (by simp) (fun E hE hP hG hH => ?_)
  have hM : E.P.follows .mixedOrders = true := hP ▸ mixed
  subst hH
  have hrt : ∀ x, (r x).take 3 = r x := fun x => List.take_of_length_le (by rw [hr]; exact Nat.le_refl _)
  have hrd : ∀ x, (r x).drop 3 = [] := fun x => List.drop_of_length_le (by rw [hr]; exact Nat.le_refl _)
  have hms : ∀ (l : List α) i y, (l.map r).set i (r y) = (l.set i y).map r := fun l i y => by simp [List.map_set]
  have hrow : ∀ (xs : List α) (i : Nat) (x : α), xs[i]? = some x → (xs.map r)[i]? = some (r x) := fun xs i x h => by simp [h]
  have hat : ∀ (xs : List α) (i : Nat), xs.length = len → i < len → ∃ x, xs[i]? = some x ∧ (xs.map r)[i]? = some (r x) := fun xs i h1 h2 => ⟨xs[i]'(by omega), List.getElem?_eq_getElem _, hrow _ _ _ (List.getElem?_eq_getElem _)⟩
  have hwmp := wrap_subN (i := m) (j := p) (by omega) (by omega)
  have hwqm := wrap_subN (i := q) (j := m) (by omega) (by omega)
  have hp0 : p < len := by omega
  have hm0 : m < len := by omega
  simp only [args0]
  (refine W0 (c2 t3 @hwmp) ?_; try with_reducible intro K hK)
  refine sat_cond rfl (fun hc1 => ?_) (fun hc1 => ?_)
  · (refine W0 t3 ?_; try with_reducible intro K hK)
    obtain ⟨x0, hx0, hx0r⟩ := hat l p hlen hp0
    refine sat_loop_ent (fun z ts H => ∃ (i j : Nat), z = j - i ∧ m ≤ i ∧ i ≤ j ∧ j ≤ q ∧ bsF (fun h => lessF c l h p) i j = bsF (fun h => lessF c l h p) m q ∧
      ts = fr 220 [(11, .v (.int .i64 j)), (10, .v (.int .i64 i)), (4, .fn f caps), (3, .v (.int .i64 q)), (2, .v (.int .i64 m)), (1, .v (.int .i64 p)), (0, .own b ver len)] ∧ H = E.H0) (q - m) (.weakFr ?_) ⟨m, q, rfl, Nat.le_refl _, by omega, Nat.le_refl _, rfl, rfl, rfl⟩ ?_
    · simp only [le, ↓reduceIte, Nat.reduceEqDiff, and_true]; repeat' (first | exact trivial | exact D.le_refl _ | exact D.le_any _ | with_reducible refine And.intro ?_ ?_)
    rintro z ts H ⟨i, j, rfl, hmi, hij, hjq, hbs, rfl, rfl⟩
    (refine W0 t3 ?_; try with_reducible intro K hK)
    refine sat_cond rfl (fun hc => ?_) (fun hc => ?_)
    · simp at hc
      have hwij := wrap_addN (i := i) (j := j) (by omega)
      have hh := halfN (n := i + j) (by omega)
      have hhl : (i + j) / 2 < len := by omega
      have hwh := wrap_succ (i := (i + j) / 2) (by omega)
      obtain ⟨xh, hxh, hxhr⟩ := hat l ((i + j) / 2) hlen hhl
      (refine W0 (c14 t3 t130 t24 t46 @hwij @hh @hb @hp0 @hhl @hx0r @hxhr @hr @hrt @List.drop_zero.{0}) ?_; try with_reducible intro K hK)
      refine ⟨_, hf xh x0 _ _ hH0 ⟨rfl, rfl⟩, hK _ ?_⟩
      clear hK K; simp only [lp]
      (refine W0 t3 ?_; try with_reducible intro K hK)
      have hle := lessF_eq (c := c) hxh hx0
      refine sat_cond rfl (fun hd => ?_) (fun hd => ?_)
      · (refine W0 (c2 t3 @hwh) ?_; try with_reducible intro K hK)
        refine ⟨j - ((i + j) / 2 + 1), _, _, by omega, .weakFr ?_, (i + j) / 2 + 1, j, rfl, by omega, by omega, hjq, by rw [← bsF_yes hc (by rw [hle]; exact hd), hbs], rfl, rfl⟩
        simp only [le, ↓reduceIte, Nat.reduceEqDiff, and_true]; repeat' (first | exact trivial | exact D.le_refl _ | exact D.le_any _ | with_reducible refine And.intro ?_ ?_)
      · (refine W0 t3 ?_; try with_reducible intro K hK)
        refine ⟨(i + j) / 2 - i, _, _, by omega, .weakFr ?_, i, (i + j) / 2, rfl, hmi, by omega, by omega, by rw [← bsF_no hc (by rw [hle]; exact hd), hbs], rfl, rfl⟩
        simp only [le, ↓reduceIte, Nat.reduceEqDiff, and_true]; repeat' (first | exact trivial | exact D.le_refl _ | exact D.le_any _ | with_reducible refine And.intro ?_ ?_)
    · simp at hc
      obtain ⟨i0, rfl⟩ : ∃ i0, i = i0 + 1 := ⟨i - 1, by omega⟩
      rw [bsF_stop (by omega)] at hbs
      have hsym : symF c (N + 1) p m q l = upF (i0 - p) p l := by rw [symF, if_pos (by simp at hc1; omega), ← hbs]; rfl
      rw [hsym] at hK
      have hwi := wrap_pred (i := i0) (by omega)
      (refine W0 t3 ?_; try with_reducible intro K hK)
      refine sat_loop_ent (fun z ts H => ∃ (k : Nat) (xs : List α), z = i0 - k ∧ xs.length = len ∧ upF (i0 - k) k xs = upF (i0 - p) p l ∧
        ts = fr 220 [(13, .v (.int .i64 k)), (10, .v (.int .i64 (i0 + 1 : Nat))), (0, .own b ver len)] ∧ H = E.H0.set b (.arr ver 3 (xs.map r) 0)) (i0 - p) (ts0 := fr 220 [(13, .v (.int .i64 p)), (10, .v (.int .i64 (i0 + 1 : Nat))), (0, .own b ver len)]) (H0 := E.H0) (.weakFr ?_) ⟨p, l, rfl, hlen, rfl, rfl, (set_nop hb).symm⟩ ?_
      · simp only [le, ↓reduceIte, Nat.reduceEqDiff, and_true]; repeat' (first | exact trivial | exact D.le_refl _ | exact D.le_any _ | with_reducible refine And.intro ?_ ?_)
      rintro z ts H ⟨k, xs, rfl, hxl, hup, rfl, hHH⟩
      have hb1 : H[b]? = some (.arr ver 3 (xs.map r) 0) := by rw [hHH]; exact List.getElem?_set_self hlt
      have gs : ∀ o, (H.set b o)[b]? = some o := fun o => List.getElem?_set_self (by rw [hHH]; simpa using hlt)
      (refine W0 (c2 t3 @hwi) ?_; try with_reducible intro K hK)
      refine sat_cond rfl (fun hd => ?_) (fun hd => ?_)
      · simp at hd
        obtain ⟨x, hx, hxr⟩ := hat xs k hxl (by omega)
        obtain ⟨y, hy, hyr⟩ := hat xs (k + 1) hxl (by omega)
        have hwk := wrap_succ (i := k) (by omega)
        have hkl : k < len := by omega
        have hkl1 : k + 1 < len := by omega
        have hsw : ((xs.set k y).map r)[k + 1]? = some (r y) := hrow _ _ _ (by rw [List.getElem?_set_ne (by omega)]; exact hy)
        refine sat_skip ?_
        repeat (first | ((first | refine wi ?_ | refine wj ?_ | refine wk ?_ | refine wl ?_ | refine wm ?_ | refine wn ?_); simp only [lt, ↓reduceIte, Nat.reduceEqDiff]) | refine wo ?_)
        repeat refine wa ?_
        refine wo ?_
        refine sat_stay hM ?_
        (refine S0 (c2 (c19 t3 t24 t46 @hb1 @hyr @hxr @hwk @hkl @hkl1 @gs @hms @hsw @hcl @hr @hrt @hrd @List.drop_zero.{0} @List.take_zero.{0} @List.nil_append.{0}) (c2 @List.append_nil.{0} @List.set_set.{0})) ?_; try with_reducible intro K hK)
        (refine W0 (c2 t3 @hwk) ?_; try with_reducible intro K hK)
        refine ⟨i0 - (k + 1), _, _, by omega, .weakFr ?_, k + 1, swp xs k (k + 1), rfl, by rw [swp_len, hxl], by rw [← hup, show i0 - k = i0 - (k + 1) + 1 by omega]; rfl, rfl, ?_⟩
        · simp only [le, ↓reduceIte, Nat.reduceEqDiff, and_true]; repeat' (first | exact trivial | exact D.le_refl _ | exact D.le_any _ | with_reducible refine And.intro ?_ ?_)
        · rw [hHH, List.set_set, swp_eq hx hy]
      · simp at hd
        rw [show i0 - k = 0 by omega] at hup
        (refine W0 trivial ?_; try with_reducible intro K hK)
        refine Fin.here ?_
        rw [hHH, show xs = upF (i0 - p) p l from hup]; exact hK
  (refine W0 (c2 t3 @hwqm) ?_; try with_reducible intro K hK)
  refine sat_cond rfl (fun hc2 => ?_) (fun hc2 => ?_)
  · (refine W0 t3 ?_; try with_reducible intro K hK)
    obtain ⟨x0, hx0, hx0r⟩ := hat l m hlen hm0
    refine sat_loop_ent (fun z ts H => ∃ (i j : Nat), z = j - i ∧ p ≤ i ∧ i ≤ j ∧ j ≤ m ∧ bsF (fun h => !lessF c l m h) i j = bsF (fun h => !lessF c l m h) p m ∧
      ts = fr 220 [(15, .v (.int .i64 j)), (14, .v (.int .i64 i)), (4, .fn f caps), (3, .v (.int .i64 q)), (2, .v (.int .i64 m)), (1, .v (.int .i64 p)), (0, .own b ver len)] ∧ H = E.H0) (m - p) (.weakFr ?_) ⟨p, m, rfl, Nat.le_refl _, by omega, Nat.le_refl _, rfl, rfl, rfl⟩ ?_
    · simp only [le, ↓reduceIte, Nat.reduceEqDiff, and_true]; repeat' (first | exact trivial | exact D.le_refl _ | exact D.le_any _ | with_reducible refine And.intro ?_ ?_)
    rintro z ts H ⟨i, j, rfl, hmi, hij, hjq, hbs, rfl, rfl⟩
    (refine W0 t3 ?_; try with_reducible intro K hK)
    refine sat_cond rfl (fun hc => ?_) (fun hc => ?_)
    · simp at hc
      have hwij := wrap_addN (i := i) (j := j) (by omega)
      have hh := halfN (n := i + j) (by omega)
      have hhl : (i + j) / 2 < len := by omega
      have hwh := wrap_succ (i := (i + j) / 2) (by omega)
      obtain ⟨xh, hxh, hxhr⟩ := hat l ((i + j) / 2) hlen hhl
      (refine W0 (c14 t3 t130 t24 t46 @hwij @hh @hb @hm0 @hhl @hx0r @hxhr @hr @hrt @List.drop_zero.{0}) ?_; try with_reducible intro K hK)
      refine ⟨_, hf x0 xh _ _ hH0 ⟨rfl, rfl⟩, hK _ ?_⟩
      clear hK K; simp only [lp]
      (refine W0 t3 ?_; try with_reducible intro K hK)
      have hle := lessF_eq (c := c) hx0 hxh
      refine sat_cond rfl (fun hd => ?_) (fun hd => ?_)
      · (refine W0 (c2 t3 @hwh) ?_; try with_reducible intro K hK)
        refine ⟨j - ((i + j) / 2 + 1), _, _, by omega, .weakFr ?_, (i + j) / 2 + 1, j, rfl, by omega, by omega, hjq, by rw [← bsF_yes hc (by rw [hle]; exact hd), hbs], rfl, rfl⟩
        simp only [le, ↓reduceIte, Nat.reduceEqDiff, and_true]; repeat' (first | exact trivial | exact D.le_refl _ | exact D.le_any _ | with_reducible refine And.intro ?_ ?_)
      · (refine W0 t3 ?_; try with_reducible intro K hK)
        refine ⟨(i + j) / 2 - i, _, _, by omega, .weakFr ?_, i, (i + j) / 2, rfl, hmi, by omega, by omega, by rw [← bsF_no hc (by rw [hle]; exact hd), hbs], rfl, rfl⟩
        simp only [le, ↓reduceIte, Nat.reduceEqDiff, and_true]; repeat' (first | exact trivial | exact D.le_refl _ | exact D.le_any _ | with_reducible refine And.intro ?_ ?_)
    · simp at hc
      rw [bsF_stop (by omega)] at hbs
      have hsym : symF c (N + 1) p m q l = dnF (m - i) m l := by rw [symF, if_neg (by simp at hc1; omega), if_pos (by simp at hc2; omega), ← hbs]
      rw [hsym] at hK
      (refine W0 t3 ?_; try with_reducible intro K hK)
      refine sat_loop_ent (fun z ts H => ∃ (k : Nat) (xs : List α), z = k ∧ k ≤ m ∧ i ≤ k ∧ xs.length = len ∧ dnF (k - i) k xs = dnF (m - i) m l ∧
        ts = fr 220 [(17, .v (.int .i64 k)), (14, .v (.int .i64 i)), (0, .own b ver len)] ∧ H = E.H0.set b (.arr ver 3 (xs.map r) 0)) m (ts0 := fr 220 [(17, .v (.int .i64 m)), (14, .v (.int .i64 i)), (0, .own b ver len)]) (H0 := E.H0) (.weakFr ?_) ⟨m, l, rfl, Nat.le_refl _, by omega, hlen, rfl, rfl, (set_nop hb).symm⟩ ?_
      · simp only [le, ↓reduceIte, Nat.reduceEqDiff, and_true]; repeat' (first | exact trivial | exact D.le_refl _ | exact D.le_any _ | with_reducible refine And.intro ?_ ?_)
      rintro k ts H ⟨_, xs, rfl, hkm, hik, hxl, hdn, rfl, hHH⟩
      have hb1 : H[b]? = some (.arr ver 3 (xs.map r) 0) := by rw [hHH]; exact List.getElem?_set_self hlt
      have gs : ∀ o, (H.set b o)[b]? = some o := fun o => List.getElem?_set_self (by rw [hHH]; simpa using hlt)
      (refine W0 t3 ?_; try with_reducible intro K hK)
      refine sat_cond rfl (fun hd => ?_) (fun hd => ?_)
      · simp at hd
        obtain ⟨k0, rfl⟩ : ∃ k0, k = k0 + 1 := ⟨k - 1, by omega⟩
        have hkl : k0 < len := by omega
        have hkl1 : k0 + 1 < len := by omega
        obtain ⟨x, hx, hxr⟩ := hat xs k0 hxl hkl
        obtain ⟨y, hy, hyr⟩ := hat xs (k0 + 1) hxl hkl1
        have hwk := wrap_pred (i := k0) (by omega)
        have hsw : ((xs.set (k0 + 1) x).map r)[k0]? = some (r x) := hrow _ _ _ (by rw [List.getElem?_set_ne (by omega)]; exact hx)
        refine sat_skip ?_
        repeat (first | ((first | refine wi ?_ | refine wj ?_ | refine wk ?_ | refine wl ?_ | refine wm ?_ | refine wn ?_); simp only [lt, ↓reduceIte, Nat.reduceEqDiff]) | refine wo ?_)
        repeat refine wa ?_
        refine wo ?_
        refine sat_stay hM ?_
        (refine S0 (c2 (c19 t3 t24 t46 @hb1 @hyr @hxr @hwk @hkl @hkl1 @gs @hms @hsw @hcl @hr @hrt @hrd @List.drop_zero.{0} @List.take_zero.{0} @List.nil_append.{0}) (c2 @List.append_nil.{0} @List.set_set.{0})) ?_; try with_reducible intro K hK)
        (refine W0 (c2 t3 @hwk) ?_; try with_reducible intro K hK)
        refine ⟨k0, _, _, by omega, .weakFr ?_, k0, swp xs (k0 + 1) k0, rfl, by omega, by omega, by rw [swp_len, hxl], by rw [← hdn, show k0 + 1 - i = k0 - i + 1 by omega]; rfl, rfl, ?_⟩
        · simp only [le, ↓reduceIte, Nat.reduceEqDiff, and_true]; repeat' (first | exact trivial | exact D.le_refl _ | exact D.le_any _ | with_reducible refine And.intro ?_ ?_)
        · rw [hHH, List.set_set, swp_eq hy hx]
      · simp at hd
        rw [show k - i = 0 by omega] at hdn
        (refine W0 trivial ?_; try with_reducible intro K hK)
        refine Fin.here ?_
        rw [hHH, show xs = dnF (m - i) m l from hdn]; exact hK
  simp at hc1 hc2
  have hsym : ∀ s, s = symS c p m q l → symF c (N + 1) p m q l = (if (p + q) / 2 < (p + q) / 2 + m - s ∧ (p + q) / 2 + m - s < q then symF c N ((p + q) / 2) ((p + q) / 2 + m - s) q (if p < s ∧ s < (p + q) / 2 then symF c N p s ((p + q) / 2) (if s < m ∧ m < (p + q) / 2 + m - s then rotF m (m - s) ((p + q) / 2 + m - s - m) l else l) else (if s < m ∧ m < (p + q) / 2 + m - s then rotF m (m - s) ((p + q) / 2 + m - s - m) l else l)) else (if p < s ∧ s < (p + q) / 2 then symF c N p s ((p + q) / 2) (if s < m ∧ m < (p + q) / 2 + m - s then rotF m (m - s) ((p + q) / 2 + m - s - m) l else l) else (if s < m ∧ m < (p + q) / 2 + m - s then rotF m (m - s) ((p + q) / 2 + m - s - m) l else l))) := fun s hs => by
    rw [symF, if_neg (by omega), if_neg (by omega)]; subst hs; rfl
  obtain ⟨mid, hmid⟩ : ∃ mid, mid = (p + q) / 2 := ⟨_, rfl⟩
  obtain ⟨n, hn⟩ : ∃ n, mid + m = n + 1 := ⟨mid + m - 1, by omega⟩
  have hwpq := wrap_addN (i := p) (j := q) (by omega)
  have hh0 := halfN (n := p + q) (by omega)
  have hwn := wrap_addN (i := mid) (j := m) (by omega)
  rw [← hmid] at hh0
  rw [hn] at hwn
  obtain ⟨tt, htt⟩ : ∃ tt : Nat → Bool, tt = fun h => !lessF c l ((p + q) / 2 + m - 1 - h) h := ⟨_, rfl⟩
  have hS : symS c p m q l = if m > (p + q) / 2 then bsF tt ((p + q) / 2 + m - q) ((p + q) / 2) else bsF tt p m := by rw [symS, htt]
  rw [← hmid] at hS htt
  (refine W0 (c5 t3 t130 @hwpq @hh0 @hwn) ?_; try with_reducible intro K hK)
  refine sat_thruF (ι := Nat × Nat) (fun x => p ≤ x.1 ∧ x.1 ≤ x.2 ∧ x.2 ≤ m ∧ n + 1 - x.1 ≤ q ∧ x.2 ≤ n + 1 ∧ bsF tt x.1 x.2 = symS c p m q l) (fun x => fr 220 [(21, .v (.int .i64 x.2)), (20, .v (.int .i64 x.1)), (19, .v (.int .i64 (n + 1 : Nat))), (18, .v (.int .i64 mid)), (4, .fn f caps), (3, .v (.int .i64 q)), (2, .v (.int .i64 m)), (1, .v (.int .i64 p)), (0, .own b ver len)]) (fun _ => E.H0) ?_ ?_
  · refine sat_cond rfl (fun hd => ?_) (fun hd => ?_)
    · simp at hd
      have hw := wrap_subN (i := n + 1) (j := q) (by omega) (by omega)
      (refine W0 (c2 t3 @hw) ?_; try with_reducible intro K hK)
      refine ⟨(n + 1 - q, mid), ⟨by omega, by omega, by omega, by omega, by omega, by rw [hS, if_pos hd, hn]⟩, .weakFr ?_⟩
      simp only [le, ↓reduceIte, Nat.reduceEqDiff, and_true]; repeat' (first | exact trivial | exact D.le_refl _ | exact D.le_any _ | with_reducible refine And.intro ?_ ?_)
    · simp at hd
      (refine W0 t3 ?_; try with_reducible intro K hK)
      refine ⟨(p, m), ⟨by omega, by omega, by omega, by omega, by omega, by rw [hS, if_neg (by omega)]⟩, .weakFr ?_⟩
      simp only [le, ↓reduceIte, Nat.reduceEqDiff, and_true]; repeat' (first | exact trivial | exact D.le_refl _ | exact D.le_any _ | with_reducible refine And.intro ?_ ?_)
  rintro ⟨s0, r0⟩ ⟨hs1, hs2, hs3, hs4, hs5, hs6⟩
  simp only at hs1 hs2 hs3 hs4 hs5 hs6
  have hwp := wrap_pred (i := n) (by omega)
  (refine W0 (c2 t3 @hwp) ?_; try with_reducible intro K hK)
  refine sat_loop_ent (fun z ts H => ∃ (s t : Nat), z = t - s ∧ s0 ≤ s ∧ s ≤ t ∧ t ≤ r0 ∧ bsF tt s t = symS c p m q l ∧
    ts = fr 220 [(22, .v (.int .i64 n)), (21, .v (.int .i64 t)), (20, .v (.int .i64 s)), (19, .v (.int .i64 (n + 1 : Nat))), (18, .v (.int .i64 mid)), (4, .fn f caps), (3, .v (.int .i64 q)), (2, .v (.int .i64 m)), (1, .v (.int .i64 p)), (0, .own b ver len)] ∧ H = E.H0) (r0 - s0) (.weakFr ?_) ⟨s0, r0, rfl, Nat.le_refl _, hs2, Nat.le_refl _, hs6, rfl, rfl⟩ ?_
  · simp only [le, ↓reduceIte, Nat.reduceEqDiff, and_true]; repeat' (first | exact trivial | exact D.le_refl _ | exact D.le_any _ | with_reducible refine And.intro ?_ ?_)
  rintro z ts H ⟨s, t, rfl, hss, hst, htr, hbs, rfl, rfl⟩
  (refine W0 t3 ?_; try with_reducible intro K hK)
  refine sat_cond rfl (fun hc => ?_) (fun hc => ?_)
  · simp at hc
    have hwst := wrap_addN (i := s) (j := t) (by omega)
    have hh := halfN (n := s + t) (by omega)
    have hhl : (s + t) / 2 < len := by omega
    have hwh := wrap_succ (i := (s + t) / 2) (by omega)
    have hwc := wrap_subN (i := n) (j := (s + t) / 2) (by omega) (by omega)
    have hwl : n - (s + t) / 2 < len := by omega
    obtain ⟨xh, hxh, hxhr⟩ := hat l ((s + t) / 2) hlen hhl
    obtain ⟨xk, hxk, hxkr⟩ := hat l (n - (s + t) / 2) hlen hwl
    (refine W0 (c15 t3 t130 t24 t46 @hwst @hh @hwc @hb @hhl @hwl @hxhr @hxkr @hr @hrt @List.drop_zero.{0}) ?_; try with_reducible intro K hK)
    refine ⟨_, hf xk xh _ _ hH0 ⟨rfl, rfl⟩, hK _ ?_⟩
    clear hK K; simp only [lp]
    (refine W0 t3 ?_; try with_reducible intro K hK)
    have hle : tt ((s + t) / 2) = !decide (c xk xh < 0) := by
      rw [htt]
      show (!lessF c l (mid + m - 1 - (s + t) / 2) ((s + t) / 2)) = _
      rw [show mid + m - 1 - (s + t) / 2 = n - (s + t) / 2 by omega, lessF_eq hxk hxh]
    refine sat_cond rfl (fun hd => ?_) (fun hd => ?_)
    · (refine W0 (c2 t3 @hwh) ?_; try with_reducible intro K hK)
      refine ⟨t - ((s + t) / 2 + 1), _, _, by omega, .weakFr ?_, (s + t) / 2 + 1, t, rfl, by omega, by omega, htr, by rw [← bsF_yes hc (by rw [hle]; exact hd), hbs], rfl, rfl⟩
      simp only [le, ↓reduceIte, Nat.reduceEqDiff, and_true]; repeat' (first | exact trivial | exact D.le_refl _ | exact D.le_any _ | with_reducible refine And.intro ?_ ?_)
    · (refine W0 t3 ?_; try with_reducible intro K hK)
      refine ⟨(s + t) / 2 - s, _, _, by omega, .weakFr ?_, s, (s + t) / 2, rfl, hss, by omega, by omega, by rw [← bsF_no hc (by rw [hle]; exact hd), hbs], rfl, rfl⟩
      simp only [le, ↓reduceIte, Nat.reduceEqDiff, and_true]; repeat' (first | exact trivial | exact D.le_refl _ | exact D.le_any _ | with_reducible refine And.intro ?_ ?_)
  simp at hc
  rw [bsF_stop (by omega)] at hbs
  have hsym := hsym s hbs
  rw [← hmid, hn] at hsym
  rw [hsym] at hK
  clear hsym hS htt
  have hwe := wrap_subN (i := n + 1) (j := s) (by omega) (by omega)
  (refine W0 (c2 t3 @hwe) ?_; try with_reducible intro K hK)
  have hset : ∀ xs : List α, (E.H0.set b (.arr ver 3 (xs.map r) 0))[b]? = some (.arr ver 3 (xs.map r) 0) := fun xs => List.getElem?_set_self hlt
  have hoth : ∀ (o : Ob) (j : Nat), j ≠ b → (E.H0.set b o)[j]? = Hs[j]? := fun o j hj => by rw [List.getElem?_set_ne (Ne.symm hj)]; exact hH0 j hj
  refine sat_thru (fr 220 [(185, .v (.bool (decide (s < m) && decide (m < n + 1 - s)))), (24, .v (.int .i64 (n + 1 - s : Nat))), (20, .v (.int .i64 s)), (18, .v (.int .i64 mid)), (4, .fn f caps), (3, .v (.int .i64 q)), (2, .v (.int .i64 m)), (1, .v (.int .i64 p)), (0, .own b ver len)]) E.H0 ?_ ?_
  · by_cases hg : s < m
    · have hgt : decide (s < m) = true := by simp; omega
      (first | refine wr ?_ | refine wp rfl hM ?_ | refine wq hM ?_); repeat' (first | (refine G0 (c2 t3 @hgt) ?_; try with_reducible intro K hK) | ((first | refine Xs rfl rfl (by decide) rfl (fun h => ?_) fun h => ?_ | refine Ys rfl rfl (by decide) rfl (fun h => ?_) fun h => ?_ | refine Zs rfl rfl rfl (by decide) rfl (fun h => ?_) fun h => ?_); rotate_left; (focus (simp only [Bool.not_true, Bool.not_false, lp])); rotate_left))
      refine .weakFr ?_
      rw [hgt]
      simp only [le, ↓reduceIte, Nat.reduceEqDiff, and_true]; repeat' (first | exact trivial | exact D.le_refl _ | exact D.le_any _ | with_reducible refine And.intro ?_ ?_)
    · have hgt : decide (s < m) = false := by simp; omega
      (first | refine wr ?_ | refine wp rfl hM ?_ | refine wq hM ?_); repeat' (first | (refine G0 (c2 t3 @hgt) ?_; try with_reducible intro K hK) | ((first | refine Xs rfl rfl (by decide) rfl (fun h => ?_) fun h => ?_ | refine Ys rfl rfl (by decide) rfl (fun h => ?_) fun h => ?_ | refine Zs rfl rfl rfl (by decide) rfl (fun h => ?_) fun h => ?_); rotate_left; (focus (simp only [Bool.not_true, Bool.not_false, lp])); rotate_left))
      refine .weakFr ?_
      rw [hgt]
      simp only [le, ↓reduceIte, Nat.reduceEqDiff, and_true]; repeat' (first | exact trivial | exact D.le_refl _ | exact D.le_any _ | with_reducible refine And.intro ?_ ?_)
  refine sat_thruF (ι := List α) (fun xs => xs.length = len ∧ xs = (if s < m ∧ m < n + 1 - s then rotF m (m - s) (n + 1 - s - m) l else l)) (fun _ => fr 220 [(24, .v (.int .i64 (n + 1 - s : Nat))), (20, .v (.int .i64 s)), (18, .v (.int .i64 mid)), (4, .fn f caps), (3, .v (.int .i64 q)), (2, .v (.int .i64 m)), (1, .v (.int .i64 p)), (0, .own b ver len)]) (fun xs => E.H0.set b (.arr ver 3 (xs.map r) 0)) ?_ ?_
  · refine sat_cond rfl (fun hd => ?_) (fun hd => ?_)
    · simp at hd
      (refine W0 trivial ?_; try with_reducible intro K hK)
      refine spec_rotateCho r hr hcl f caps l b ver len s m (n + 1 - s) hlen (by omega) (by omega) (by omega) hl _ hb _ (hK _ _ ?_)
      clear hK K; simp only [lp]
      (refine W0 trivial ?_; try with_reducible intro K hK)
      refine ⟨rotF m (m - s) (n + 1 - s - m) l, ⟨by rw [(rotF_perm m (m - s) (n + 1 - s - m) l).length_eq, hlen], by rw [if_pos hd]⟩, .weakFr ?_⟩
      simp only [le, ↓reduceIte, Nat.reduceEqDiff, and_true]; repeat' (first | exact trivial | exact D.le_refl _ | exact D.le_any _ | with_reducible refine And.intro ?_ ?_)
    · (refine W0 trivial ?_; try with_reducible intro K hK)
      refine ⟨l, ⟨hlen, by rw [if_neg (by simpa using hd)]⟩, ?_⟩
      rw [set_nop hb]
      refine .weakFr ?_
      simp only [le, ↓reduceIte, Nat.reduceEqDiff, and_true]; repeat' (first | exact trivial | exact D.le_refl _ | exact D.le_any _ | with_reducible refine And.intro ?_ ?_)
  rintro ys ⟨hyl, hys⟩
  rw [← hys] at hK
  repeat (first | ((first | refine wi ?_ | refine wj ?_ | refine wk ?_ | refine wl ?_ | refine wm ?_ | refine wn ?_); simp only [lt, ↓reduceIte, Nat.reduceEqDiff]) | refine wo ?_)
  repeat refine wa ?_
  refine sat_thru (fr 220 [(199, .v (.bool (decide (p < s) && decide (s < mid)))), (24, .v (.int .i64 (n + 1 - s : Nat))), (20, .v (.int .i64 s)), (18, .v (.int .i64 mid)), (4, .fn f caps), (3, .v (.int .i64 q)), (2, .v (.int .i64 m)), (1, .v (.int .i64 p)), (0, .own b ver len)]) (E.H0.set b (.arr ver 3 (ys.map r) 0)) ?_ ?_
  · by_cases hg : p < s
    · have hgt : decide (p < s) = true := by simp; omega
      (first | refine wr ?_ | refine wp rfl hM ?_ | refine wq hM ?_); repeat' (first | (refine G0 (c2 t3 @hgt) ?_; try with_reducible intro K hK) | ((first | refine Xs rfl rfl (by decide) rfl (fun h => ?_) fun h => ?_ | refine Ys rfl rfl (by decide) rfl (fun h => ?_) fun h => ?_ | refine Zs rfl rfl rfl (by decide) rfl (fun h => ?_) fun h => ?_); rotate_left; (focus (simp only [Bool.not_true, Bool.not_false, lp])); rotate_left))
      refine .weakFr ?_
      rw [hgt]
      simp only [le, ↓reduceIte, Nat.reduceEqDiff, and_true]; repeat' (first | exact trivial | exact D.le_refl _ | exact D.le_any _ | with_reducible refine And.intro ?_ ?_)
    · have hgt : decide (p < s) = false := by simp; omega
      (first | refine wr ?_ | refine wp rfl hM ?_ | refine wq hM ?_); repeat' (first | (refine G0 (c2 t3 @hgt) ?_; try with_reducible intro K hK) | ((first | refine Xs rfl rfl (by decide) rfl (fun h => ?_) fun h => ?_ | refine Ys rfl rfl (by decide) rfl (fun h => ?_) fun h => ?_ | refine Zs rfl rfl rfl (by decide) rfl (fun h => ?_) fun h => ?_); rotate_left; (focus (simp only [Bool.not_true, Bool.not_false, lp])); rotate_left))
      refine .weakFr ?_
      rw [hgt]
      simp only [le, ↓reduceIte, Nat.reduceEqDiff, and_true]; repeat' (first | exact trivial | exact D.le_refl _ | exact D.le_any _ | with_reducible refine And.intro ?_ ?_)
  refine sat_thruF (ι := List α) (fun xs => xs.length = len ∧ xs = if p < s ∧ s < mid then symF c N p s mid ys else ys) (fun _ => fr 220 [(24, .v (.int .i64 (n + 1 - s : Nat))), (20, .v (.int .i64 s)), (18, .v (.int .i64 mid)), (4, .fn f caps), (3, .v (.int .i64 q)), (2, .v (.int .i64 m)), (1, .v (.int .i64 p)), (0, .own b ver len)]) (fun xs => E.H0.set b (.arr ver 3 (xs.map r) 0)) ?_ ?_
  · refine sat_cond rfl (fun hd => ?_) (fun hd => ?_)
    · simp at hd
      (refine W0 trivial ?_; try with_reducible intro K hK)
      refine ih p s mid ys _ _ (by omega) (by omega) (by omega) (by omega) hyl (hset ys) (hoth _) (hK _ _ ?_)
      clear hK K; simp only [lp]
      (refine W0 trivial ?_; try with_reducible intro K hK)
      refine ⟨symF c N p s mid ys, ⟨by rw [(symF_perm c N p s mid ys).length_eq, hyl], by rw [if_pos hd]⟩, ?_⟩
      rw [List.set_set]
      refine .weakFr ?_
      simp only [le, ↓reduceIte, Nat.reduceEqDiff, and_true]; repeat' (first | exact trivial | exact D.le_refl _ | exact D.le_any _ | with_reducible refine And.intro ?_ ?_)
    · (refine W0 trivial ?_; try with_reducible intro K hK)
      refine ⟨ys, ⟨hyl, by rw [if_neg (by simpa using hd)]⟩, .weakFr ?_⟩
      simp only [le, ↓reduceIte, Nat.reduceEqDiff, and_true]; repeat' (first | exact trivial | exact D.le_refl _ | exact D.le_any _ | with_reducible refine And.intro ?_ ?_)
  rintro zs ⟨hzl, hzs⟩
  rw [← hzs] at hK
  repeat (first | ((first | refine wi ?_ | refine wj ?_ | refine wk ?_ | refine wl ?_ | refine wm ?_ | refine wn ?_); simp only [lt, ↓reduceIte, Nat.reduceEqDiff]) | refine wo ?_)
  repeat refine wa ?_
  refine sat_thru (fr 220 [(213, .v (.bool (decide (mid < n + 1 - s) && decide (n + 1 - s < q)))), (24, .v (.int .i64 (n + 1 - s : Nat))), (20, .v (.int .i64 s)), (18, .v (.int .i64 mid)), (4, .fn f caps), (3, .v (.int .i64 q)), (2, .v (.int .i64 m)), (1, .v (.int .i64 p)), (0, .own b ver len)]) (E.H0.set b (.arr ver 3 (zs.map r) 0)) ?_ ?_
  · by_cases hg : mid < n + 1 - s
    · have hgt : decide (mid < n + 1 - s) = true := by simp; omega
      (first | refine wr ?_ | refine wp rfl hM ?_ | refine wq hM ?_); repeat' (first | (refine G0 (c2 t3 @hgt) ?_; try with_reducible intro K hK) | ((first | refine Xs rfl rfl (by decide) rfl (fun h => ?_) fun h => ?_ | refine Ys rfl rfl (by decide) rfl (fun h => ?_) fun h => ?_ | refine Zs rfl rfl rfl (by decide) rfl (fun h => ?_) fun h => ?_); rotate_left; (focus (simp only [Bool.not_true, Bool.not_false, lp])); rotate_left))
      refine .weakFr ?_
      rw [hgt]
      simp only [le, ↓reduceIte, Nat.reduceEqDiff, and_true]; repeat' (first | exact trivial | exact D.le_refl _ | exact D.le_any _ | with_reducible refine And.intro ?_ ?_)
    · have hgt : decide (mid < n + 1 - s) = false := by simp; omega
      (first | refine wr ?_ | refine wp rfl hM ?_ | refine wq hM ?_); repeat' (first | (refine G0 (c2 t3 @hgt) ?_; try with_reducible intro K hK) | ((first | refine Xs rfl rfl (by decide) rfl (fun h => ?_) fun h => ?_ | refine Ys rfl rfl (by decide) rfl (fun h => ?_) fun h => ?_ | refine Zs rfl rfl rfl (by decide) rfl (fun h => ?_) fun h => ?_); rotate_left; (focus (simp only [Bool.not_true, Bool.not_false, lp])); rotate_left))
      refine .weakFr ?_
      rw [hgt]
      simp only [le, ↓reduceIte, Nat.reduceEqDiff, and_true]; repeat' (first | exact trivial | exact D.le_refl _ | exact D.le_any _ | with_reducible refine And.intro ?_ ?_)
  refine sat_cond rfl (fun hd => ?_) (fun hd => ?_)
  · simp at hd
    (refine W0 trivial ?_; try with_reducible intro K hK)
    refine ih mid (n + 1 - s) q zs _ _ (by omega) (by omega) (by omega) (by omega) hzl (hset zs) (hoth _) (hK _ _ ?_)
    clear hK K; simp only [lp]
    (refine W0 trivial ?_; try with_reducible intro K hK)
    refine Fin.here ?_
    rw [if_pos hd] at hK
    rw [List.set_set]; exact hK
  · rw [if_neg (by simpa using hd)] at hK
    (refine W0 trivial ?_; try with_reducible intro K hK)
    exact Fin.here hK
end Go.Ag
namespace Go.Ag
open Go Go.Proofs
variable {G : Nat → Option (List V)}
attribute [local irreducible] aops qops Sat aop

set_option maxRecDepth 20000 in
set_option maxHeartbeats 16000000 in
theorem spec_stableCho {α : Type} (r : α → List D) (hr : ∀ x, (r x).length = 3) (hcl : ∀ x, (r x).all D.cell = true) (c : α → α → Int) (f : FuncId) (caps : List D) (l : List α) (b ver len : Nat) (hlen : l.length = len) (hl : len ≤ 1000000) (H : List Ob) (hb : H[b]? = some (.arr ver 3 (l.map r) 0))
    (hf : ∀ x y (H' : List Ob) (K : D → List Ob → Prop), (∀ j, j ≠ b → H'[j]? = H[j]?) → K (.v (.int .i64 (c x y))) H' → ACalls Tryz.prog G f (.agg (r x) :: .agg (r y) :: caps) H' K)
    (K : D → List Ob → Prop) (hK : K (.tup []) (H.set b (.arr ver 3 ((stab c l).map r) 0))) : ACalls Tryz.prog G 129 [.own b ver len, .v (.int .i64 len), .fn f caps] H K := by
  have hlt := (List.getElem?_eq_some_iff.1 hb).1
  refine ACalls.go Tryz.f129 _ 63 [] Tryz.func129 rfl Tryz.ntmps129 (by kernel_rfl) rfl (by simp) (fun E hE hP hG hH => ?_)
  have hM : E.P.follows .mixedOrders = true := hP ▸ mixed
  subst hH
  have hset : ∀ xs : List α, (E.H0.set b (.arr ver 3 (xs.map r) 0))[b]? = some (.arr ver 3 (xs.map r) 0) := fun xs => List.getElem?_set_self hlt
  have hoth : ∀ (o : Ob) (j : Nat), j ≠ b → (E.H0.set b o)[j]? = E.H0[j]? := fun o j hj => by rw [List.getElem?_set_ne (Ne.symm hj)]
  have hfo : ∀ (o : Ob) (x y : α) (H' : List Ob) (K : D → List Ob → Prop), (∀ j, j ≠ b → H'[j]? = (E.H0.set b o)[j]?) → K (.v (.int .i64 (c x y))) H' → ACalls Tryz.prog G f (.agg (r x) :: .agg (r y) :: caps) H' K := fun o x y H' K h hk => hf x y H' K (fun j hj => by rw [h j hj, hoth o j hj]) hk
  simp only [args0]
  (refine W0 t3 ?_; try with_reducible intro K hK)
  refine sat_loop_ent (fun z ts H => ∃ (a : Nat) (xs : List α), z = len - a ∧ a ≤ len ∧ xs.length = len ∧ st1 c len a xs = st1 c len 0 l ∧
    ts = fr 63 [(8, .v (.int .i64 (a + 20 : Nat))), (7, .v (.int .i64 a)), (6, .v (.int .i64 20)), (2, .fn f caps), (1, .v (.int .i64 len)), (0, .own b ver len)] ∧ H = E.H0.set b (.arr ver 3 (xs.map r) 0)) len (ts0 := fr 63 [(8, .v (.int .i64 (0 + 20 : Nat))), (7, .v (.int .i64 (0 : Nat))), (6, .v (.int .i64 20)), (2, .fn f caps), (1, .v (.int .i64 len)), (0, .own b ver len)]) (H0 := E.H0) (.weakFr ?_) ⟨0, l, rfl, Nat.zero_le _, hlen, rfl, rfl, (set_nop hb).symm⟩ ?_
  · simp only [le, ↓reduceIte, Nat.reduceEqDiff, and_true]; repeat' (first | exact trivial | exact D.le_refl _ | exact D.le_any _ | with_reducible refine And.intro ?_ ?_)
  rintro z ts H ⟨a, xs, rfl, hal, hxl, hst, rfl, rfl⟩
  (refine W0 t3 ?_; try with_reducible intro K hK)
  refine sat_cond rfl (fun hc => ?_) (fun hc => ?_)
  · simp at hc
    have hw : IntKind.i64.wrap (((a + 20 : Nat) : Int) + 20) = ((a + 20 + 20 : Nat) : Int) := by rw [IntKind.wrap_i64]; omega
    (refine W0 t3 ?_; try with_reducible intro K hK)
    refine spec_insertionCho r hr hcl c f caps xs b ver len a (a + 20) hxl (by omega) (by omega) hl (by omega) _ (hset xs) (hfo _) _ (hK _ _ ?_)
    clear hK K; simp only [lp]
    rw [List.set_set]
    (refine W0 (c2 t3 @hw) ?_; try with_reducible intro K hK)
    refine ⟨len - (a + 20), _, _, by omega, .weakFr ?_, a + 20, isort c a (a + 20) xs, rfl, by omega, by rw [(isort_perm c a (a + 20) xs).length_eq, hxl], by rw [← hst]; conv => rhs; rw [st1, if_pos hc]
      , rfl, rfl⟩
    simp only [le, ↓reduceIte, Nat.reduceEqDiff, and_true]; repeat' (first | exact trivial | exact D.le_refl _ | exact D.le_any _ | with_reducible refine And.intro ?_ ?_)
  simp at hc
  (refine W0 t3 ?_; try with_reducible intro K hK)
  refine spec_insertionCho r hr hcl c f caps xs b ver len a len hxl (by omega) (Nat.le_refl _) hl (by omega) _ (hset xs) (hfo _) _ (hK _ _ ?_)
  clear hK K; simp only [lp]
  rw [List.set_set]
  obtain ⟨zs, hzs⟩ : ∃ zs, zs = isort c a len xs := ⟨_, rfl⟩
  rw [← hzs]
  rw [st1, if_neg (by omega)] at hst
  have hzl : zs.length = len := by rw [hzs, (isort_perm c a len xs).length_eq, hxl]
  have hstab : stab c l = st2 c len 20 zs := by rw [stab, hlen, ← hst, hzs]
  rw [hstab] at hK
  (refine W0 t3 ?_; try with_reducible intro K hK)
  refine sat_loop_ent (fun z ts H => ∃ (s : Nat) (xs : List α), z = len - s ∧ 20 ≤ s ∧ s ≤ 2000000 ∧ xs.length = len ∧ st2 c len s xs = st2 c len 20 zs ∧
    ts = fr 63 [(6, .v (.int .i64 s)), (2, .fn f caps), (1, .v (.int .i64 len)), (0, .own b ver len)] ∧ H = E.H0.set b (.arr ver 3 (xs.map r) 0)) (len - 20) (ts0 := fr 63 [(6, .v (.int .i64 (20 : Nat))), (2, .fn f caps), (1, .v (.int .i64 len)), (0, .own b ver len)]) (H0 := E.H0.set b (.arr ver 3 (zs.map r) 0)) (.weakFr ?_) ⟨20, zs, rfl, Nat.le_refl _, by omega, hzl, rfl, rfl, rfl⟩ ?_
  · simp only [le, ↓reduceIte, Nat.reduceEqDiff, and_true]; repeat' (first | exact trivial | exact D.le_refl _ | exact D.le_any _ | with_reducible refine And.intro ?_ ?_)
  rintro z ts H ⟨s, ys, rfl, hs20, hs2, hyl, hye, rfl, rfl⟩
  (refine W0 t3 ?_; try with_reducible intro K hK)
  refine sat_cond rfl (fun hd => ?_) (fun hd => ?_)
  · simp at hd
    have hw2 : IntKind.i64.wrap (2 * (s : Int)) = ((2 * s : Nat) : Int) := by rw [IntKind.wrap_i64]; omega
    have hw3 : IntKind.i64.wrap ((s : Int) * 2) = ((s * 2 : Nat) : Int) := by rw [IntKind.wrap_i64]; omega
    (refine W0 (c2 t3 @hw2) ?_; try with_reducible intro K hK)
    refine sat_loop_ent (fun z ts H => ∃ (a : Nat) (xs : List α), z = len - a ∧ a ≤ len ∧ xs.length = len ∧ st3 c len s a xs = st3 c len s 0 ys ∧
      ts = fr 63 [(8, .v (.int .i64 (a + 2 * s : Nat))), (7, .v (.int .i64 a)), (6, .v (.int .i64 s)), (2, .fn f caps), (1, .v (.int .i64 len)), (0, .own b ver len)] ∧ H = E.H0.set b (.arr ver 3 (xs.map r) 0)) len (ts0 := fr 63 [(8, .v (.int .i64 (2 * s : Nat))), (7, .v (.int .i64 (0 : Nat))), (6, .v (.int .i64 s)), (2, .fn f caps), (1, .v (.int .i64 len)), (0, .own b ver len)]) (H0 := E.H0.set b (.arr ver 3 (ys.map r) 0)) (.weakFr ?_) ⟨0, ys, rfl, Nat.zero_le _, hyl, rfl, by rw [Nat.zero_add], rfl⟩ ?_
    · simp only [le, ↓reduceIte, Nat.reduceEqDiff, and_true]; repeat' (first | exact trivial | exact D.le_refl _ | exact D.le_any _ | with_reducible refine And.intro ?_ ?_)
    rintro z ts H ⟨a, xs, rfl, hal, hxl, hs3, rfl, rfl⟩
    (refine W0 t3 ?_; try with_reducible intro K hK)
    refine sat_cond rfl (fun hc => ?_) (fun hc => ?_)
    · simp at hc
      have hwa := wrap_addN (i := a) (j := s) (by omega)
      have hwb := wrap_addN (i := a + 2 * s) (j := 2 * s) (by omega)
      (refine W0 (c2 t3 @hwa) ?_; try with_reducible intro K hK)
      refine spec_symMergeCho r hr hcl c f caps b ver len hl E.H0 hf (2 * s) a (a + s) (a + 2 * s) xs _ _ (by omega) (by omega) (by omega) (by omega) hxl (hset xs) (hoth _) (hK _ _ ?_)
      clear hK K; simp only [lp]
      rw [List.set_set]
      (refine W0 (c3 t3 @hw2 @hwb) ?_; try with_reducible intro K hK)
      refine ⟨len - (a + 2 * s), _, _, by omega, .weakFr ?_, a + 2 * s, symF c (2 * s) a (a + s) (a + 2 * s) xs, rfl, by omega, by rw [(symF_perm c (2 * s) a (a + s) (a + 2 * s) xs).length_eq, hxl], by rw [← hs3]; conv => rhs; rw [st3, dif_pos ⟨hc, by omega⟩]
        , rfl, rfl⟩
      simp only [le, ↓reduceIte, Nat.reduceEqDiff, and_true]; repeat' (first | exact trivial | exact D.le_refl _ | exact D.le_any _ | with_reducible refine And.intro ?_ ?_)
    simp at hc
    rw [st3, dif_neg (by omega)] at hs3
    have hwa := wrap_addN (i := a) (j := s) (by omega)
    (refine W0 (c2 t3 @hwa) ?_; try with_reducible intro K hK)
    refine sat_thruF (ι := List α) (fun ws => ws.length = len ∧ ws = st4 c len s (a, xs)) (fun _ => fr 63 [(6, .v (.int .i64 s)), (2, .fn f caps), (1, .v (.int .i64 len)), (0, .own b ver len)]) (fun xs => E.H0.set b (.arr ver 3 (xs.map r) 0)) ?_ ?_
    · refine sat_cond rfl (fun he => ?_) (fun he => ?_)
      · simp at he
        (refine W0 t3 ?_; try with_reducible intro K hK)
        refine spec_symMergeCho r hr hcl c f caps b ver len hl E.H0 hf (len - a) a (a + s) len xs _ _ (Nat.le_refl _) (by omega) (by omega) (Nat.le_refl _) hxl (hset xs) (hoth _) (hK _ _ ?_)
        clear hK K; simp only [lp]
        rw [List.set_set]
        (refine W0 trivial ?_; try with_reducible intro K hK)
        refine ⟨symF c (len - a) a (a + s) len xs, ⟨by rw [(symF_perm c (len - a) a (a + s) len xs).length_eq, hxl], by rw [st4, if_pos he]⟩, .weakFr ?_⟩
        simp only [le, ↓reduceIte, Nat.reduceEqDiff, and_true]; repeat' (first | exact trivial | exact D.le_refl _ | exact D.le_any _ | with_reducible refine And.intro ?_ ?_)
      · (refine W0 trivial ?_; try with_reducible intro K hK)
        refine ⟨xs, ⟨hxl, by rw [st4, if_neg (by simpa using he)]⟩, .weakFr ?_⟩
        simp only [le, ↓reduceIte, Nat.reduceEqDiff, and_true]; repeat' (first | exact trivial | exact D.le_refl _ | exact D.le_any _ | with_reducible refine And.intro ?_ ?_)
    rintro ws ⟨hwl, hws⟩
    (refine W0 (c2 t3 @hw3) ?_; try with_reducible intro K hK)
    refine ⟨len - s * 2, _, _, by omega, .weakFr ?_, s * 2, ws, rfl, by omega, by omega, hwl, by rw [← hye, hws, hs3]; conv => rhs; rw [st2, dif_pos ⟨hd, by omega⟩]
      , rfl, rfl⟩
    simp only [le, ↓reduceIte, Nat.reduceEqDiff, and_true]; repeat' (first | exact trivial | exact D.le_refl _ | exact D.le_any _ | with_reducible refine And.intro ?_ ?_)
  · simp at hd
    (refine W0 trivial ?_; try with_reducible intro K hK)
    rw [st2, dif_neg (by omega)] at hye
    rw [← hye] at hK
    exact Fin.here hK
end Go.Ag
namespace Go.Ag
open Go Go.Proofs
variable {G : Nat → Option (List V)}
attribute [local irreducible] aops qops Sat aop

set_option maxHeartbeats 4000000 in
theorem spec_sortStableCho {α : Type} (r : α → List D) (hr : ∀ x, (r x).length = 3) (hcl : ∀ x, (r x).all D.cell = true) (c : α → α → Int) (f : FuncId) (caps : List D) (l : List α) (b ver : Nat) (hl : l.length ≤ 1000000) (H : List Ob) (hb : H[b]? = some (.arr ver 3 (l.map r) 0))
    (hf : ∀ x y (H' : List Ob) (K : D → List Ob → Prop), (∀ j, j ≠ b → H'[j]? = H[j]?) → K (.v (.int .i64 (c x y))) H' → ACalls Tryz.prog G f (.agg (r x) :: .agg (r y) :: caps) H' K)
    (K : D → List Ob → Prop) (hK : K (.tup []) (H.set b (.arr ver 3 ((stab c l).map r) 0))) : ACalls Tryz.prog G 105 [.own b ver l.length, .fn f caps] H K := by
  refine ACalls.go Tryz.f105 _ 9 [] Tryz.func105 rfl Tryz.ntmps105 (by kernel_rfl) rfl (by simp) (fun E hE hP hG hH => ?_)
  have hM : E.P.follows .mixedOrders = true := hP ▸ mixed
  subst hH
  simp only [args0]
  (refine W0 (c3 t3 t24 @hb) ?_; try with_reducible intro K hK)
  refine spec_stableCho r hr hcl c f caps l b ver l.length rfl hl _ hb hf _ (hK _ _ ?_)
  clear hK K; simp only [lp]
  (refine W0 trivial ?_; try with_reducible intro K hK)
  exact Fin.here hK
/-! ### nothing to sort -/
set_option maxHeartbeats 4000000 in
theorem spec_insNilCho (f : FuncId) (caps : List D) (H : List Ob) (K : D → List Ob → Prop) (hK : K (.tup []) H) : ACalls Tryz.prog G 151 [.nils, .v (.int .i64 0), .v (.int .i64 0), .fn f caps] H K := by
  refine ACalls.go Tryz.f151 _ 53 [] Tryz.func151 rfl Tryz.ntmps151 (by kernel_rfl) rfl (by simp) (fun E hE hP hG hH => ?_)
  have hM : E.P.follows .mixedOrders = true := hP ▸ mixed
  subst hH
  have hw : IntKind.i64.wrap (0 + 1) = 1 := by rw [IntKind.wrap_i64]; rfl
  simp only [args0]
  (refine W0 (c2 t3 @hw) ?_; try with_reducible intro K hK)
  refine sat_loop_ent (fun m ts H => m = 0 ∧ ts = fr 53 [(8, .v (.int .i64 1)), (2, .v (.int .i64 0))] ∧ H = E.H0) 0 (.weakFr ?_) ⟨rfl, rfl, rfl⟩ ?_
  · simp only [le, ↓reduceIte, Nat.reduceEqDiff, and_true]; repeat' (first | exact trivial | exact D.le_refl _ | exact D.le_any _ | with_reducible refine And.intro ?_ ?_)
  rintro m ts H ⟨rfl, rfl, rfl⟩
  (refine W0 t3 ?_; try with_reducible intro K hK)
  refine sat_cond rfl (fun hc => ?_) (fun hc => ?_)
  · simp at hc
  · (refine W0 trivial ?_; try with_reducible intro K hK)
    exact Fin.here hK
set_option maxHeartbeats 4000000 in
theorem spec_stableNilCho (f : FuncId) (caps : List D) (H : List Ob) (K : D → List Ob → Prop) (hK : K (.tup []) H) : ACalls Tryz.prog G 129 [.nils, .v (.int .i64 0), .fn f caps] H K := by
  refine ACalls.go Tryz.f129 _ 63 [] Tryz.func129 rfl Tryz.ntmps129 (by kernel_rfl) rfl (by simp) (fun E hE hP hG hH => ?_)
  have hM : E.P.follows .mixedOrders = true := hP ▸ mixed
  subst hH
  simp only [args0]
  (refine W0 t3 ?_; try with_reducible intro K hK)
  refine sat_loop_ent (fun m ts H => m = 0 ∧ ts = fr 63 [(8, .v (.int .i64 20)), (7, .v (.int .i64 0)), (6, .v (.int .i64 20)), (2, .fn f caps), (1, .v (.int .i64 0)), (0, .nils)] ∧ H = E.H0) 0 (.weakFr ?_) ⟨rfl, rfl, rfl⟩ ?_
  · simp only [le, ↓reduceIte, Nat.reduceEqDiff, and_true]; repeat' (first | exact trivial | exact D.le_refl _ | exact D.le_any _ | with_reducible refine And.intro ?_ ?_)
  rintro m ts H ⟨rfl, rfl, rfl⟩
  (refine W0 t3 ?_; try with_reducible intro K hK)
  refine sat_cond rfl (fun hc => ?_) (fun hc => ?_)
  · simp at hc
  (refine W0 t3 ?_; try with_reducible intro K hK)
  refine spec_insNilCho f caps _ _ (hK _ _ ?_)
  clear hK K; simp only [lp]
  (refine W0 t3 ?_; try with_reducible intro K hK)
  refine sat_loop_ent (fun m ts H => m = 0 ∧ ts = fr 63 [(6, .v (.int .i64 20)), (1, .v (.int .i64 0))] ∧ H = E.H0) 0 (.weakFr ?_) ⟨rfl, rfl, rfl⟩ ?_
  · simp only [le, ↓reduceIte, Nat.reduceEqDiff, and_true]; repeat' (first | exact trivial | exact D.le_refl _ | exact D.le_any _ | with_reducible refine And.intro ?_ ?_)
  rintro m ts H ⟨rfl, rfl, rfl⟩
  (refine W0 t3 ?_; try with_reducible intro K hK)
  refine sat_cond rfl (fun hc => ?_) (fun hc => ?_)
  · simp at hc
  · (refine W0 trivial ?_; try with_reducible intro K hK)
    exact Fin.here hK
set_option maxHeartbeats 4000000 in
theorem spec_sortNilCho (f : FuncId) (caps : List D) (H : List Ob) (K : D → List Ob → Prop) (hK : K (.tup []) H) : ACalls Tryz.prog G 105 [.nils, .fn f caps] H K := by
  refine ACalls.go Tryz.f105 _ 9 [] Tryz.func105 rfl Tryz.ntmps105 (by kernel_rfl) rfl (by simp) (fun E hE hP hG hH => ?_)
  have hM : E.P.follows .mixedOrders = true := hP ▸ mixed
  subst hH
  simp only [args0]
  (refine W0 (c2 t3 t24) ?_; try with_reducible intro K hK)
  refine spec_stableNilCho f caps _ _ (hK _ _ ?_)
  clear hK K; simp only [lp]
  (refine W0 trivial ?_; try with_reducible intro K hK)
  exact Fin.here hK
end Go.Ag
namespace Go.Ag
open Go Go.Proofs
variable {G : Nat → Option (List V)}
attribute [local irreducible] aops qops Sat aop

set_option maxHeartbeats 4000000 in
theorem spec_CloneCho {α : Type} (rv : α → List V) (hrv : ∀ x, (rv x).length = 3) (l : List α) (hl : l.length ≤ 1000000) (H : List Ob) (K : D → List Ob → Prop) (hK : ∀ d L, (l = [] ∧ L = [] ∧ d = .nils ∨ ∃ ver, 1 ≤ ver ∧ d = .own H.length ver l.length ∧ L = [.arr ver 3 ((l.map rv).map (·.map .v)) 0]) → K d (H ++ L)) : ACalls Tryz.prog G 67 [.v (.list 3 (l.map rv))] H K := by
  refine ACalls.go Tryz.f67 _ 8 [2] Tryz.func67 rfl Tryz.ntmps67 (by kernel_rfl) rfl (by simp) (fun E hE hP hG hH => ?_)
  have hM : E.P.follows .mixedOrders = true := hP ▸ mixed
  subst hH
  simp only [args0]
  (refine W0 (c3 t3 t24 t46) ?_; try with_reducible intro K hK)
  refine ⟨fun hne => hK _ _ ?_, fun he => ⟨hK _ _ ?_, hK _ _ ?_⟩⟩
  · clear hK K; simp only [lp]
    (refine W0 trivial ?_; try with_reducible intro K hK)
    refine sat_cond rfl (fun hb => ?_) (fun hb => ?_)
    · exact absurd hb (by decide)
    (refine W0 (c3 t3 t24 t46) ?_; try with_reducible intro K hK)
    refine Fin.is _ (by decide) rfl (hK _ _ (.inr ⟨2, by omega, rfl, rfl⟩))
  · clear hK K; simp only [lp]
    (refine W0 trivial ?_; try with_reducible intro K hK)
    refine sat_cond rfl (fun hb => ?_) (fun hb => ?_)
    · (refine W0 t24 ?_; try with_reducible intro K hK)
      refine Fin.is .nils (by decide) rfl ?_
      have := hK .nils [] (.inl ⟨by simpa using he, rfl, rfl⟩)
      rwa [List.append_nil] at this
    · exact absurd hb (by decide)
  · clear hK K; simp only [lp]
    (refine W0 trivial ?_; try with_reducible intro K hK)
    refine sat_cond rfl (fun hb => ?_) (fun hb => ?_)
    · exact absurd hb (by decide)
    (refine W0 (c3 t3 t24 t46) ?_; try with_reducible intro K hK)
    refine Fin.is _ (by decide) rfl (hK _ _ (.inr ⟨2, by omega, rfl, rfl⟩))
set_option maxHeartbeats 4000000 in
theorem spec_byCmpCho {α : Type} (r : α → List D) (hr : ∀ x, (r x).length = 3) (hcl : ∀ x, (r x).all D.cell = true) (txt : α → Str) (g : FuncId) (hg : ∀ x (H : List Ob) (K : D → List Ob → Prop), K (.v (.str (txt x))) H → ACalls Tryz.prog G g [.agg (r x)] H K)
    (x y : α) (bx : Nat) (H : List Ob) (hb : H[bx]? = some (.box [.fn g []])) (K : D → List Ob → Prop) (hK : K (.v (.int .i64 (Lib.compareBytes (txt x) (txt y)))) H) : ACalls Tryz.prog G 106 [.agg (r x), .agg (r y), .ptr bx 0] H K := by
  refine ACalls.go Tryz.f106 _ 13 [5] Tryz.func106 rfl Tryz.ntmps106 (by kernel_rfl) rfl (by simp) (fun E hE hP hG hH => ?_)
  have hM : E.P.follows .mixedOrders = true := hP ▸ mixed
  subst hH
  have hrt : ∀ x, (r x).take 3 = r x := fun x => List.take_of_length_le (by rw [hr]; exact Nat.le_refl _)
  simp only [args0]
  repeat (first | refine wa ?_ | refine wb rfl ?_ | refine wc rfl rfl hM ?_ | refine wd rfl hM ?_ | ((first | refine we rfl fun K hK => ?_ | refine wf rfl rfl fun K hK => ?_ | refine wg rfl rfl fun K hK => ?_ | refine wh rfl fun K hK => ?_); (simp only [lo, ld, ↓aop, ↓aCall, hP, hG, Nat.reduceLT, ↓reduceIte, Nat.reduceEqDiff, Nat.reduceAdd, Nat.reduceMul, Nat.reduceLeDiff, reduceCtorEq, D.cs, D.plain, fillD, chop, List.replicate, tk_3, ze_3, sz_3, tk_9, ze_9, sz_9, tk_24, ze_24, sz_24, tk_46, ze_46, sz_46, kn_46, tk_124, ze_124, sz_124, hcl, hr, hrt, List.drop_zero, hp_old hb]; repeat (with_reducible refine And.intro ?_ ?_; focus (first | decide | omega | (simp only [ln]; omega)))); try ((first | refine hK _ _ ?_ | refine hK _ ?_); clear hK K; simp only [lp])) | ((first | refine wi ?_ | refine wj ?_ | refine wk ?_ | refine wl ?_ | refine wm ?_ | refine wn ?_); simp only [lt, ↓reduceIte, Nat.reduceEqDiff]) | refine wo ?_)
  refine ⟨_, hg x _ _ ⟨rfl, rfl⟩, hK _ ?_⟩
  clear hK K; simp only [lp]
  repeat (first | refine wa ?_ | refine wb rfl ?_ | refine wc rfl rfl hM ?_ | refine wd rfl hM ?_ | ((first | refine we rfl fun K hK => ?_ | refine wf rfl rfl fun K hK => ?_ | refine wg rfl rfl fun K hK => ?_ | refine wh rfl fun K hK => ?_); (simp only [lo, ld, ↓aop, ↓aCall, hP, hG, Nat.reduceLT, ↓reduceIte, Nat.reduceEqDiff, Nat.reduceAdd, Nat.reduceMul, Nat.reduceLeDiff, reduceCtorEq, D.cs, D.plain, fillD, chop, List.replicate, tk_3, ze_3, sz_3, tk_9, ze_9, sz_9, tk_24, ze_24, sz_24, tk_46, ze_46, sz_46, kn_46, tk_124, ze_124, sz_124, hcl, hr, hrt, List.drop_zero, hp_old hb]; repeat (with_reducible refine And.intro ?_ ?_; focus (first | decide | omega | (simp only [ln]; omega)))); try ((first | refine hK _ _ ?_ | refine hK _ ?_); clear hK K; simp only [lp])) | ((first | refine wi ?_ | refine wj ?_ | refine wk ?_ | refine wl ?_ | refine wm ?_ | refine wn ?_); simp only [lt, ↓reduceIte, Nat.reduceEqDiff]) | refine wo ?_)
  refine ⟨_, hg y _ _ ⟨rfl, rfl⟩, hK _ ?_⟩
  clear hK K; simp only [lp]
  (refine W0 t3 ?_; try with_reducible intro K hK)
  refine ⟨_, spec_Compare (txt x) (txt y) _ _ ⟨rfl, rfl⟩, hK _ ?_⟩
  clear hK K; simp only [lp]
  (refine W0 t3 ?_; try with_reducible intro K hK)
  exact Fin.gc (.v (.int .i64 (Lib.compareBytes (txt x) (txt y)))) hE (by decide) rfl (by simp only [D.lt]) hK
set_option maxHeartbeats 8000000 in
theorem spec_byCho {α : Type} (rv : α → List V) (hrv : ∀ x, (rv x).length = 3) (txt : α → Str) (g : FuncId) (hg : ∀ x (H : List Ob) (K : D → List Ob → Prop), K (.v (.str (txt x))) H → ACalls Tryz.prog G g [.agg ((rv x).map .v)] H K)
    (l : List α) (hl : l.length ≤ 1000000) (H : List Ob) (K : D → List Ob → Prop) (hK : K (.v (.list 3 ((stab (fun x y => Lib.compareBytes (txt x) (txt y)) l).map rv))) H) : ACalls Tryz.prog G 88 [.v (.list 3 (l.map rv)), .fn g []] H K := by
  refine ACalls.go Tryz.f88 _ 12 [4] Tryz.func88 rfl Tryz.ntmps88 (by kernel_rfl) rfl (by simp) (fun E hE hP hG hH => ?_)
  have hM : E.P.follows .mixedOrders = true := hP ▸ mixed
  subst hH
  have hr : ∀ x, ((rv x).map D.v).length = 3 := fun x => by rw [List.length_map, hrv]
  have hcl : ∀ x, ((rv x).map D.v).all D.cell = true := fun x => by simp [D.cell]
  simp only [args0]
  (refine W0 (c5 t3 t9 t24 t46 t124) ?_; try with_reducible intro K hK)
  refine spec_CloneCho rv hrv l hl _ _ (fun d L hd => hK _ _ ?_)
  clear hK K; simp only [lp]
  rcases hd with ⟨rfl, rfl, rfl⟩ | ⟨ver, hv, rfl, rfl⟩
  · rw [List.append_nil]
    (refine W0 (c5 t3 t9 t24 t46 t124) ?_; try with_reducible intro K hK)
    refine spec_sortNilCho _ _ _ _ (hK _ _ ?_)
    clear hK K; simp only [lp]
    (refine W0 t3 ?_; try with_reducible intro K hK)
    have hK0 : K (.v (.list 3 [])) E.H0 := by
      have e : stab (fun x y => Lib.compareBytes (txt x) (txt y)) ([] : List α) = [] := by exact stab_few _ [] (show 0 < 20 by decide)
      rw [e] at hK; exact hK
    refine Fin.gcle (.v (.list 3 [])) hE (by decide) ?_ (by simp only [D.lt]) hK0
    exact D.le_nils 3
  · rw [List.append_assoc, List.cons_append, List.nil_append, List.length_append]
    (refine W0 (c5 t3 t9 t24 t46 t124) ?_; try with_reducible intro K hK)
    refine spec_sortStableCho (fun x => (rv x).map .v) hr hcl (fun x y => Lib.compareBytes (txt x) (txt y)) _ _ l (E.H0.length + 1) ver hl _ ?_ ?_ _ (hK _ _ ?_)
    · rw [hp_get]; simp
    · intro x y H' K hj hk
      exact spec_byCmpCho (fun x => (rv x).map .v) hr hcl txt g hg x y E.H0.length H' (by rw [hj _ (by omega), hp_get0]; rfl) K hk
    clear hK K; simp only [lp]
    (refine W0 (c5 t3 t9 t24 t46 t124) ?_; try with_reducible intro K hK)
    have hpl := (stab_perm (fun x y => Lib.compareBytes (txt x) (txt y)) l).length_eq
    refine Fin.pub 1 ver 3 0 l.length ((stab (fun x y => Lib.compareBytes (txt x) (txt y)) l).map rv) hE (by decide) rfl (by simp) (Nat.zero_le _) (by rw [List.length_map, hpl]; exact Nat.le_refl _) ?_
    rw [List.take_of_length_le (by rw [List.length_map, hpl]; exact Nat.le_refl _)]
    exact hK
end Go.Ag
namespace Go.Ag
open Go Go.Proofs
variable {G : Nat → Option (List V)}
attribute [local irreducible] aops qops Sat aop

def slvV (s : Slv) : List V := [.str s.name, .str s.link]
def slvD (s : Slv) : D := .agg [.v (.str s.name), .v (.str s.link)]
structure Pr where
  s : Slv
  p : Str
def prV (x : Pr) : List V := [.str x.s.name, .str x.s.link, .str x.p]
def cV (c : Cho) : List V := [.str c.path, .int .i64 c.prio, strs c.slaves]
def slotA (l : List Slv) (p : Str) : Int := match l.findIdx? (fun s => s.name == p) with | some i => (i : Int) | none => -1
theorem D.le_agg {ds es : List D} (h : leL ds es) : D.le (.agg ds) (.agg es) := fun M μ v hv => by
  simp only [Rel] at hv ⊢
  obtain ⟨cs, e, hr⟩ := hv
  exact ⟨cs, e, h.rel hr⟩
/-- One result, a struct in a box of one's own, told by value. -/
theorem FinR.boxD {E : Env} {n : Nat} {l : List (Nat × D)} {L : List Ob} {ad : Tmp} {t : TypeId} {K : D → List Ob → Prop} {sz : Nat} (k : Nat) (ds : List D) (cs : List V) (hE : E.Closed) (hs : ad < n) (hd : look l ad = .ptr (E.H0.length + k) 0)
    (hL : L[k]? = some (.box ds)) (ht : (tk E.P t).row = some sz) (hc : ds.length = sz) (hle : leL ds (cs.map .v)) (h : K (.agg (cs.map .v)) E.H0) : FinR E (fr n l) (E.H0 ++ L) [.cell ad t] K := by
  unfold FinR
  simp only [retA]
  refine ⟨E.H0.length + k, 0, by rw [getD_fr hs, hd], ?_⟩
  have hg : (E.H0 ++ L)[E.H0.length + k]? = some (.box ds) := by rw [hp_get]; exact hL
  simp only [aLoad, ht, hg]
  refine ⟨by simp [hc], [.agg (cs.map .v)], E.H0, ?_, ?_⟩
  · have e : ((ds.drop 0).take sz) = ds := by rw [List.drop_zero, ← hc]; exact List.take_length
    rw [e]
    have hlt : ∀ cs : List V, D.ltL E.H0.length (cs.map .v) := ltL_v _
    have g := Ent.gcFr (n := 1) (l := [(0, D.agg (cs.map .v))]) [] L hE ⟨by simp only [D.lt]; exact hlt cs, trivial⟩ trivial
    rw [List.append_nil] at g
    exact (Ent.weak (ts := [D.agg ds]) (ts' := [D.agg (cs.map .v)]) ⟨D.le_agg hle, trivial⟩).trans g
  · exact h
set_option maxHeartbeats 4000000 in
theorem spec_IndexFuncS (l : List Slv) (f : FuncId) (caps : List D) (q : Slv → Bool) (hl : l.length ≤ 1099511627776) (H : List Ob)
    (hq : ∀ c ∈ l, ∀ (K : D → List Ob → Prop), K (.v (.bool (q c))) H → ACalls Tryz.prog G f (slvD c :: caps) H K)
    (K : D → List Ob → Prop) (hK : K (.v (.int .i64 (match l.findIdx? q with | some i => (i : Int) | none => -1))) H) : ACalls Tryz.prog G 69 [.v (slvs l), .fn f caps] H K := by
  refine ACalls.go Tryz.f69 _ 19 [4] Tryz.func69 rfl Tryz.ntmps69 (by kernel_rfl) rfl (by simp) (fun E hE hP hG hH => ?_)
  have hM : E.P.follows .mixedOrders = true := hP ▸ mixed
  subst hH
  simp only [args0]
  (refine W0 (c5 @slvs.eq_def t3 t9 t23 t37) ?_; try with_reducible intro K hK)
  refine sat_loop_ent (fun n ts H => ∃ (i : Nat), n = l.length - i ∧ i ≤ l.length ∧ (l.take i).any q = false ∧
    ts = fr 19 [(8, .v (.int .i64 i)), (7, .v (.int .i64 l.length)), (1, .fn f caps), (0, .v (slvs l))] ∧ H = E.H0) (l.length) (.weakFr ?_) ⟨0, rfl, Nat.zero_le _, rfl, rfl, rfl⟩ ?_
  · simp only [le, ↓reduceIte, Nat.reduceEqDiff, and_true]; repeat' (first | exact trivial | exact D.le_refl _ | exact D.le_any _ | with_reducible refine And.intro ?_ ?_)
  rintro n ts H ⟨i, rfl, hi, hall, rfl, rfl⟩
  (refine W0 (c5 @slvs.eq_def t3 t9 t23 t37) ?_; try with_reducible intro K hK)
  refine sat_cond rfl (fun hc => ?_) (fun hc => ?_)
  · simp at hc
    obtain ⟨x, hx⟩ : ∃ x, l[i]? = some x := ⟨_, List.getElem?_eq_getElem hc⟩
    have hw := wrap_succ (i := i) (by omega)
    (refine W0 (c7 @slvs.eq_def t3 t9 t23 t37 @hc @hx) ?_; try with_reducible intro K hK)
    refine hq x (List.mem_of_getElem? hx) _ (hK _ _ ?_)
    clear hK K; simp only [lp]
    (refine W0 trivial ?_; try with_reducible intro K hK)
    refine sat_cond rfl (fun hb => ?_) (fun hb => ?_)
    · (refine W0 trivial ?_; try with_reducible intro K hK)
      refine Fin.is (.v (.int .i64 i)) (by decide) rfl ?_
      rwa [findIdx_hit hx hb hall] at hK
    · (refine W0 @hw ?_; try with_reducible intro K hK)
      refine ⟨l.length - (i + 1), _, _, by omega, .weakFr ?_, i + 1, rfl, by omega, ?_, rfl, rfl⟩
      · simp only [le, ↓reduceIte, Nat.reduceEqDiff, and_true]; repeat' (first | exact trivial | exact D.le_refl _ | exact D.le_any _ | with_reducible refine And.intro ?_ ?_)
      · rw [take_snoc hx, List.any_append, hall]; simp [hb]
  · simp at hc
    have e : l.take i = l := List.take_of_length_le (by omega)
    rw [e] at hall
    (refine W0 trivial ?_; try with_reducible intro K hK)
    refine Fin.is (.v (.int .i64 (-1))) (by decide) rfl ?_
    rwa [findIdx_miss hall] at hK

set_option maxHeartbeats 4000000 in
theorem spec_slotIs (c : Slv) (p : Str) (b : Nat) (H : List Ob) (hb : H[b]? = some (.box [.v (.str p)])) (K : D → List Ob → Prop) (hK : K (.v (.bool (c.name == p))) H) : ACalls Tryz.prog G 70 [slvD c, .ptr b 0] H K := by
  refine ACalls.go Tryz.f70 _ 8 [3] Tryz.func70 rfl Tryz.ntmps70 (by kernel_rfl) rfl (by simp) (fun E hE hP hG hH => ?_)
  have hM : E.P.follows .mixedOrders = true := hP ▸ mixed
  subst hH
  simp only [args0, slvD]
  have hlt : b < E.H0.length := (List.getElem?_eq_some_iff.1 hb).1
  have hb2 : ∀ L, (E.H0 ++ L)[b]? = some (.box [.v (.str p)]) := fun L => by rw [List.getElem?_append_left hlt]; exact hb
  (refine W0 (c3 t9 t37 @hb2) ?_; try with_reducible intro K hK)
  exact Fin.gc (.v (.bool (c.name == p))) hE (by decide) rfl (by simp only [D.lt]) hK
set_option maxHeartbeats 4000000 in
theorem spec_slot (l : List Slv) (p : Str) (hl : l.length ≤ 1099511627776) (H : List Ob) (K : D → List Ob → Prop) (hK : K (.v (.int .i64 (slotA l p))) H) : ACalls Tryz.prog G 42 [.v (slvs l), .v (.str p)] H K := by
  refine ACalls.go Tryz.f42 _ 8 [4] Tryz.func42 rfl Tryz.ntmps42 (by kernel_rfl) rfl (by simp) (fun E hE hP hG hH => ?_)
  have hM : E.P.follows .mixedOrders = true := hP ▸ mixed
  subst hH
  simp only [args0]
  (refine W0 (c3 t9 t37 t23) ?_; try with_reducible intro K hK)
  refine spec_IndexFuncS l 70 _ (fun c => c.name == p) hl _ (fun c hc K hK => spec_slotIs c p _ _ (by rw [hp_get0]; rfl) K hK) _ (hK _ _ ?_)
  clear hK K; simp only [lp]
  (refine W0 trivial ?_; try with_reducible intro K hK)
  exact Fin.gc (.v (.int .i64 (slotA l p))) hE (by decide) rfl (by simp only [D.lt]) hK
/-! ### texts to sort by -/
set_option maxHeartbeats 4000000 in
theorem spec_prTxt (x : Pr) (H : List Ob) (K : D → List Ob → Prop) (hK : K (.v (.str x.s.name)) H) : ACalls Tryz.prog G 83 [.agg ((prV x).map .v)] H K := by
  refine ACalls.go Tryz.f83 _ 6 [2] Tryz.func83 rfl Tryz.ntmps83 (by kernel_rfl) rfl (by simp) (fun E hE hP hG hH => ?_)
  have hM : E.P.follows .mixedOrders = true := hP ▸ mixed
  subst hH
  simp only [args0, prV, List.map_cons, List.map_nil]
  (refine W0 (c3 t9 t37 t116) ?_; try with_reducible intro K hK)
  exact Fin.gc (.v (.str x.s.name)) hE (by decide) rfl (by simp only [D.lt]) hK
set_option maxHeartbeats 4000000 in
theorem spec_slvTxt (x : Slv) (H : List Ob) (K : D → List Ob → Prop) (hK : K (.v (.str x.name)) H) : ACalls Tryz.prog G 86 [.agg ((slvV x).map .v)] H K := by
  refine ACalls.go Tryz.f86 _ 5 [2] Tryz.func86 rfl Tryz.ntmps86 (by kernel_rfl) rfl (by simp) (fun E hE hP hG hH => ?_)
  have hM : E.P.follows .mixedOrders = true := hP ▸ mixed
  subst hH
  simp only [args0, slvV, List.map_cons, List.map_nil]
  (refine W0 (c2 t9 t37) ?_; try with_reducible intro K hK)
  exact Fin.gc (.v (.str x.name)) hE (by decide) rfl (by simp only [D.lt]) hK
set_option maxHeartbeats 4000000 in
theorem spec_choTxt (x : Cho) (H : List Ob) (K : D → List Ob → Prop) (hK : K (.v (.str x.path)) H) : ACalls Tryz.prog G 89 [.agg ((cV x).map .v)] H K := by
  refine ACalls.go Tryz.f89 _ 5 [2] Tryz.func89 rfl Tryz.ntmps89 (by kernel_rfl) rfl (by simp) (fun E hE hP hG hH => ?_)
  have hM : E.P.follows .mixedOrders = true := hP ▸ mixed
  subst hH
  simp only [args0, cV, List.map_cons, List.map_nil]
  (refine W0 (c2 t9 t46) ?_; try with_reducible intro K hK)
  exact Fin.gc (.v (.str x.path)) hE (by decide) rfl (by simp only [D.lt]) hK
set_option maxHeartbeats 4000000 in
theorem spec_choice (p : Str) (n : Int) (H : List Ob) (K : D → List Ob → Prop) (hK : K (choD ⟨p, n, []⟩) H) : ACalls Tryz.prog G 39 [.v (.str p), .v (.int .i64 n)] H K := by
  refine ACalls.goR Tryz.f39 _ 8 [.cell 4 46] Tryz.func39 rfl Tryz.ntmps39 (by kernel_rfl) rfl (by simp) (fun E hE hP hG hH => ?_)
  have hM : E.P.follows .mixedOrders = true := hP ▸ mixed
  subst hH
  simp only [args0]
  (refine W0 (c3 t9 t3 t46) ?_; try with_reducible intro K hK)
  exact FinR.boxD 0 _ (cV ⟨p, n, []⟩) hE (by decide) rfl rfl (by rw [hP, tk_46]; rfl) rfl ⟨D.le_refl _, D.le_refl _, D.le_nils 1, trivial⟩ hK
end Go.Ag
namespace Go.Ag
open Go Go.Proofs
variable {G : Nat → Option (List V)}
attribute [local irreducible] aops qops Sat aop

theorem idx_lt {α : Type} {l : List α} {q : α → Bool} {i : Nat} (h : l.findIdx? q = some i) : i < l.length := by
  rw [List.findIdx?_eq_some_iff_getElem] at h
  exact h.1
def targA (x : Alt) (p : Str) : Str := if (p == x.name) = true then x.cur else match x.slaves.findIdx? (fun s => s.name == p), x.choices.findIdx? (fun c => c.path == x.cur) with
  | some i, some k => ((x.choices[k]?.map (·.slaves)).getD []).getD i []
  | _, _ => []
set_option maxRecDepth 20000 in
set_option maxHeartbeats 8000000 in
theorem spec_Target (x : Alt) (p : Str) (hs : x.slaves.length ≤ 1099511627) (hc : x.choices.length ≤ 1099511627) (H : List Ob) (K : D → List Ob → Prop) (hK : K (.v (.str (targA x p))) H) : ACalls Tryz.prog G 19 [altd x, .v (.str p)] H K := by
  refine ACalls.go Tryz.f19 _ 47 [4] Tryz.func19 rfl Tryz.ntmps19 (by kernel_rfl) rfl (by simp) (fun E hE hP hG hH => ?_)
  have hM : E.P.follows .mixedOrders = true := hP ▸ mixed
  subst hH
  have e0 : altd x = .agg ((altV x).map .v) := rfl
  simp only [args0, e0]
  (refine W0 (c4 @altV.eq_def t9 t3 t26) ?_; try with_reducible intro K hK)
  refine sat_cond rfl (fun hd => ?_) (fun hd => ?_)
  · (refine W0 (c4 @altV.eq_def t9 t3 t26) ?_; try with_reducible intro K hK)
    refine Fin.gc (.v (.str x.cur)) hE (by decide) rfl (by simp only [D.lt]) ?_
    rwa [targA, if_pos hd] at hK
  (refine W0 (c5 @altV.eq_def t9 t3 t26 t23) ?_; try with_reducible intro K hK)
  refine ⟨_, spec_slot x.slaves p (by omega) _ _ ⟨rfl, rfl⟩, hK _ ?_⟩
  clear hK K; simp only [lp]
  (refine W0 (c5 @altV.eq_def t9 t3 t26 t23) ?_; try with_reducible intro K hK)
  refine ⟨_, spec_Choice x x.cur (by omega) _ _ ⟨rfl, rfl⟩, hK _ ?_⟩
  clear hK K; simp only [lp]
  (refine W0 (c2 t9 t3) ?_; try with_reducible intro K hK)
  have hbad : targA x p = [] → ∀ ts : List (Nat × D), look ts 4 = .v (.str []) → Fin E (fr 47 ts) (E.H0 ++ [.box [.v (.str x.name), .v (.str x.link), .v (.bool x.manual), .v (.str x.cur), .v (slvs x.slaves), .v (chos x.choices)]]) [4] K := fun h ts ht => by
    refine Fin.gc (.v (.str [])) hE (by decide) ht (by simp only [D.lt]) ?_
    rwa [h] at hK
  cases hi : x.slaves.findIdx? (fun s => s.name == p) with
  | none =>
    have e : slotA x.slaves p = -1 := by simp [slotA, hi]
    have ht : targA x p = [] := by rw [targA, if_neg (by rw [hd]; decide), hi]
    rw [e]
    (first | refine wr ?_ | refine wp rfl hM ?_ | refine wq hM ?_); repeat' (first | (refine G0 (c3 t9 t3 (show decide ((-1 : Int) < 0) = true from rfl)) ?_; try with_reducible intro K hK) | ((first | refine Xs rfl rfl (by decide) rfl (fun h => ?_) fun h => ?_ | refine Ys rfl rfl (by decide) rfl (fun h => ?_) fun h => ?_ | refine Zs rfl rfl rfl (by decide) rfl (fun h => ?_) fun h => ?_); rotate_left; (focus (simp only [Bool.not_true, Bool.not_false, lp])); rotate_left))
    refine sat_cond rfl (fun hb => ?_) (fun hb => ?_)
    · (refine W0 t9 ?_; try with_reducible intro K hK)
      exact hbad ht _ rfl
    · cases hb
  | some i =>
    have e : slotA x.slaves p = (i : Int) := by simp [slotA, hi]
    have hil := idx_lt hi
    rw [e]
    cases hk : x.choices.findIdx? (fun c => c.path == x.cur) with
    | none =>
      have e2 : choAt x.choices x.cur = -1 := by simp [choAt, hk]
      have ht : targA x p = [] := by rw [targA, if_neg (by rw [hd]; decide), hi, hk]
      rw [e2]
      (first | refine wr ?_ | refine wp rfl hM ?_ | refine wq hM ?_); repeat' (first | (refine G0 (c4 t9 t3 (show decide ((-1 : Int) < 0) = true from rfl) (show decide ((i : Int) < 0) = false from by simp)) ?_; try with_reducible intro K hK) | ((first | refine Xs rfl rfl (by decide) rfl (fun h => ?_) fun h => ?_ | refine Ys rfl rfl (by decide) rfl (fun h => ?_) fun h => ?_ | refine Zs rfl rfl rfl (by decide) rfl (fun h => ?_) fun h => ?_); rotate_left; (focus (simp only [Bool.not_true, Bool.not_false, lp])); rotate_left))
      refine sat_cond rfl (fun hb => ?_) (fun hb => ?_)
      · (refine W0 t9 ?_; try with_reducible intro K hK)
        exact hbad ht _ rfl
      · cases hb
    | some k =>
      have e2 : choAt x.choices x.cur = (k : Int) := by simp [choAt, hk]
      have hkl := idx_lt hk
      obtain ⟨ch, hch⟩ : ∃ ch, x.choices[k]? = some ch := ⟨_, List.getElem?_eq_getElem hkl⟩
      have ht : targA x p = ch.slaves.getD i [] := by rw [targA, if_neg (by rw [hd]; decide), hi, hk]; simp [hch]
      rw [e2]
      have f1 : decide ((i : Int) < 0) = false := by simp
      have f2 : decide ((k : Int) < 0) = false := by simp
      (first | refine wr ?_ | refine wp rfl hM ?_ | refine wq hM ?_); repeat' (first | (refine G0 (c12 @chos.eq_def @strs.eq_def t9 t3 t26 t24 t46 t44 @f1 @f2 @hkl @hch) ?_; try with_reducible intro K hK) | ((first | refine Xs rfl rfl (by decide) rfl (fun h => ?_) fun h => ?_ | refine Ys rfl rfl (by decide) rfl (fun h => ?_) fun h => ?_ | refine Zs rfl rfl rfl (by decide) rfl (fun h => ?_) fun h => ?_); rotate_left; (focus (simp only [Bool.not_true, Bool.not_false, lp])); rotate_left))
      refine sat_cond rfl (fun hb => ?_) (fun hb => ?_)
      · (refine W0 t9 ?_; try with_reducible intro K hK)
        refine hbad ?_ _ rfl
        simp at hb
        rw [ht, List.getD_eq_getElem?_getD, List.getElem?_eq_none (by omega)]; rfl
      · simp at hb
        obtain ⟨st, hst⟩ : ∃ st, ch.slaves[i]? = some st := ⟨_, List.getElem?_eq_getElem hb⟩
        (refine W0 (c12 @chos.eq_def @strs.eq_def t9 t3 t26 t24 t46 t44 @hkl @hch @hb @hst) ?_; try with_reducible intro K hK)
        refine Fin.gc (.v (.str st)) hE (by decide) rfl (by simp only [D.lt]) ?_
        rw [ht, List.getD_eq_getElem?_getD, hst] at hK
        exact hK
/-! ### the document's -/
set_option maxHeartbeats 4000000 in
theorem spec_rSlot (l : List Slv) (p : Str) (hl : l.length ≤ 1099511627776) (H : List Ob) (K : D → List Ob → Prop) (hK : K (.v (.int .i64 (slotA l p))) H) : ACalls Tryz.prog G 43 [.v (slvs l), .v (.str p)] H K := by
  refine ACalls.go Tryz.f43 _ 20 [4] Tryz.func43 rfl Tryz.ntmps43 (by kernel_rfl) rfl (by simp) (fun E hE hP hG hH => ?_)
  have hM : E.P.follows .mixedOrders = true := hP ▸ mixed
  subst hH
  simp only [args0]
  (refine W0 (c5 @slvs.eq_def t3 t9 t23 t37) ?_; try with_reducible intro K hK)
  refine sat_loop_ent (fun n ts H => ∃ (i : Nat), n = l.length - i ∧ i ≤ l.length ∧ (l.take i).any (fun s => s.name == p) = false ∧
    ts = fr 20 [(5, .v (.int .i64 i)), (1, .v (.str p)), (0, .v (slvs l))] ∧ H = E.H0) (l.length) (.weakFr ?_) ⟨0, rfl, Nat.zero_le _, rfl, rfl, rfl⟩ ?_
  · simp only [le, ↓reduceIte, Nat.reduceEqDiff, and_true]; repeat' (first | exact trivial | exact D.le_refl _ | exact D.le_any _ | with_reducible refine And.intro ?_ ?_)
  rintro n ts H ⟨i, rfl, hi, hall, rfl, rfl⟩
  (refine W0 (c5 @slvs.eq_def t3 t9 t23 t37) ?_; try with_reducible intro K hK)
  refine sat_cond rfl (fun hc => ?_) (fun hc => ?_)
  · simp at hc
    obtain ⟨x, hx⟩ : ∃ x, l[i]? = some x := ⟨_, List.getElem?_eq_getElem hc⟩
    have hw := wrap_succ (i := i) (by omega)
    (refine W0 (c7 @slvs.eq_def t3 t9 t23 t37 @hc @hx) ?_; try with_reducible intro K hK)
    refine sat_cond rfl (fun hb => ?_) (fun hb => ?_)
    · (refine W0 trivial ?_; try with_reducible intro K hK)
      refine Fin.is (.v (.int .i64 i)) (by decide) rfl ?_
      rwa [slotA, findIdx_hit hx hb hall] at hK
    · (refine W0 (c2 t3 @hw) ?_; try with_reducible intro K hK)
      refine ⟨l.length - (i + 1), _, _, by omega, .weakFr ?_, i + 1, rfl, by omega, ?_, rfl, rfl⟩
      · simp only [le, ↓reduceIte, Nat.reduceEqDiff, and_true]; repeat' (first | exact trivial | exact D.le_refl _ | exact D.le_any _ | with_reducible refine And.intro ?_ ?_)
      · rw [take_snoc hx, List.any_append, hall]; simp [hb]
  · simp at hc
    have e : l.take i = l := List.take_of_length_le (by omega)
    rw [e] at hall
    (refine W0 trivial ?_; try with_reducible intro K hK)
    refine Fin.is (.v (.int .i64 (-1))) (by decide) rfl ?_
    rwa [slotA, findIdx_miss hall] at hK
set_option maxRecDepth 20000 in
set_option maxHeartbeats 8000000 in
theorem spec_rTarget (x : Alt) (p : Str) (hs : x.slaves.length ≤ 1099511627) (hc : x.choices.length ≤ 1099511627) (H : List Ob) (K : D → List Ob → Prop) (hK : K (.v (.str (targA x p))) H) : ACalls Tryz.prog G 20 [altd x, .v (.str p)] H K := by
  refine ACalls.go Tryz.f20 _ 47 [4] Tryz.func20 rfl Tryz.ntmps20 (by kernel_rfl) rfl (by simp) (fun E hE hP hG hH => ?_)
  have hM : E.P.follows .mixedOrders = true := hP ▸ mixed
  subst hH
  have e0 : altd x = .agg ((altV x).map .v) := rfl
  simp only [args0, e0]
  (refine W0 (c4 @altV.eq_def t9 t3 t26) ?_; try with_reducible intro K hK)
  refine sat_cond rfl (fun hd => ?_) (fun hd => ?_)
  · (refine W0 (c4 @altV.eq_def t9 t3 t26) ?_; try with_reducible intro K hK)
    refine Fin.gc (.v (.str x.cur)) hE (by decide) rfl (by simp only [D.lt]) ?_
    rwa [targA, if_pos hd] at hK
  (refine W0 (c5 @altV.eq_def t9 t3 t26 t23) ?_; try with_reducible intro K hK)
  refine spec_rSlot x.slaves p (by omega) _ _ (hK _ _ ?_)
  clear hK K; simp only [lp]
  (refine W0 (c5 @altV.eq_def t9 t3 t26 t23) ?_; try with_reducible intro K hK)
  refine spec_rChoice x x.cur (by omega) _ _ (hK _ _ ?_)
  clear hK K; simp only [lp]
  (refine W0 (c2 t9 t3) ?_; try with_reducible intro K hK)
  have hbad : targA x p = [] → ∀ ts : List (Nat × D), look ts 4 = .v (.str []) → Fin E (fr 47 ts) (E.H0 ++ [.box [.v (.str x.name), .v (.str x.link), .v (.bool x.manual), .v (.str x.cur), .v (slvs x.slaves), .v (chos x.choices)]]) [4] K := fun h ts ht => by
    refine Fin.gc (.v (.str [])) hE (by decide) ht (by simp only [D.lt]) ?_
    rwa [h] at hK
  cases hi : x.slaves.findIdx? (fun s => s.name == p) with
  | none =>
    have e : slotA x.slaves p = -1 := by simp [slotA, hi]
    have ht : targA x p = [] := by rw [targA, if_neg (by rw [hd]; decide), hi]
    rw [e]
    (first | refine wr ?_ | refine wp rfl hM ?_ | refine wq hM ?_); repeat' (first | (refine G0 (c3 t9 t3 (show decide ((-1 : Int) ≥ 0) = false from rfl)) ?_; try with_reducible intro K hK) | ((first | refine Xs rfl rfl (by decide) rfl (fun h => ?_) fun h => ?_ | refine Ys rfl rfl (by decide) rfl (fun h => ?_) fun h => ?_ | refine Zs rfl rfl rfl (by decide) rfl (fun h => ?_) fun h => ?_); rotate_left; (focus (simp only [Bool.not_true, Bool.not_false, lp])); rotate_left))
    refine sat_cond rfl (fun hb => ?_) (fun hb => ?_)
    · cases hb
    · (refine W0 t9 ?_; try with_reducible intro K hK)
      exact hbad ht _ rfl
  | some i =>
    have e : slotA x.slaves p = (i : Int) := by simp [slotA, hi]
    have hil := idx_lt hi
    rw [e]
    cases hk : x.choices.findIdx? (fun c => c.path == x.cur) with
    | none =>
      have e2 : choAt x.choices x.cur = -1 := by simp [choAt, hk]
      have ht : targA x p = [] := by rw [targA, if_neg (by rw [hd]; decide), hi, hk]
      rw [e2]
      (first | refine wr ?_ | refine wp rfl hM ?_ | refine wq hM ?_); repeat' (first | (refine G0 (c4 t9 t3 (show decide ((-1 : Int) ≥ 0) = false from rfl) @decide_true) ?_; try with_reducible intro K hK) | ((first | refine Xs rfl rfl (by decide) rfl (fun h => ?_) fun h => ?_ | refine Ys rfl rfl (by decide) rfl (fun h => ?_) fun h => ?_ | refine Zs rfl rfl rfl (by decide) rfl (fun h => ?_) fun h => ?_); rotate_left; (focus (simp only [Bool.not_true, Bool.not_false, lp])); rotate_left))
      refine sat_cond rfl (fun hb => ?_) (fun hb => ?_)
      · cases hb
      · (refine W0 t9 ?_; try with_reducible intro K hK)
        exact hbad ht _ rfl
    | some k =>
      have e2 : choAt x.choices x.cur = (k : Int) := by simp [choAt, hk]
      have hkl := idx_lt hk
      obtain ⟨ch, hch⟩ : ∃ ch, x.choices[k]? = some ch := ⟨_, List.getElem?_eq_getElem hkl⟩
      have ht : targA x p = ch.slaves.getD i [] := by rw [targA, if_neg (by rw [hd]; decide), hi, hk]; simp [hch]
      rw [e2]
      (first | refine wr ?_ | refine wp rfl hM ?_ | refine wq hM ?_); repeat' (first | (refine G0 (c11 @chos.eq_def @strs.eq_def t9 t3 t26 t24 t46 t44 @decide_true @hkl @hch) ?_; try with_reducible intro K hK) | ((first | refine Xs rfl rfl (by decide) rfl (fun h => ?_) fun h => ?_ | refine Ys rfl rfl (by decide) rfl (fun h => ?_) fun h => ?_ | refine Zs rfl rfl rfl (by decide) rfl (fun h => ?_) fun h => ?_); rotate_left; (focus (simp only [Bool.not_true, Bool.not_false, lp])); rotate_left))
      refine sat_cond rfl (fun hb => ?_) (fun hb => ?_)
      · simp at hb
        obtain ⟨st, hst⟩ : ∃ st, ch.slaves[i]? = some st := ⟨_, List.getElem?_eq_getElem hb⟩
        (refine W0 (c12 @chos.eq_def @strs.eq_def t9 t3 t26 t24 t46 t44 @hkl @hch @hb @hst) ?_; try with_reducible intro K hK)
        refine Fin.gc (.v (.str st)) hE (by decide) rfl (by simp only [D.lt]) ?_
        rw [ht, List.getD_eq_getElem?_getD, hst] at hK
        exact hK
      · (refine W0 t9 ?_; try with_reducible intro K hK)
        refine hbad ?_ _ rfl
        simp at hb
        rw [ht, List.getD_eq_getElem?_getD, List.getElem?_eq_none (by omega)]; rfl
/-! ### the best is taken -/
def settA (x : Alt) : Alt := if x.manual then x else if best x.choices < 0 then x else { x with cur := ((x.choices[(best x.choices).toNat]?).map (·.path)).getD [] }
set_option maxRecDepth 20000 in
set_option maxHeartbeats 8000000 in
theorem spec_settled (x : Alt) (hc : x.choices.length ≤ 1099511627) (H : List Ob) (K : D → List Ob → Prop) (hK : K (altd (settA x)) H) : ACalls Tryz.prog G 65 [altd x] H K := by
  refine ACalls.goR Tryz.f65 _ 22 [.cell 2 26] Tryz.func65 rfl Tryz.ntmps65 (by kernel_rfl) rfl (by simp) (fun E hE hP hG hH => ?_)
  have hM : E.P.follows .mixedOrders = true := hP ▸ mixed
  subst hH
  have e0 : altd x = .agg ((altV x).map .v) := rfl
  simp only [args0, e0]
  (refine W0 (c6 @altV.eq_def t9 t3 t4 t26 t24) ?_; try with_reducible intro K hK)
  refine spec_Best x.choices (by omega) _ _ (hK _ _ ?_)
  clear hK K; simp only [lp]
  (refine W0 (c6 t9 t3 t4 t26 t24 t46) ?_; try with_reducible intro K hK)
  have hrow : (tk E.P 26).row = some 6 := by rw [hP, tk_26]; rfl
  by_cases hg : x.manual = true
  · have hs : settA x = x := by rw [settA, if_pos hg]
    have hgt : (!x.manual) = false := by rw [hg]; rfl
    (first | refine wr ?_ | refine wp rfl hM ?_ | refine wq hM ?_); repeat' (first | (refine G0 (c7 t9 t3 t4 t26 t24 t46 @hgt) ?_; try with_reducible intro K hK) | ((first | refine Xs rfl rfl (by decide) rfl (fun h => ?_) fun h => ?_ | refine Ys rfl rfl (by decide) rfl (fun h => ?_) fun h => ?_ | refine Zs rfl rfl rfl (by decide) rfl (fun h => ?_) fun h => ?_); rotate_left; (focus (simp only [Bool.not_true, Bool.not_false, lp])); rotate_left))
    refine sat_cond rfl (fun hb => ?_) (fun hb => ?_)
    · cases hb
    (refine W0 (c6 t9 t3 t4 t26 t24 t46) ?_; try with_reducible intro K hK)
    rw [hs] at hK
    exact FinR.box 1 (altV x) hE (by decide) rfl rfl hrow rfl hK
  have hgt : (!x.manual) = true := by simp [hg]
  rcases bestN_rng x.choices x.choices.length with ⟨h1, h2⟩ | ⟨k, h1, h2⟩
  · have hb0 : best x.choices = -1 := h1
    have hs : settA x = x := by rw [settA, if_neg hg, if_pos (by rw [hb0]; decide)]
    rw [hb0]
    (first | refine wr ?_ | refine wp rfl hM ?_ | refine wq hM ?_); repeat' (first | (refine G0 (c8 t9 t3 t4 t26 t24 t46 @hgt (show decide ((-1 : Int) ≥ 0) = false from rfl)) ?_; try with_reducible intro K hK) | ((first | refine Xs rfl rfl (by decide) rfl (fun h => ?_) fun h => ?_ | refine Ys rfl rfl (by decide) rfl (fun h => ?_) fun h => ?_ | refine Zs rfl rfl rfl (by decide) rfl (fun h => ?_) fun h => ?_); rotate_left; (focus (simp only [Bool.not_true, Bool.not_false, lp])); rotate_left))
    refine sat_cond rfl (fun hb => ?_) (fun hb => ?_)
    · cases hb
    (refine W0 (c6 t9 t3 t4 t26 t24 t46) ?_; try with_reducible intro K hK)
    rw [hs] at hK
    exact FinR.box 1 (altV x) hE (by decide) rfl rfl hrow rfl hK
  · have hb0 : best x.choices = (k : Int) := h1
    obtain ⟨ch, hch⟩ : ∃ ch, x.choices[k]? = some ch := ⟨_, List.getElem?_eq_getElem h2⟩
    have hs : settA x = { x with cur := ch.path } := by rw [settA, if_neg hg, if_neg (by rw [hb0]; omega), hb0, Int.toNat_natCast, hch]; rfl
    rw [hb0]
    (first | refine wr ?_ | refine wp rfl hM ?_ | refine wq hM ?_); repeat' (first | (refine G0 (c8 t9 t3 t4 t26 t24 t46 @hgt @decide_true) ?_; try with_reducible intro K hK) | ((first | refine Xs rfl rfl (by decide) rfl (fun h => ?_) fun h => ?_ | refine Ys rfl rfl (by decide) rfl (fun h => ?_) fun h => ?_ | refine Zs rfl rfl rfl (by decide) rfl (fun h => ?_) fun h => ?_); rotate_left; (focus (simp only [Bool.not_true, Bool.not_false, lp])); rotate_left))
    refine sat_cond rfl (fun hb => ?_) (fun hb => ?_)
    · (refine W0 (c9 @chos.eq_def t9 t3 t4 t26 t24 t46 @h2 @hch) ?_; try with_reducible intro K hK)
      rw [hs] at hK
      exact FinR.box 1 (altV { x with cur := ch.path }) hE (by decide) rfl rfl hrow rfl hK
    · cases hb
end Go.Ag
/- AGo, part 30: a function whose first result is a variable's content; arrays told by value where a box holds them. -/
namespace Go.Ag
open Go Go.RowKit

/-- What is asked behind the body, where the first result is loaded. -/
def KC (E : Env) (t : TypeId) (K : D → List Ob → Prop) : D → List Ob → Prop := fun d H => ∃ b e, d = .tup [.ptr b 0, e] ∧ aLoad E.P t (.ptr b 0) H fun d => ∃ d' e' H3, Ent E [d, e] H [d', e'] H3 ∧ K (.tup [d', e']) H3

theorem results_runC {P : Program} {w : World} {fn : Func} {x : Tmp} {t : TypeId} {s : Tmp} (hr : fn.results.toList = [.cell x t, .tmp s]) (a : Array Value) {ad : Addr} {v : Value} (ha : a.getD x undef = .pointer (some ad)) (hl : (Instr.loadAt t (.pointer (some ad))).run P w = .ok v w) :
    (results fn a).run P w = Result.ok (.tuple #[v, a.getD s undef]) w := by
  have hres : fn.results = #[.cell x t, .tmp s] := by apply Array.toList_inj.1; simpa using hr
  have hl2 : (loadVar t ad).run P w = .ok v w := by simpa [Instr.loadAt, Instr.sureAddr] using hl
  unfold results
  rw [hres, Array.mapM_eq_mapM_toList]
  have ha2 : a[x]?.getD undef = .pointer (some ad) := by simpa using ha
  simp [List.mapM_cons, Sem.run_bind, Sem.run_pure, ha2, asAddr, hl2, Result.andThen]

theorem ACalls.bodyC {P : Program} {G : Nat → Option (List V)} {f : FuncId} {args : List D} {H : List Ob} {K : D → List Ob → Prop} (fn : Func) (c : Code) (x : Tmp) (t : TypeId) (s : Tmp) (hf : P.funcs[f]? = some fn) (hb : fn.body = some c) (hc : callB P f = true) (hr : fn.results.toList = [.cell x t, .tmp s])
    (h : ∀ E : Env, E.P = P → E.G = G → E.H0 = H → E.Closed → Sat E c (args ++ List.replicate (fn.ntmps - args.length) (.tup [])) H fun e ts H' => (e = .normal ∨ e = .ret) ∧ ∃ ts' H'', Ent E ts H' ts' H'' ∧ KC E t K (retD [x, s] ts') H'') : ACalls P G f args H K := by
  refine ACalls.ofB hc ?_
  rintro ⟨P', G', w0, M0, μ0, H0⟩ e1 e2 M μ w vs h1 h2
  simp only at e1 e2
  subst e1; subst e2
  have hcl : Env.Closed ⟨P', G', w0, M, μ, H⟩ := ⟨h1.tot, h1.dom, fun i o p ho hp => (h1.obj i o p ho hp).olt h1.dom⟩
  have hR : R ⟨P', G', w0, M, μ, H⟩ M μ H w := ⟨h1.below, h1.imm, h1.glob, h1.dom, h1.obj, h1.sep, h1.tot⟩
  have hl := h2.length
  refine calls_of_wp hf hb (wp_mono (h ⟨P', G', w0, M, μ, H⟩ rfl rfl rfl hcl M μ w ⟨vs.toArray ++ Array.replicate (fn.ntmps - vs.toArray.size) undef, []⟩ (Mem.le.refl _) (Mu.le.refl _) hR ?_ rfl) ?_)
  · simp only [Array.toList_append, List.toList_toArray, Array.toList_replicate, List.size_toArray, hl]
    refine h2.append ?_
    generalize fn.ntmps - args.length = n
    induction n with
    | zero => simp [RelL]
    | succ n ih => rw [List.replicate_succ, List.replicate_succ, RelL.cons_iff]; exact ⟨by simp only [Rel, RelL]; exact ⟨[], rfl, rfl⟩, ih⟩
  · rintro e a' w' ⟨M', μ', ts', H', g1, g2, g3, g4, g5, g6, ts2, H2, g7, b, e0, hre, hld⟩
    obtain ⟨M2, μ2, k1, k2, k3, k4⟩ := g7 M' μ' w' _ g1 g2 g3 g4
    simp only [retD, List.map, D.tup.injEq, List.cons.injEq, and_true] at hre
    obtain ⟨hx, hs⟩ := hre
    have rx := getD_rel k4 x
    have rs := getD_rel k4 s
    rw [hx] at rx; rw [hs] at rs
    obtain ⟨v, d, q1, q2, d', e', H3, q3, q4⟩ := aLoad_sound k3 rx hld
    obtain ⟨M3, μ3, m1, m2, m3, m4⟩ := q3 M2 μ2 w' [v, a'.tmps.getD s undef] (k1) (k2) k3 (by simp only [RelL]; exact ⟨_, _, rfl, q2, _, _, rfl, rs, rfl⟩)
    have hptr : ∃ ad, a'.tmps.getD x undef = .pointer (some ad) := by
      simp only [Rel] at rx
      obtain ⟨p, _, _, e⟩ := rx
      exact ⟨_, e⟩
    obtain ⟨ad, hptr⟩ := hptr
    rw [hptr] at q1
    have hval : Rel M3 μ3 (.tup [d', e']) (.tuple #[v, a'.tmps.getD s undef]) := by
      simp only [Rel]
      exact ⟨_, rfl, m4⟩
    have hfin : ∃ v, (results fn a'.tmps).run P' w' = .ok v w' ∧ ∃ v_1 d M' μ' H', Ending.returned v = .returned v_1 ∧ M.le M' ∧ μ.le μ' ∧ R ⟨P', G', w0, M0, μ0, H0⟩ M' μ' H' w' ∧ Rel M' μ' d v_1 ∧ K d H' :=
      ⟨_, results_runC hr _ hptr q1, _, _, M3, μ3, H3, rfl, m1, m2, ⟨m3.below, m3.imm, m3.glob, m3.dom, m3.obj, m3.sep, m3.tot⟩, hval, q4⟩
    rcases g6 with rfl | rfl
    · exact ⟨g5, hfin⟩
    · exact ⟨g5, hfin⟩

theorem ACalls.goC {P : Program} {G : Nat → Option (List V)} {f : FuncId} {args : List D} {H : List Ob} {K : D → List Ob → Prop} (fn : Func) (c : Code) (n : Nat) (x : Tmp) (t : TypeId) (s : Tmp) (hf : P.funcs[f]? = some fn) (hb : fn.body = some c) (hn : fn.ntmps = n) (hc : callB P f = true) (hr : fn.results.toList = [.cell x t, .tmp s]) (hl : args.length ≤ n)
    (h : ∀ E : Env, E.Closed → E.P = P → E.G = G → E.H0 = H → Sat E c (fr n (args0 0 args)) H (Out E [x, s] (KC E t K))) : ACalls P G f args H K := by
  refine ACalls.bodyC fn c x t s hf hb hc hr ?_
  rintro E e1 e2 e3 hcl
  refine sat_ent (Ent.weak ?_) ((h E hcl e1 e2 e3).mono ?_)
  · rw [hn]
    have hlen : (args ++ List.replicate (n - args.length) (D.tup [])).length = n := by simp; omega
    have e : args ++ List.replicate (n - args.length) (D.tup []) = (List.range n).map fun i => (args ++ List.replicate (n - args.length) (D.tup [])).getD i (.tup []) := by
      apply List.ext_getElem?
      intro i
      rw [List.getElem?_map]
      by_cases hi : i < n
      · rw [List.getElem?_range hi, List.getElem?_eq_getElem (by omega)]
        simp only [Option.map_some, List.getD_eq_getElem?_getD]
        rw [List.getElem?_eq_getElem (by omega)]; rfl
      · rw [List.getElem?_eq_none (by omega), List.getElem?_eq_none (by simp; omega)]; rfl
    rw [e]
    refine leL_map _ _ _ fun i => ?_
    by_cases hi : i < args.length
    · have h1 := look_args args 0 i args[i] (List.getElem?_eq_getElem hi)
      rw [Nat.zero_add] at h1
      rw [h1, List.getD_eq_getElem?_getD, List.getElem?_append_left hi, List.getElem?_eq_getElem hi]
      exact D.le_refl _
    · have h1 := look_args_none args 0 i (by omega)
      rw [Nat.zero_add] at h1
      rw [h1]; exact D.le_any _
  · intro e ts H hq
    cases e with
    | normal => exact ⟨.inl rfl, hq⟩
    | ret => exact ⟨.inr rfl, hq⟩
    | exit i => exact hq.elim
    | _ => exact hq.elim

/-- Its end: the variable's box holds data alone; all that was made is forgotten. -/
theorem Fin.cell {E : Env} {n : Nat} {l : List (Nat × D)} {L : List Ob} {x : Tmp} {t : TypeId} {s : Tmp} {K : D → List Ob → Prop} (k : Nat) (cs : List V) (e : V) (hE : E.Closed) (hx : x < n) (hs : s < n) (hdx : look l x = .ptr (E.H0.length + k) 0) (hds : look l s = .v e)
    (hL : L[k]? = some (.box (cs.map .v))) (ht : (tk E.P t).row = some cs.length) (h : K (.tup [.agg (cs.map .v), .v e]) E.H0) : Fin E (fr n l) (E.H0 ++ L) [x, s] (KC E t K) := by
  refine Fin.here ⟨E.H0.length + k, .v e, ?_, ?_⟩
  · simp only [retD, List.map, getD_fr hx, getD_fr hs, hdx, hds]
  · unfold aLoad
    rw [ht]
    simp only [hp_get, hL]
    refine ⟨by simp, _, _, _, ?_, h⟩
    have e1 : ((cs.map D.v).drop 0).take cs.length = cs.map .v := by rw [List.drop_zero]; exact List.take_of_length_le (by simp)
    rw [e1]
    have := Ent.gc (E := E) (ts := [D.agg (cs.map .v), .v e]) (H := E.H0 ++ L) E.H0.length hE (Nat.le_refl _) (by simp only [D.ltL, D.lt, and_true]; exact ltL_v _ _) (fun i o hi ho => by
      rw [List.getElem?_append_left hi] at ho; exact .inl ho)
    rwa [List.take_left] at this

/-- Another telling of an object that is there. -/
theorem R.reOb {E : Env} {M : Mem} {μ : Mu} {H : List Ob} {w : World} (h : R E M μ H w) {k : Nat} {o o' : Ob} (hk : H[k]? = some o) (hl : o ≠ .dead) (ho : ∀ p, μ k = some p → ObRel E.w0.heap.size M μ w o p → ObRel E.w0.heap.size M μ w o' p) : R E M μ (H.set k o') w := by
  have hlt : k < H.length := (List.getElem?_eq_some_iff.1 hk).1
  have back : ∀ (j : Nat) (oj : Ob), (H.set k o')[j]? = some oj → oj ≠ .dead → ∃ oj', H[j]? = some oj' ∧ oj' ≠ .dead := fun j oj hj dj => by
    by_cases e : j = k
    · subst e; exact ⟨_, hk, hl⟩
    · rw [List.getElem?_set_ne (fun x => e x.symm)] at hj; exact ⟨oj, hj, dj⟩
  refine ⟨h.below, h.imm, h.glob, fun j q hq => by simpa using h.dom j q hq, fun j oj q hj hq => ?_, fun i j oi oj pi pj hij hi hj di dj hpi hpj => ?_, fun j hj => h.tot j (by simpa using hj)⟩
  · by_cases e : j = k
    · subst e
      rw [List.getElem?_set_self hlt] at hj; cases hj
      exact ho q hq (h.obj j o q hk hq)
    · rw [List.getElem?_set_ne (fun x => e x.symm)] at hj
      exact h.obj j oj q hj hq
  · obtain ⟨oi', hi', di'⟩ := back i oi hi di
    obtain ⟨oj', hj', dj'⟩ := back j oj hj dj
    exact h.sep i j oi' oj' pi pj hij hi' hj' di' dj' hpi hpj

/-- An array's rows are told, by value: in the slots, and in a box. -/
theorem Ent.pubBox {E : Env} {ts : List D} {H : List Ob} (b k : Nat) {ver sz esc : Nat} {cs : List D} (ys : List (List V)) (hb : H[b]? = some (.arr ver sz (ys.map (·.map .v)) esc)) (hk : H[k]? = some (.box cs)) (he : esc ≤ ys.length) :
    Ent E ts H (D.convL b ver sz ys ts) ((H.set b (.arr ver sz (ys.map (·.map .v)) ys.length)).set k (.box (D.convL b ver sz ys cs))) := by
  intro M μ w vs h1 h2 h3 h4
  obtain ⟨p, hp⟩ := h3.tot b (List.getElem?_eq_some_iff.1 hb).1
  obtain ⟨M', g1, g2, vs', g3, g4, g5⟩ := h3.publish hb hp (by simpa using he)
  have hver := (h3.obj b _ p hb hp).2.1
  rw [List.length_map] at g2 g4 g5
  have hbk : b ≠ k := fun e => by subst e; rw [hb] at hk; cases hk
  have hr := rows_of_pub g3 g4 g5
  refine ⟨M', μ, h1.trans g1, h2, g2.reOb (o := .box cs) (by rw [List.getElem?_set_ne hbk]; exact hk) (by simp) (fun q hq ho => ?_), RelL.conv hp hver hr (RelL.mono g1 (.refl _) h4)⟩
  obtain ⟨a1, a2, a3, ws, t, a4, a5⟩ := ho
  exact ⟨a1, a2, a3, ws, t, a4, RelL.conv hp hver hr a5⟩

/-- A box's content, told more weakly. -/
theorem Ent.weakBox {E : Env} {ts : List D} {H : List Ob} (k : Nat) {cs cs' : List D} (hk : H[k]? = some (.box cs)) (h : leL cs cs') : Ent E ts H ts (H.set k (.box cs')) := by
  intro M μ w vs h1 h2 h3 h4
  refine ⟨M, μ, h1, h2, h3.reOb hk (by simp) (fun q hq ho => ?_), h4⟩
  obtain ⟨a1, a2, a3, ws, t, a4, a5⟩ := ho
  exact ⟨a1, a2, a3, ws, t, a4, h.rel a5⟩
/-- A gathered slice in a box is told by value. -/
theorem Ent.pubIn {E : Env} {n : Nat} {l l' : List (Nat × D)} {H : List Ob} (b k : Nat) {ver sz esc : Nat} {cs cs' : List D} (ys : List (List V)) (hb : H[b]? = some (.arr ver sz (ys.map (·.map .v)) esc)) (hk : H[k]? = some (.box cs)) (he : esc ≤ ys.length) (h1 : leAll l l') (hc : convFr b ver sz ys l' = l') (hcs : leL (D.convL b ver sz ys cs) cs') :
    Ent E (fr n l) H (fr n l') ((H.set b (.arr ver sz (ys.map (·.map .v)) ys.length)).set k (.box cs')) := by
  have h := Ent.pubBox (E := E) (ts := fr n l') b k ys hb hk he
  have e : D.convL b ver sz ys (fr n l') = fr n (convFr b ver sz ys l') := by
    unfold fr
    rw [convL_map]
    apply List.map_congr_left
    intro i _
    exact (look_conv l' i).symm
  rw [e, hc] at h
  have hlt : k < (H.set b (.arr ver sz (ys.map (·.map .v)) ys.length)).length := by
    have := (List.getElem?_eq_some_iff.1 hk).1
    simpa using this
  have h2 := Ent.weakBox (E := E) (ts := fr n l') (H := (H.set b (.arr ver sz (ys.map (·.map .v)) ys.length)).set k (.box (D.convL b ver sz ys cs))) k (List.getElem?_set_self hlt) hcs
  rw [List.set_set] at h2
  exact (Ent.weakFr h1).trans (h.trans h2)
/-- An array's rows, told more weakly. -/
def leRows : List (List D) → List (List D) → Prop
  | [], [] => True
  | x :: xs, y :: ys => leL x y ∧ leRows xs ys
  | _, _ => False
theorem leL_len : ∀ {a b : List D}, leL a b → a.length = b.length
  | [], [], _ => rfl
  | x :: a, y :: b, h => by simp only [leL] at h; simp only [List.length_cons, leL_len h.2]
  | [], _ :: _, h => h.elim
  | _ :: _, [], h => h.elim
theorem leRows.get : ∀ {xs ys : List (List D)}, leRows xs ys → xs.length = ys.length ∧ ∀ (i : Nat) (y : List D), ys[i]? = some y → ∃ x : List D, xs[i]? = some x ∧ leL x y
  | [], [], _ => ⟨rfl, fun i y h => by simp at h⟩
  | x :: xs, y :: ys, h => by
    obtain ⟨h1, h2⟩ := h
    obtain ⟨g1, g2⟩ := h2.get
    refine ⟨by simp [g1], fun i z hz => ?_⟩
    cases i with
    | zero => simp at hz; subst hz; exact ⟨x, rfl, h1⟩
    | succ i => simp at hz; obtain ⟨a, b, c⟩ := g2 i z hz; exact ⟨a, by simpa using b, c⟩
  | [], _ :: _, h => h.elim
  | _ :: _, [], h => h.elim
theorem Ent.weakArr {E : Env} {ts : List D} {H : List Ob} (k : Nat) {ver sz esc : Nat} {xs xs' : List (List D)} (hk : H[k]? = some (.arr ver sz xs esc)) (h : leRows xs xs') : Ent E ts H ts (H.set k (.arr ver sz xs' esc)) := by
  intro M μ w vs h1 h2 h3 h4
  obtain ⟨g1, g2⟩ := h.get
  refine ⟨M, μ, h1, h2, h3.reOb hk (by simp) (fun q hq ho => ?_), h4⟩
  obtain ⟨a1, a2, a3, a4, a5, ws, t, a6, a7, a8⟩ := ho
  refine ⟨a1, a2, a3, a4, by omega, ws, t, a6, a7, fun i y hy => ?_⟩
  obtain ⟨x, hx, hl⟩ := g2 i y hy
  obtain ⟨b1, b2⟩ := a8 i x hx
  exact ⟨by rw [← leL_len hl]; exact b1, hl.rel b2⟩
/-- A call's arguments and heap, told otherwise. -/
theorem ACalls.ent {P : Program} {G : Nat → Option (List V)} {f : FuncId} {H H' : List Ob} {K : D → List Ob → Prop} {args args' : List D} (he : ∀ E : Env, Ent E args H args' H') (h : ACalls P G f args' H' K) : ACalls P G f args H K := by
  rintro ⟨P', G', w0, M0, μ0, H0⟩ e1 e2 M μ w vs hr hv
  have hR : R ⟨P', G', w0, M, μ, H⟩ M μ H w := ⟨hr.below, hr.imm, hr.glob, hr.dom, hr.obj, hr.sep, hr.tot⟩
  obtain ⟨M', μ', g1, g2, g3, g4⟩ := he ⟨P', G', w0, M, μ, H⟩ M μ w vs (.refl _) (.refl _) hR hv
  have hR2 : R ⟨P', G', w0, M0, μ0, H0⟩ M' μ' H' w := ⟨g3.below, g3.imm, g3.glob, g3.dom, g3.obj, g3.sep, g3.tot⟩
  refine (h ⟨P', G', w0, M0, μ0, H0⟩ e1 e2 M' μ' w vs hR2 g4).mono ?_
  rintro e w' ⟨v, d, M'', μ'', H'', a1, a2, a3, a4, a5, a6⟩
  exact ⟨v, d, M'', μ'', H'', a1, g1.trans a2, g2.trans a3, a4, a5, a6⟩
/-- An array's rows stay as they are from here on; one's own slots stay. -/
theorem Ent.pubK {E : Env} {ts : List D} {H : List Ob} (b : Nat) {ver sz esc : Nat} {xs : List (List D)} (hb : H[b]? = some (.arr ver sz xs esc)) (he : esc ≤ xs.length) : Ent E ts H ts (H.set b (.arr ver sz xs xs.length)) := by
  intro M μ w vs h1 h2 h3 h4
  obtain ⟨p, hp⟩ := h3.tot b (List.getElem?_eq_some_iff.1 hb).1
  obtain ⟨M', g1, g2, _⟩ := h3.publish hb hp he
  exact ⟨M', μ, h1.trans g1, h2, g2, RelL.mono g1 (.refl _) h4⟩
theorem set_same {H : List Ob} {b : Nat} {o : Ob} (h : H[b]? = some o) : H.set b o = H := by
  apply List.ext_getElem?
  intro i
  by_cases e : b = i
  · subst e; rw [List.getElem?_set_self (List.getElem?_eq_some_iff.1 h).1, h]
  · rw [List.getElem?_set_ne e]
/-- An array's last rows are told no more. -/
theorem Ent.truncArr {E : Env} {ts : List D} {H : List Ob} (k m : Nat) {ver sz esc : Nat} {xs : List (List D)} (hk : H[k]? = some (.arr ver sz xs esc)) : Ent E ts H ts (H.set k (.arr ver sz (xs.take m) esc)) := by
  intro M μ w vs h1 h2 h3 h4
  refine ⟨M, μ, h1, h2, h3.reOb hk (by simp) (fun q hq ho => ?_), h4⟩
  obtain ⟨a1, a2, a3, a4, a5, ws, t, a6, a7, a8⟩ := ho
  exact ⟨a1, a2, a3, a4, by simp; omega, ws, t, a6, a7, a8.take m⟩
/-- One result, an array that the caller has: told by value. -/
theorem Fin.pubAt {E : Env} {n : Nat} {l : List (Nat × D)} {H : List Ob} {s : Tmp} {K : D → List Ob → Prop} (b ver sz len : Nat) {xs : List (List D)} (ys : List (List V)) (hs : s < n) (hd : look l s = .own b ver len) (hb : H[b]? = some (.arr ver sz xs 0)) (hx : xs.take len = ys.map (·.map .v)) (hlen : ys.length = len)
    (h : ∀ H', H'.length = H.length → (∀ j, j ≠ b → H'[j]? = H[j]?) → K (.v (.list sz ys)) H') : Fin E (fr n l) H [s] K := by
  have hlt : b < H.length := (List.getElem?_eq_some_iff.1 hb).1
  have e1 := Ent.truncArr (E := E) (ts := fr n l) b len hb
  rw [hx] at e1
  refine Fin.of (ts' := fr n [(s, .v (.list sz ys))]) (H' := (H.set b (.arr ver sz (ys.map (·.map .v)) 0)).set b (.arr ver sz (ys.map (·.map .v)) ys.length)) (e1.trans ((Ent.weakFr (l' := [(s, .own b ver len)]) ⟨hd ▸ D.le_refl _, trivial⟩).trans ?_)) ?_
  · have h2 := Ent.pubFr (E := E) (n := n) (l := [(s, .own b ver len)]) (sz := sz) (ver := ver) (esc := 0) b ys (H := H.set b (.arr ver sz (ys.map (·.map .v)) 0)) (List.getElem?_set_self hlt) (Nat.zero_le _) rfl
    have e2 : convFr b ver sz ys [(s, .own b ver len)] = [(s, .v (.list sz ys))] := by
      have : ys.take len = ys := List.take_of_length_le (by omega)
      simp [convFr, D.conv, hlen, this]
    rw [e2] at h2
    exact h2
  · simp only [retD, getD_fr hs, look, ↓reduceIte, if_true]
    refine h _ (by simp) (fun j hj => ?_)
    rw [List.getElem?_set_ne (fun e => hj e.symm), List.getElem?_set_ne (fun e => hj e.symm)]
/-- One result; whatever was made or changed behind the caller's objects is forgotten. -/
theorem Fin.gcAny {E : Env} {n : Nat} {l : List (Nat × D)} {H : List Ob} {s : Tmp} {K : D → List Ob → Prop} (d : D) (hE : E.Closed) (hs : s < n) (hd : look l s = d) (hl : D.lt E.H0.length d) (hlen : E.H0.length ≤ H.length) (hH : ∀ i, i < E.H0.length → H[i]? = E.H0[i]?) (h : K d E.H0) : Fin E (fr n l) H [s] K := by
  subst hd
  have h2 := Ent.gc (E := E) (ts := fr n [(s, look l s)]) (H := H) E.H0.length hE (Nat.le_refl _) (ltL_fr (by simpa [ltAll] using hl)) (fun i o hi ho => by rw [hH i hi] at ho; exact .inl ho)
  have e : H.take E.H0.length = E.H0 := by
    apply List.ext_getElem?
    intro i
    rw [List.getElem?_take]
    split
    · rename_i hi; exact hH i hi
    · rename_i hi; rw [List.getElem?_eq_none (by omega)]
  rw [e] at h2
  refine Fin.of ((Ent.weakFr (l' := [(s, look l s)]) ⟨D.le_refl _, trivial⟩).trans h2) ?_
  simpa only [retD, getD_fr hs, look, ↓reduceIte, if_true] using h
end Go.Ag
namespace Go.Ag
open Go Go.Proofs
variable {G : Nat → Option (List V)}
attribute [local irreducible] aops qops Sat aop

def sprF (old : List Str) (fs : List Slv) (s : Slv) : Str := match fs.findIdx? (fun t => t.name == s.name) with
  | some i => old.getD i []
  | none => []
def sprA (c : Cho) (fs ts : List Slv) : Cho := { c with slaves := ts.map (sprF c.slaves fs) }
theorem spr_yes {c : Cho} {fs : List Slv} {s : Slv} (h : (decide (slotA fs s.name ≥ 0) && decide (slotA fs s.name < c.slaves.length)) = true) : ∃ k : Nat, slotA fs s.name = k ∧ k < c.slaves.length ∧ c.slaves[k]? = some (sprF c.slaves fs s) := by
  unfold slotA at h ⊢
  unfold sprF
  cases hi : fs.findIdx? (fun t => t.name == s.name) with
  | none => rw [hi] at h; simp at h
  | some k =>
    rw [hi] at h; simp at h
    exact ⟨k, rfl, h, by simp only [List.getD_eq_getElem?_getD, List.getElem?_eq_getElem h, Option.getD_some]⟩
theorem spr_no {c : Cho} {fs : List Slv} {s : Slv} (h : (decide (slotA fs s.name ≥ 0) && decide (slotA fs s.name < c.slaves.length)) = false) : sprF c.slaves fs s = [] := by
  unfold slotA at h
  unfold sprF
  cases hi : fs.findIdx? (fun t => t.name == s.name) with
  | none => rfl
  | some k =>
    rw [hi] at h; simp at h
    simp only [List.getD_eq_getElem?_getD, List.getElem?_eq_none h]; rfl
set_option maxRecDepth 20000 in
set_option maxHeartbeats 16000000 in
theorem spec_spread (c : Cho) (fs ts : List Slv) (ho : c.slaves.length ≤ 1099511627) (hf : fs.length ≤ 1099511627) (ht : ts.length ≤ 1000000) (H : List Ob) (K : D → List Ob → Prop) (hK : K (choD (sprA c fs ts)) H) : ACalls Tryz.prog G 87 [choD c, .v (slvs fs), .v (slvs ts)] H K := by
  refine ACalls.goR Tryz.f87 _ 45 [.cell 6 46] Tryz.func87 rfl Tryz.ntmps87 (by kernel_rfl) rfl (by simp) (fun E hE hP hG hH => ?_)
  have hM : E.P.follows .mixedOrders = true := hP ▸ mixed
  subst hH
  have hrow : (tk E.P 46).row = some 3 := by rw [hP, tk_46]; rfl
  have e0 : choD c = .agg ((cV c).map .v) := rfl
  simp only [args0, e0]
  (refine W0 (c8 @cV.eq_def t9 t3 t4 t37 t23 t46 t44) ?_; try with_reducible intro K hK)
  refine sat_loop_ent (fun n t H => ∃ (i : Nat), n = ts.length - i ∧ i ≤ ts.length ∧
    (t = fr 45 [(17, .v (.int .i64 i)), (16, .v (.int .i64 ts.length)), (15, .v (slvs ts)), (7, .v (strs c.slaves)), (6, .ptr (E.H0.length + 1) 0), (3, .ptr E.H0.length 0), (1, .v (slvs fs))]) ∧
    (i = 0 ∧ H = E.H0 ++ [.box [.v (.str c.path), .v (.int .i64 c.prio), .nils], .box [.v (.str []), .v (.int .i64 0), .nils]] ∨ ∃ (ver : Nat) (out : List Str), 1 ≤ ver ∧ out = (ts.take i).map (sprF c.slaves fs) ∧ H = E.H0 ++ [.box [.v (.str c.path), .v (.int .i64 c.prio), .own (E.H0.length + 4) ver out.length], .box [.v (.str []), .v (.int .i64 0), .nils], .dead, .dead, .arr ver 1 (out.map fun s => [.v (.str s)]) 0])) (ts.length) (.weakFr ?_) ⟨0, rfl, Nat.zero_le _, rfl, .inl ⟨rfl, rfl⟩⟩ ?_
  · simp only [List.length_map]; simp only [le, ↓reduceIte, Nat.reduceEqDiff, and_true]; repeat' (first | exact trivial | exact D.le_refl _ | exact D.le_any _ | with_reducible refine And.intro ?_ ?_)
  rintro n t H ⟨i, rfl, hi, rfl, hH⟩
  have hend : i = ts.length → (ts.take i).map (sprF c.slaves fs) = (sprA c fs ts).slaves := fun e => by rw [e, List.take_length]; rfl
  rcases hH with ⟨rfl, rfl⟩ | ⟨ver, out, hv, ho2, rfl⟩
  · (refine W0 (c8 @slvs.eq_def t9 t3 t4 t37 t23 t46 t44) ?_; try with_reducible intro K hK)
    refine sat_cond rfl (fun hb => ?_) (fun hb => ?_)
    · simp at hb
      obtain ⟨s, hs⟩ : ∃ s, ts[0]? = some s := ⟨_, List.getElem?_eq_getElem (by omega)⟩
      have hw := wrap_succ (i := 0) (by omega)
      have hil : 0 < ts.length := by omega
      have hw0 : IntKind.i64.wrap (0 + 1) = 1 := by rw [IntKind.wrap_i64]; rfl
      (refine W0 (c11 @slvs.eq_def t9 t3 t4 t37 t23 t46 t44 @hs @hil @hs) ?_; try with_reducible intro K hK)
      refine spec_slot fs s.name (by omega) _ _ (hK _ _ ?_)
      clear hK K; simp only [lp]
      (refine W0 (c7 t9 t3 t4 t37 t23 t46 t44) ?_; try with_reducible intro K hK)
      refine sat_thru (fr 45 [(32, .v (.bool (decide (slotA fs s.name ≥ 0) && decide (slotA fs s.name < c.slaves.length)))), (11, .v (.int .i64 (slotA fs s.name))), (10, .v (.str [])), (17, .v (.int .i64 ((0 : Nat) : Int))), (16, .v (.int .i64 ts.length)), (15, .v (slvs ts)), (7, .v (strs c.slaves)), (6, .ptr (E.H0.length + 1) 0), (3, .ptr E.H0.length 0), (1, .v (slvs fs))]) (E.H0 ++ [.box [.v (.str c.path), .v (.int .i64 c.prio), .nils], .box [.v (.str []), .v (.int .i64 0), .nils], .box [.v (.str s.name), .v (.str s.link)]]) ?_ ?_
      · (first | refine wr ?_ | refine wp rfl hM ?_ | refine wq hM ?_); repeat' (first | (refine G0 (c8 @strs.eq_def t9 t3 t4 t37 t23 t46 t44) ?_; try with_reducible intro K hK) | ((first | refine Xs rfl rfl (by decide) rfl (fun h => ?_) fun h => ?_ | refine Ys rfl rfl (by decide) rfl (fun h => ?_) fun h => ?_ | refine Zs rfl rfl rfl (by decide) rfl (fun h => ?_) fun h => ?_); rotate_left; (focus (simp only [Bool.not_true, Bool.not_false, lp])); rotate_left))
        all_goals refine .weakFr ?_
        all_goals simp only [le, ↓reduceIte, Nat.reduceEqDiff, and_true]; repeat' (first | exact trivial | exact D.le_refl _ | exact D.le_any _ | with_reducible refine And.intro ?_ ?_)
        all_goals refine D.le_eq (congrArg D.v (congrArg V.bool ?_)); (try simp only [Bool.not_eq_eq_eq_not, Bool.not_true, Bool.not_false] at *); simp only [*, List.getD_eq_getElem?_getD, Bool.and_true, Bool.true_and, Bool.and_false, Bool.false_and, Bool.or_true, Bool.true_or, Bool.or_false, Bool.false_or, Bool.not_true, Bool.not_false, Bool.not_not]
      refine sat_thru (fr 45 [(10, .v (.str (sprF c.slaves fs s))), (17, .v (.int .i64 ((0 : Nat) : Int))), (16, .v (.int .i64 ts.length)), (15, .v (slvs ts)), (7, .v (strs c.slaves)), (6, .ptr (E.H0.length + 1) 0), (3, .ptr E.H0.length 0), (1, .v (slvs fs))]) (E.H0 ++ [.box [.v (.str c.path), .v (.int .i64 c.prio), .nils], .box [.v (.str []), .v (.int .i64 0), .nils], .box [.v (.str s.name), .v (.str s.link)]]) ?_ ?_
      · refine sat_cond rfl (fun hd => ?_) (fun hd => ?_)
        · obtain ⟨k, hk, hkl, hks⟩ := spr_yes hd
          rw [hk]
          (refine W0 (c10 @strs.eq_def t9 t3 t4 t37 t23 t46 t44 @hkl @hks) ?_; try with_reducible intro K hK)
          refine .weakFr ?_
          simp only [le, ↓reduceIte, Nat.reduceEqDiff, and_true]; repeat' (first | exact trivial | exact D.le_refl _ | exact D.le_any _ | with_reducible refine And.intro ?_ ?_)
        · rw [spr_no hd]
          (refine W0 (c7 t9 t3 t4 t37 t23 t46 t44) ?_; try with_reducible intro K hK)
          refine .weakFr ?_
          simp only [le, ↓reduceIte, Nat.reduceEqDiff, and_true]; repeat' (first | exact trivial | exact D.le_refl _ | exact D.le_any _ | with_reducible refine And.intro ?_ ?_)
      (refine W0 (c9 t9 t3 t4 t37 t23 t46 t44 @hw @hw0) ?_; try with_reducible intro K hK)
      refine ⟨ts.length - 1, _, _, by omega, ?_, 1, rfl, by omega, rfl, .inr ⟨1, [sprF c.slaves fs s], Nat.le_refl _, by rw [take_snoc hs]; rfl, rfl⟩⟩
      refine Ent.trip hE ?_ ?_ ?_ ?_
      · simp only [le, ↓reduceIte, Nat.reduceEqDiff, and_true]; repeat' (first | exact trivial | exact D.le_refl _ | exact D.le_any _ | with_reducible refine And.intro ?_ ?_)
      · simp [leObs]
      · simp [ltAll, ltObs, Ob.lt, D.lt, D.ltL, or_imp, forall_and]
      · simp [ltAll, ltObs, Ob.lt, D.lt, D.ltL, or_imp, forall_and]
    · simp at hb
      have he := hend (by first | omega | (rw [hb]; rfl))
      (refine W0 (c7 t9 t3 t4 t37 t23 t46 t44) ?_; try with_reducible intro K hK)
      refine FinR.boxD 1 _ (cV (sprA c fs ts)) hE (by decide) rfl rfl hrow rfl ⟨D.le_refl _, D.le_refl _, ?_, trivial⟩ hK
      simp only [← he, strs]
      exact D.le_nils 1
  · have hol : out.length = i := by subst ho2; simp; omega
    (refine W0 (c8 @slvs.eq_def t9 t3 t4 t37 t23 t46 t44) ?_; try with_reducible intro K hK)
    refine sat_cond rfl (fun hb => ?_) (fun hb => ?_)
    · simp at hb
      obtain ⟨s, hs⟩ : ∃ s, ts[i]? = some s := ⟨_, List.getElem?_eq_getElem (by omega)⟩
      have hw := wrap_succ (i := i) (by omega)
      have hil : i < ts.length := by omega
      (refine W0 (c10 @slvs.eq_def t9 t3 t4 t37 t23 t46 t44 @hs @hil) ?_; try with_reducible intro K hK)
      refine spec_slot fs s.name (by omega) _ _ (hK _ _ ?_)
      clear hK K; simp only [lp]
      (refine W0 (c7 t9 t3 t4 t37 t23 t46 t44) ?_; try with_reducible intro K hK)
      refine sat_thru (fr 45 [(32, .v (.bool (decide (slotA fs s.name ≥ 0) && decide (slotA fs s.name < c.slaves.length)))), (11, .v (.int .i64 (slotA fs s.name))), (10, .v (.str [])), (17, .v (.int .i64 i)), (16, .v (.int .i64 ts.length)), (15, .v (slvs ts)), (7, .v (strs c.slaves)), (6, .ptr (E.H0.length + 1) 0), (3, .ptr E.H0.length 0), (1, .v (slvs fs))]) (E.H0 ++ [.box [.v (.str c.path), .v (.int .i64 c.prio), .own (E.H0.length + 4) ver out.length], .box [.v (.str []), .v (.int .i64 0), .nils], .dead, .dead, .arr ver 1 (out.map fun s => [.v (.str s)]) 0, .box [.v (.str s.name), .v (.str s.link)]]) ?_ ?_
      · (first | refine wr ?_ | refine wp rfl hM ?_ | refine wq hM ?_); repeat' (first | (refine G0 (c8 @strs.eq_def t9 t3 t4 t37 t23 t46 t44) ?_; try with_reducible intro K hK) | ((first | refine Xs rfl rfl (by decide) rfl (fun h => ?_) fun h => ?_ | refine Ys rfl rfl (by decide) rfl (fun h => ?_) fun h => ?_ | refine Zs rfl rfl rfl (by decide) rfl (fun h => ?_) fun h => ?_); rotate_left; (focus (simp only [Bool.not_true, Bool.not_false, lp])); rotate_left))
        all_goals refine .weakFr ?_
        all_goals simp only [le, ↓reduceIte, Nat.reduceEqDiff, and_true]; repeat' (first | exact trivial | exact D.le_refl _ | exact D.le_any _ | with_reducible refine And.intro ?_ ?_)
        all_goals refine D.le_eq (congrArg D.v (congrArg V.bool ?_)); (try simp only [Bool.not_eq_eq_eq_not, Bool.not_true, Bool.not_false] at *); simp only [*, List.getD_eq_getElem?_getD, Bool.and_true, Bool.true_and, Bool.and_false, Bool.false_and, Bool.or_true, Bool.true_or, Bool.or_false, Bool.false_or, Bool.not_true, Bool.not_false, Bool.not_not]
      refine sat_thru (fr 45 [(10, .v (.str (sprF c.slaves fs s))), (17, .v (.int .i64 i)), (16, .v (.int .i64 ts.length)), (15, .v (slvs ts)), (7, .v (strs c.slaves)), (6, .ptr (E.H0.length + 1) 0), (3, .ptr E.H0.length 0), (1, .v (slvs fs))]) (E.H0 ++ [.box [.v (.str c.path), .v (.int .i64 c.prio), .own (E.H0.length + 4) ver out.length], .box [.v (.str []), .v (.int .i64 0), .nils], .dead, .dead, .arr ver 1 (out.map fun s => [.v (.str s)]) 0, .box [.v (.str s.name), .v (.str s.link)]]) ?_ ?_
      · refine sat_cond rfl (fun hd => ?_) (fun hd => ?_)
        · obtain ⟨k, hk, hkl, hks⟩ := spr_yes hd
          rw [hk]
          (refine W0 (c10 @strs.eq_def t9 t3 t4 t37 t23 t46 t44 @hkl @hks) ?_; try with_reducible intro K hK)
          refine .weakFr ?_
          simp only [le, ↓reduceIte, Nat.reduceEqDiff, and_true]; repeat' (first | exact trivial | exact D.le_refl _ | exact D.le_any _ | with_reducible refine And.intro ?_ ?_)
        · rw [spr_no hd]
          (refine W0 (c7 t9 t3 t4 t37 t23 t46 t44) ?_; try with_reducible intro K hK)
          refine .weakFr ?_
          simp only [le, ↓reduceIte, Nat.reduceEqDiff, and_true]; repeat' (first | exact trivial | exact D.le_refl _ | exact D.le_any _ | with_reducible refine And.intro ?_ ?_)
      (refine W0 (c8 t9 t3 t4 t37 t23 t46 t44 @hw) ?_; try with_reducible intro K hK)
      refine ⟨ts.length - (i + 1), _, _, by omega, ?_, i + 1, rfl, by omega, rfl, .inr ⟨ver + 1, out ++ [sprF c.slaves fs s], by omega, by rw [ho2, take_snoc hs]; simp, rfl⟩⟩
      simp only [List.length_append, List.length_cons, List.length_nil]
      refine Ent.rnd hE ?_ ?_ ?_ ?_
      · simp only [le, ↓reduceIte, Nat.reduceEqDiff, and_true]; repeat' (first | exact trivial | exact D.le_refl _ | exact D.le_any _ | with_reducible refine And.intro ?_ ?_)
      · simp
      · simp [ltAll, ltObs, Ob.lt, D.lt, D.ltL, or_imp, forall_and]
      · simp [ltAll, ltObs, Ob.lt, D.lt, D.ltL, or_imp, forall_and]
    · simp at hb
      have hie : i = ts.length := by omega
      have he : out = (sprA c fs ts).slaves := by rw [ho2]; exact hend hie
      refine sat_ent (Ent.pubIn (E.H0.length + 4) E.H0.length (ver := ver) (sz := 1) (esc := 0) (cs' := [.v (.str c.path), .v (.int .i64 c.prio), .v (strs out)]) (l' := [(6, .ptr (E.H0.length + 1) 0), (3, .ptr E.H0.length 0)]) (out.map fun s => [.str s]) (by rw [hp_get]; simp) (by rw [hp_get0]; rfl) (Nat.zero_le _) ?_ rfl ?_) ?_
      · simp only [le, ↓reduceIte, Nat.reduceEqDiff, and_true]; repeat' (first | exact trivial | exact D.le_refl _ | exact D.le_any _ | with_reducible refine And.intro ?_ ?_)
      · simp only [D.convL, D.conv, strs, List.length_map, Nat.le_refl, and_self, if_true, take_len_map]; exact ⟨D.le_refl _, D.le_refl _, D.le_refl _, trivial⟩
      rw [hp_set, hp_set0]
      simp only [List.set_cons_succ, List.set_cons_zero]
      (refine W0 (c7 t9 t3 t4 t37 t23 t46 t44) ?_; try with_reducible intro K hK)
      refine FinR.box 1 (cV (sprA c fs ts)) hE (by decide) rfl ?_ hrow rfl hK
      rw [he]; rfl
end Go.Ag
namespace Go.Ag
open Go Go.Proofs
variable {G : Nat → Option (List V)}
attribute [local irreducible] aops qops Sat aop

/-- A loop's ways out are one of some frames. -/
theorem sat_blF {ι : Type} {E : Env} {x y : Code} {ts : List D} {H : List Ob} {Q : Exit → List D → List Ob → Prop} {id : Nat} (C : ι → Prop) (T : ι → List D) (Hf : ι → List Ob)
    (h1 : Sat E x ts H (Bl id (Th (fun ts' H' => ∃ i, C i ∧ Ent E ts' H' (T i) (Hf i)) Q))) (h2 : ∀ i, C i → Sat E y (T i) (Hf i) Q) : Sat E x ts H (Bl id (Th (fun ts H => Sat E y ts H Q) Q)) :=
  h1.mono fun e ts1 H1 h => by
    cases e with
    | normal => obtain ⟨i, hc, he⟩ := h; exact sat_ent he (h2 i hc)
    | exit id' =>
      simp only [Bl] at h ⊢
      split
      · rename_i e
        rw [if_pos e] at h
        obtain ⟨i, hc, he⟩ := h; exact sat_ent he (h2 i hc)
      · rename_i e
        rw [if_neg e] at h; exact h
    | _ => exact h
def prs (ss : List Slv) (ps : List Str) : List Pr := List.zipWith Pr.mk ss ps
theorem prs_get {ss : List Slv} {ps : List Str} {i : Nat} {s : Slv} {p : Str} (hs : ss[i]? = some s) (hp : ps[i]? = some p) : (prs ss ps)[i]? = some ⟨s, p⟩ := by
  simp [prs, List.getElem?_zipWith, hs, hp]
theorem prs_len {ss : List Slv} {ps : List Str} (h : ps.length = ss.length) : (prs ss ps).length = ss.length := by simp [prs, h]
def aloneA (nm lk : Str) (c : Cho) (qs : List Pr) : Alt := ⟨nm, lk, false, c.path, qs.map (·.s), [⟨c.path, c.prio, qs.map (·.p)⟩]⟩
def aloneF (nm lk : Str) (c : Cho) (ss : List Slv) : Alt := aloneA nm lk c (stab (fun x y : Pr => Lib.compareBytes x.s.name y.s.name) (prs ss c.slaves))
set_option maxRecDepth 20000 in
set_option maxHeartbeats 32000000 in
theorem spec_alone (nm lk : Str) (c : Cho) (ss : List Slv) (hn : c.slaves.length = ss.length) (hl : ss.length ≤ 1000000) (H : List Ob) (K : D → List Ob → Prop) (hK : K (altd (aloneF nm lk c ss)) H) : ACalls Tryz.prog G 63 [.v (.str nm), .v (.str lk), choD c, .v (slvs ss)] H K := by
  refine ACalls.goR Tryz.f63 _ 65 [.cell 8 26] Tryz.func63 rfl Tryz.ntmps63 (by kernel_rfl) rfl (by simp) (fun E hE hP hG hH => ?_)
  have hM : E.P.follows .mixedOrders = true := hP ▸ mixed
  subst hH
  have hrow : (tk E.P 26).row = some 6 := by rw [hP, tk_26]; rfl
  have e0 : choD c = .agg ((cV c).map .v) := rfl
  have hpl := prs_len hn
  simp only [args0, e0]
  (refine W0 (c12 @cV.eq_def t9 t3 t4 t37 t23 t46 t44 t116 t114 t26 t24) ?_; try with_reducible intro K hK)
  refine sat_blF (ι := Unit) (fun _ => True) (fun _ => fr 65 [(8, .ptr (E.H0.length + 1) 0), (6, .ptr E.H0.length 0), (1, .v (.str lk)), (0, .v (.str nm)), (9, .v (.list 3 ((prs ss c.slaves).map prV)))]) (fun _ => E.H0 ++ [.box [.v (.str c.path), .v (.int .i64 c.prio), .v (strs c.slaves)], .box [.v (.str []), .v (.str []), .v (.bool false), .v (.str []), .nils, .nils]]) ?_ ?_
  · refine sat_loop_ent (fun n t H => ∃ (i : Nat), n = ss.length - i ∧ i ≤ ss.length ∧
      (i = 0 ∧ t = fr 65 [(17, .v (.int .i64 (0 : Nat))), (9, .nils), (16, .v (.int .i64 ss.length)), (15, .v (slvs ss)), (8, .ptr (E.H0.length + 1) 0), (6, .ptr E.H0.length 0), (1, .v (.str lk)), (0, .v (.str nm))] ∧ H = E.H0 ++ [.box [.v (.str c.path), .v (.int .i64 c.prio), .v (strs c.slaves)], .box [.v (.str []), .v (.str []), .v (.bool false), .v (.str []), .nils, .nils]] ∨ ∃ (ver : Nat) (out : List Pr), 1 ≤ ver ∧ out = (prs ss c.slaves).take i ∧ t = fr 65 [(17, .v (.int .i64 i)), (9, .own (E.H0.length + 4) ver out.length), (16, .v (.int .i64 ss.length)), (15, .v (slvs ss)), (8, .ptr (E.H0.length + 1) 0), (6, .ptr E.H0.length 0), (1, .v (.str lk)), (0, .v (.str nm))] ∧ H = E.H0 ++ [.box [.v (.str c.path), .v (.int .i64 c.prio), .v (strs c.slaves)], .box [.v (.str []), .v (.str []), .v (.bool false), .v (.str []), .nils, .nils], .dead, .dead, .arr ver 3 (out.map fun x => [.v (.str x.s.name), .v (.str x.s.link), .v (.str x.p)]) 0])) (ss.length) (ts0 := fr 65 [(17, .v (.int .i64 (0 : Nat))), (9, .nils), (16, .v (.int .i64 ss.length)), (15, .v (slvs ss)), (8, .ptr (E.H0.length + 1) 0), (6, .ptr E.H0.length 0), (1, .v (.str lk)), (0, .v (.str nm))]) (H0 := E.H0 ++ [.box [.v (.str c.path), .v (.int .i64 c.prio), .v (strs c.slaves)], .box [.v (.str []), .v (.str []), .v (.bool false), .v (.str []), .nils, .nils]]) (.weakFr ?_) ⟨0, rfl, Nat.zero_le _, .inl ⟨rfl, rfl, rfl⟩⟩ ?_
    · simp only [List.length_map]; simp only [le, ↓reduceIte, Nat.reduceEqDiff, and_true]; repeat' (first | exact trivial | exact D.le_refl _ | exact D.le_any _ | with_reducible refine And.intro ?_ ?_)
    rintro n t H ⟨i, rfl, hi, hH⟩
    rcases hH with ⟨rfl, rfl, rfl⟩ | ⟨ver, out, hv, ho2, rfl, rfl⟩
    · (refine W0 (c12 @slvs.eq_def t9 t3 t4 t37 t23 t46 t44 t116 t114 t26 t24) ?_; try with_reducible intro K hK)
      refine sat_cond rfl (fun hb => ?_) (fun hb => ?_)
      · simp at hb
        have hil : 0 < ss.length := by omega
        obtain ⟨s, hs⟩ : ∃ s, ss[0]? = some s := ⟨_, List.getElem?_eq_getElem hil⟩
        have hil2 : 0 < c.slaves.length := by omega
        obtain ⟨p, hp⟩ : ∃ p, c.slaves[0]? = some p := ⟨_, List.getElem?_eq_getElem hil2⟩
        have hw0 : IntKind.i64.wrap (0 + 1) = 1 := by rw [IntKind.wrap_i64]; rfl
        (refine Q0 (c15 @slvs.eq_def @strs.eq_def t9 t3 t4 t37 t23 t46 t44 t116 t114 t26 t24 @hs @hil) ?_; try with_reducible intro K hK)
        refine sat_stay hM ?_
        (refine S0 (c15 @slvs.eq_def @strs.eq_def t9 t3 t4 t37 t23 t46 t44 t116 t114 t26 t24 @hp @hil2) ?_; try with_reducible intro K hK)
        (refine W0 (c12 t9 t3 t4 t37 t23 t46 t44 t116 t114 t26 t24 @hw0) ?_; try with_reducible intro K hK)
        refine ⟨ss.length - 1, _, _, by omega, ?_, 1, rfl, by omega, .inr ⟨1, [⟨s, p⟩], Nat.le_refl _, ?_, rfl, rfl⟩⟩
        · refine Ent.trip hE ?_ ?_ ?_ ?_
          · simp only [le, ↓reduceIte, Nat.reduceEqDiff, and_true]; repeat' (first | exact trivial | exact D.le_refl _ | exact D.le_any _ | with_reducible refine And.intro ?_ ?_)
          · simp [leObs, strs]
          · simp [ltAll, ltObs, Ob.lt, D.lt, D.ltL, or_imp, forall_and]
          · simp [ltAll, ltObs, Ob.lt, D.lt, D.ltL, or_imp, forall_and]
        · rw [take_snoc (prs_get hs hp)]; rfl
      · have he : ss = [] := by cases ss with
          | nil => rfl
          | cons a l => simp at hb
        (refine W0 (c11 t9 t3 t4 t37 t23 t46 t44 t116 t114 t26 t24) ?_; try with_reducible intro K hK)
        refine ⟨(), trivial, .weakFr ?_⟩
        rw [show prs ss c.slaves = [] by rw [he]; rfl]
        simp only [le, ↓reduceIte, Nat.reduceEqDiff, and_true]; repeat' (first | exact trivial | exact D.le_refl _ | exact D.le_any _ | with_reducible refine And.intro ?_ ?_)
        exact D.le_nils 3
    · have hol : out.length = i := by rw [ho2, List.length_take]; omega
      (refine W0 (c12 @slvs.eq_def t9 t3 t4 t37 t23 t46 t44 t116 t114 t26 t24) ?_; try with_reducible intro K hK)
      refine sat_cond rfl (fun hb => ?_) (fun hb => ?_)
      · simp at hb
        obtain ⟨s, hs⟩ : ∃ s, ss[i]? = some s := ⟨_, List.getElem?_eq_getElem hb⟩
        have hil2 : i < c.slaves.length := by omega
        obtain ⟨p, hp⟩ : ∃ p, c.slaves[i]? = some p := ⟨_, List.getElem?_eq_getElem hil2⟩
        have hw := wrap_succ (i := i) (by omega)
        (refine Q0 (c15 @slvs.eq_def @strs.eq_def t9 t3 t4 t37 t23 t46 t44 t116 t114 t26 t24 @hs @hb) ?_; try with_reducible intro K hK)
        refine sat_stay hM ?_
        (refine S0 (c15 @slvs.eq_def @strs.eq_def t9 t3 t4 t37 t23 t46 t44 t116 t114 t26 t24 @hp @hil2) ?_; try with_reducible intro K hK)
        (refine W0 (c12 t9 t3 t4 t37 t23 t46 t44 t116 t114 t26 t24 @hw) ?_; try with_reducible intro K hK)
        refine ⟨ss.length - (i + 1), _, _, by omega, ?_, i + 1, rfl, by omega, .inr ⟨ver + 1, out ++ [⟨s, p⟩], by omega, by rw [ho2, take_snoc (prs_get hs hp)], rfl, rfl⟩⟩
        simp only [List.length_append, List.length_cons, List.length_nil]
        refine Ent.rnd hE ?_ ?_ ?_ ?_
        · simp only [le, ↓reduceIte, Nat.reduceEqDiff, and_true]; repeat' (first | exact trivial | exact D.le_refl _ | exact D.le_any _ | with_reducible refine And.intro ?_ ?_)
        · simp [prV, strs]
        · simp [ltAll, ltObs, Ob.lt, D.lt, D.ltL, or_imp, forall_and]
        · simp [ltAll, ltObs, Ob.lt, D.lt, D.ltL, or_imp, forall_and]
      · simp at hb
        have he : out = prs ss c.slaves := by rw [ho2, List.take_of_length_le (by omega)]
        (refine W0 (c11 t9 t3 t4 t37 t23 t46 t44 t116 t114 t26 t24) ?_; try with_reducible intro K hK)
        refine ⟨(), trivial, ?_⟩
        refine (Ent.weakFr (l' := [(9, .own (E.H0.length + 4) ver out.length), (8, .ptr (E.H0.length + 1) 0), (6, .ptr E.H0.length 0), (1, .v (.str lk)), (0, .v (.str nm))]) ?_).trans ((Ent.pubFr (E.H0.length + 4) (ver := ver) (sz := 3) (esc := 0) (out.map prV) (by rw [hp_get]; simp [prV]) (Nat.zero_le _) rfl).trans ?_)
        · simp only [le, ↓reduceIte, Nat.reduceEqDiff, and_true]; repeat' (first | exact trivial | exact D.le_refl _ | exact D.le_any _ | with_reducible refine And.intro ?_ ?_)
        rw [hp_set]
        simp only [convFr, D.conv, List.length_map, Nat.le_refl, and_self, if_true, take_len_map, he]
        refine Ent.trip hE ?_ ?_ ?_ ?_
        · simp only [le, ↓reduceIte, Nat.reduceEqDiff, and_true]; repeat' (first | exact trivial | exact D.le_refl _ | exact D.le_any _ | with_reducible refine And.intro ?_ ?_)
        · simp [leObs]
        · simp [ltAll, ltObs, Ob.lt, D.lt, D.ltL, or_imp, forall_and]
        · simp [ltAll, ltObs, Ob.lt, D.lt, D.ltL, or_imp, forall_and]
  intro _ _
  have hK0 := hK
  (refine W0 (c11 t9 t3 t4 t37 t23 t46 t44 t116 t114 t26 t24) ?_; try with_reducible intro K hK)
  refine spec_byPr prV (fun _ => rfl) (fun x => x.s.name) _ spec_prTxt (prs ss c.slaves) (by rw [hpl]; exact hl) _ _ (hK _ _ ?_)
  clear hK K; simp only [lp]
  obtain ⟨qs, hqs⟩ : ∃ qs, qs = stab (fun x y : Pr => Lib.compareBytes x.s.name y.s.name) (prs ss c.slaves) := ⟨_, rfl⟩
  have hql : qs.length = ss.length := by rw [hqs, (stab_perm _ _).length_eq, hpl]
  have hK := hK0
  rw [aloneF, ← hqs] at hK
  rw [← hqs]
  (refine W0 (c11 t9 t3 t4 t37 t23 t46 t44 t116 t114 t26 t24) ?_; try with_reducible intro K hK)
  refine sat_blF (ι := Unit) (fun _ => True) (fun _ => fr 65 [(12, .ptr (E.H0.length + 2) 0), (8, .ptr (E.H0.length + 1) 0), (6, .ptr E.H0.length 0)]) (fun _ => E.H0 ++ [.box [.v (.str c.path), .v (.int .i64 c.prio), .v (strs (qs.map (·.p)))], .box [.v (.str []), .v (.str []), .v (.bool false), .v (.str []), .nils, .nils], .box [.v (.str nm), .v (.str lk), .v (.bool false), .v (.str c.path), .v (slvs (qs.map (·.s))), .nils]]) ?_ ?_
  · refine sat_loop_ent (fun n t H => ∃ (i : Nat), n = qs.length - i ∧ i ≤ qs.length ∧ t = fr 65 [(42, .v (.int .i64 i)), (41, .v (.int .i64 qs.length)), (40, .v (.list 3 (qs.map prV))), (12, .ptr (E.H0.length + 2) 0), (8, .ptr (E.H0.length + 1) 0), (6, .ptr E.H0.length 0)] ∧
      (i = 0 ∧ H = E.H0 ++ [.box [.v (.str c.path), .v (.int .i64 c.prio), .nils], .box [.v (.str []), .v (.str []), .v (.bool false), .v (.str []), .nils, .nils], .box [.v (.str nm), .v (.str lk), .v (.bool false), .v (.str c.path), .nils, .nils]] ∨ ∃ (v1 v2 : Nat) (o1 : List Slv) (o2 : List Str), 1 ≤ v1 ∧ 1 ≤ v2 ∧ o1 = (qs.take i).map (·.s) ∧ o2 = (qs.take i).map (·.p) ∧ H = E.H0 ++ [.box [.v (.str c.path), .v (.int .i64 c.prio), .own (E.H0.length + 7) v2 o2.length], .box [.v (.str []), .v (.str []), .v (.bool false), .v (.str []), .nils, .nils], .box [.v (.str nm), .v (.str lk), .v (.bool false), .v (.str c.path), .own (E.H0.length + 5) v1 o1.length, .nils], .dead, .dead, .arr v1 2 (o1.map fun s => [.v (.str s.name), .v (.str s.link)]) 0, .dead, .arr v2 1 (o2.map fun s => [.v (.str s)]) 0])) (qs.length) (ts0 := fr 65 [(42, .v (.int .i64 (0 : Nat))), (41, .v (.int .i64 qs.length)), (40, .v (.list 3 (qs.map prV))), (12, .ptr (E.H0.length + 2) 0), (8, .ptr (E.H0.length + 1) 0), (6, .ptr E.H0.length 0)]) (H0 := E.H0 ++ [.box [.v (.str c.path), .v (.int .i64 c.prio), .nils], .box [.v (.str []), .v (.str []), .v (.bool false), .v (.str []), .nils, .nils], .box [.v (.str nm), .v (.str lk), .v (.bool false), .v (.str c.path), .nils, .nils]]) (.weakFr ?_) ⟨0, rfl, Nat.zero_le _, rfl, .inl ⟨rfl, rfl⟩⟩ ?_
    · simp only [le, ↓reduceIte, Nat.reduceEqDiff, and_true]; repeat' (first | exact trivial | exact D.le_refl _ | exact D.le_any _ | with_reducible refine And.intro ?_ ?_)
    rintro n t H ⟨i, rfl, hi, rfl, hH⟩
    rcases hH with ⟨rfl, rfl⟩ | ⟨v1, v2, o1, o2, hv1, hv2, ho1, ho2, rfl⟩
    · (refine W0 (c11 t9 t3 t4 t37 t23 t46 t44 t116 t114 t26 t24) ?_; try with_reducible intro K hK)
      refine sat_cond rfl (fun hb => ?_) (fun hb => ?_)
      · simp at hb
        have hil : 0 < qs.length := by omega
        obtain ⟨q, hq⟩ : ∃ q, qs[0]? = some q := ⟨_, List.getElem?_eq_getElem hil⟩
        have hw0 : IntKind.i64.wrap (0 + 1) = 1 := by rw [IntKind.wrap_i64]; rfl
        (refine W0 (c15 @prV.eq_def t9 t3 t4 t37 t23 t46 t44 t116 t114 t26 t24 @hq @hil @hw0) ?_; try with_reducible intro K hK)
        refine ⟨qs.length - 1, _, _, by omega, ?_, 1, rfl, by omega, rfl, .inr ⟨1, 1, [q.s], [q.p], Nat.le_refl _, Nat.le_refl _, by rw [take_snoc hq]; rfl, by rw [take_snoc hq]; rfl, rfl⟩⟩
        refine Ent.trip hE ?_ ?_ ?_ ?_
        · simp only [le, ↓reduceIte, Nat.reduceEqDiff, and_true]; repeat' (first | exact trivial | exact D.le_refl _ | exact D.le_any _ | with_reducible refine And.intro ?_ ?_)
        · simp [leObs]
        · simp [ltAll, ltObs, Ob.lt, D.lt, D.ltL, or_imp, forall_and]
        · simp [ltAll, ltObs, Ob.lt, D.lt, D.ltL, or_imp, forall_and]
      · have he : qs = [] := by cases qs with
          | nil => rfl
          | cons a l => simp at hb
        (refine W0 (c11 t9 t3 t4 t37 t23 t46 t44 t116 t114 t26 t24) ?_; try with_reducible intro K hK)
        refine ⟨(), trivial, ?_⟩
        refine (Ent.weakFr (l' := [(12, .ptr (E.H0.length + 2) 0), (8, .ptr (E.H0.length + 1) 0), (6, .ptr E.H0.length 0)]) ?_).trans ((Ent.weakBox E.H0.length (cs := [.v (.str c.path), .v (.int .i64 c.prio), .nils]) (cs' := [.v (.str c.path), .v (.int .i64 c.prio), .v (strs (qs.map (·.p)))]) (by rw [hp_get0]; rfl) ⟨D.le_refl _, D.le_refl _, ?_, trivial⟩).trans ((Ent.weakBox (E.H0.length + 2) (cs := [.v (.str nm), .v (.str lk), .v (.bool false), .v (.str c.path), .nils, .nils]) (cs' := [.v (.str nm), .v (.str lk), .v (.bool false), .v (.str c.path), .v (slvs (qs.map (·.s))), .nils]) (by rw [hp_set0, hp_get]; rfl) ⟨D.le_refl _, D.le_refl _, D.le_refl _, D.le_refl _, ?_, D.le_refl _, trivial⟩).trans ?_))
        · simp only [le, ↓reduceIte, Nat.reduceEqDiff, and_true]; repeat' (first | exact trivial | exact D.le_refl _ | exact D.le_any _ | with_reducible refine And.intro ?_ ?_)
        · rw [he]; exact D.le_nils 1
        · rw [he]; exact D.le_nils 2
        · rw [hp_set0, hp_set]; exact .refl _ _
    · have hol1 : o1.length = i := by rw [ho1, List.length_map, List.length_take]; omega
      have hol2 : o2.length = i := by rw [ho2, List.length_map, List.length_take]; omega
      (refine W0 (c11 t9 t3 t4 t37 t23 t46 t44 t116 t114 t26 t24) ?_; try with_reducible intro K hK)
      refine sat_cond rfl (fun hb => ?_) (fun hb => ?_)
      · simp at hb
        obtain ⟨q, hq⟩ : ∃ q, qs[i]? = some q := ⟨_, List.getElem?_eq_getElem hb⟩
        have hw := wrap_succ (i := i) (by omega)
        (refine W0 (c15 @prV.eq_def t9 t3 t4 t37 t23 t46 t44 t116 t114 t26 t24 @hq @hb @hw) ?_; try with_reducible intro K hK)
        refine ⟨qs.length - (i + 1), _, _, by omega, ?_, i + 1, rfl, by omega, rfl, .inr ⟨v1 + 1, v2 + 1, o1 ++ [q.s], o2 ++ [q.p], by omega, by omega, by rw [ho1, take_snoc hq]; simp, by rw [ho2, take_snoc hq]; simp, rfl⟩⟩
        simp only [List.length_append, List.length_cons, List.length_nil]
        refine Ent.rnd hE ?_ ?_ ?_ ?_
        · simp only [le, ↓reduceIte, Nat.reduceEqDiff, and_true]; repeat' (first | exact trivial | exact D.le_refl _ | exact D.le_any _ | with_reducible refine And.intro ?_ ?_)
        · simp
        · simp [ltAll, ltObs, Ob.lt, D.lt, D.ltL, or_imp, forall_and]
        · simp [ltAll, ltObs, Ob.lt, D.lt, D.ltL, or_imp, forall_and]
      · simp at hb
        have htk : ∀ {β γ : Type} (g : Pr → β) (f : β → γ), ((qs.map g).map f).take qs.length = (qs.map g).map f := fun g f => List.take_of_length_le (by simp)
        have he1 : o1 = qs.map (·.s) := by rw [ho1, List.take_of_length_le (by omega)]
        have he2 : o2 = qs.map (·.p) := by rw [ho2, List.take_of_length_le (by omega)]
        (refine W0 (c11 t9 t3 t4 t37 t23 t46 t44 t116 t114 t26 t24) ?_; try with_reducible intro K hK)
        refine ⟨(), trivial, ?_⟩
        refine (Ent.pubIn (E.H0.length + 7) E.H0.length (ver := v2) (sz := 1) (esc := 0) (cs' := [.v (.str c.path), .v (.int .i64 c.prio), .v (strs (qs.map (·.p)))]) (l' := [(12, .ptr (E.H0.length + 2) 0), (8, .ptr (E.H0.length + 1) 0), (6, .ptr E.H0.length 0)]) (o2.map fun s => [.str s]) (by rw [hp_get]; simp) (by rw [hp_get0]; rfl) (Nat.zero_le _) ?_ rfl ?_).trans ?_
        · simp only [le, ↓reduceIte, Nat.reduceEqDiff, and_true]; repeat' (first | exact trivial | exact D.le_refl _ | exact D.le_any _ | with_reducible refine And.intro ?_ ?_)
        · simp only [D.convL, D.conv, strs, List.length_map, Nat.le_refl, and_self, if_true, take_len_map, he2, htk]; exact ⟨D.le_refl _, D.le_refl _, D.le_refl _, trivial⟩
        rw [hp_set, hp_set0]
        simp only [List.set_cons_succ, List.set_cons_zero]
        refine (Ent.pubIn (E.H0.length + 5) (E.H0.length + 2) (ver := v1) (sz := 2) (esc := 0) (cs' := [.v (.str nm), .v (.str lk), .v (.bool false), .v (.str c.path), .v (slvs (qs.map (·.s))), .nils]) (l' := [(12, .ptr (E.H0.length + 2) 0), (8, .ptr (E.H0.length + 1) 0), (6, .ptr E.H0.length 0)]) (o1.map slvV) (by rw [hp_get]; simp [slvV]) (by rw [hp_get]; rfl) (Nat.zero_le _) ?_ rfl ?_).trans ?_
        · simp only [le, ↓reduceIte, Nat.reduceEqDiff, and_true]; repeat' (first | exact trivial | exact D.le_refl _ | exact D.le_any _ | with_reducible refine And.intro ?_ ?_)
        · simp only [D.convL, D.conv, List.length_map, Nat.le_refl, and_self, if_true, take_len_map, he1, htk]; exact ⟨D.le_refl _, D.le_refl _, D.le_refl _, D.le_refl _, D.le_refl _, D.le_refl _, trivial⟩
        rw [hp_set, hp_set]
        simp only [List.set_cons_succ, List.set_cons_zero]
        refine Ent.trip hE ?_ ?_ ?_ ?_
        · simp only [le, ↓reduceIte, Nat.reduceEqDiff, and_true]; repeat' (first | exact trivial | exact D.le_refl _ | exact D.le_any _ | with_reducible refine And.intro ?_ ?_)
        · simp [leObs]
        · simp [ltAll, ltObs, Ob.lt, D.lt, D.ltL, or_imp, forall_and]
        · simp [ltAll, ltObs, Ob.lt, D.lt, D.ltL, or_imp, forall_and]
  intro _ _
  refine wa ?_
  refine wb rfl ?_
  repeat' (first | (refine G0 (c11 t9 t3 t4 t37 t23 t46 t44 t116 t114 t26 t24) ?_; try with_reducible intro K hK) | ((first | refine Xs rfl rfl (by decide) rfl (fun h => ?_) fun h => ?_ | refine Ys rfl rfl (by decide) rfl (fun h => ?_) fun h => ?_ | refine Zs rfl rfl rfl (by decide) rfl (fun h => ?_) fun h => ?_); rotate_left; (focus (simp only [Bool.not_true, Bool.not_false, lp])); rotate_left))
  refine sat_ent (Ent.pubIn (E.H0.length + 3) (E.H0.length + 2) (ver := 1) (sz := 3) (esc := 0) (cs' := [.v (.str nm), .v (.str lk), .v (.bool false), .v (.str c.path), .v (slvs (qs.map (·.s))), .v (chos [⟨c.path, c.prio, qs.map (·.p)⟩])]) (l' := [(12, .ptr (E.H0.length + 2) 0), (8, .ptr (E.H0.length + 1) 0)]) [cV ⟨c.path, c.prio, qs.map (·.p)⟩] (by rw [hp_get]; rfl) (by rw [hp_get]; rfl) (Nat.zero_le _) ?_ rfl ?_) ?_
  · simp only [le, ↓reduceIte, Nat.reduceEqDiff, and_true]; repeat' (first | exact trivial | exact D.le_refl _ | exact D.le_any _ | with_reducible refine And.intro ?_ ?_)
  · simp only [D.convL, D.conv]; exact ⟨D.le_refl _, D.le_refl _, D.le_refl _, D.le_refl _, D.le_refl _, D.le_refl _, trivial⟩
  rw [hp_set, hp_set]
  simp only [List.set_cons_succ, List.set_cons_zero]
  (refine W0 (c11 t9 t3 t4 t37 t23 t46 t44 t116 t114 t26 t24) ?_; try with_reducible intro K hK)
  exact FinR.box 1 (altV (aloneA nm lk c qs)) hE (by decide) rfl rfl hrow rfl hK
end Go.Ag
