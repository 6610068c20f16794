/- Sorting of Pr: partial insertion sort, partitions. -/
import Derived.Test.YtgclbdndnbgnoaaDoorSc
namespace Go.AV
set_option linter.all false
variable {P : Pr → Prop} {c : Pr → Pr → Int} {cmp : Pr → Pr → Option Int}

/-! ### partialInsertionSort -/
theorem so2int_pis_l1 (ho : Ord3 c) (hc : ∀ x y, P x → P y → cmp x y = some (c x y)) (a b : Nat) (jj : Int) (l : List Pr) (hl : Ok P l) (hb : b ≤ l.length) : ∀ (n i : Nat), b - i = n → a < i → i ≤ b → srt c l a i →
    ∃ k : Nat, PL.slices_partialInsertionSortCmpFunc_2int.l1 cmp a b l jj i = some (k : Int) ∧ i ≤ k ∧ k ≤ b ∧ srt c l a k ∧ (k < b → c (el l k) (el l (k - 1)) < 0) := by
  intro n
  have hlen := hl.len
  induction n with
  | zero =>
    intro i hn h1 h2 h3
    refine ⟨i, ?_, Nat.le_refl _, h2, h3, by omega⟩
    rw [PL.slices_partialInsertionSortCmpFunc_2int.l1, if_neg (by simp <;> omega)]
  | succ n ih =>
    intro i hn h1 h2 h3
    have e1 := hc _ _ (hl.el (k := i) (by omega)) (hl.el (k := i - 1) (by omega))
    rw [PL.slices_partialInsertionSortCmpFunc_2int.l1, if_pos (by simp <;> omega)]
    simp (disch := omega) only [getI_el, w64_pred, w64_one, Option.bind_eq_bind, Option.bind_some, e1]
    by_cases cx : c (el l i) (el l (i - 1)) < 0
    · exact ⟨i, by rw [if_neg (by simpa using cx)], Nat.le_refl _, h2, h3, fun _ => cx⟩
    · obtain ⟨k, hk, k1, k2, k3, k4⟩ := ih (i + 1) (by omega) (by omega) (by omega) (fun p q hp hq hh => by
        by_cases cq : q = i
        · subst cq
          by_cases cp : p = q - 1
          · subst cp; exact cx
          · exact ho.tr _ _ _ (h3 p (q - 1) hp (by omega) (by omega)) cx
        · exact h3 p q hp hq (by omega))
      exact ⟨k, by rw [if_pos (by simpa using cx), hk], by omega, k2, k3, k4⟩

theorem so2int_pis_l2 (hc : ∀ x y, P x → P y → cmp x y = some (c x y)) (a b i : Nat) (z1 z2 z3 : Int) : ∀ (n j : Nat) (l : List Pr), b - j = n → Ok P l → b ≤ l.length → i < j →
    ∃ m, PL.slices_partialInsertionSortCmpFunc_2int.l2 cmp z1 b z2 z3 l j = some m ∧ Part l m i b := by
  intro n
  induction n with
  | zero =>
    intro j l hn hl h1 h2
    refine ⟨l, ?_, .refl ..⟩
    rw [PL.slices_partialInsertionSortCmpFunc_2int.l2, if_neg (by simp <;> omega)]
  | succ n ih =>
    intro j l hn hl h1 h2
    have hlen := hl.len
    have e1 := hc _ _ (hl.el (k := j) (by omega)) (hl.el (k := j - 1) (by omega))
    rw [PL.slices_partialInsertionSortCmpFunc_2int.l2, if_pos (by simp <;> omega)]
    simp (disch := omega) only [getI_el, w64_pred, w64_one, Option.bind_eq_bind, Option.bind_some, e1, Int.toNat_natCast]
    by_cases cx : c (el l j) (el l (j - 1)) < 0
    · rw [if_neg (by simpa using cx), getI_el (by simp <;> omega)]
      have hP : Part l (sw l j (j - 1)) i b := .sw (by omega) (by omega) (by omega) (by omega) (by omega) (by omega)
      obtain ⟨m, hm, hp⟩ := ih (j + 1) (sw l j (j - 1)) (by omega) (hP.ok hl) (by rw [sw_len]; exact h1) (by omega)
      exact ⟨m, hm, hP.trans hp⟩
    · exact ⟨l, by rw [if_pos (by simpa using cx)], .refl ..⟩

theorem so2int_pis_l3 (ho : Ord3 c) (hc : ∀ x y, P x → P y → cmp x y = some (c x y)) (a e : Nat) (z1 z2 z3 z4 : Int) : ∀ (n j : Nat) (l : List Pr), j - a = n → Ok P l → a ≤ j → j < e → e ≤ l.length → hdd c l a e →
    (∀ p q, a ≤ p → p < q → q < e → p ≠ j → q ≠ j → ¬ c (el l q) (el l p) < 0) →
    (∀ q, j < q → q < e → ¬ c (el l q) (el l j) < 0) →
    ∃ m, PL.slices_partialInsertionSortCmpFunc_2int.l3 cmp z1 z2 z3 z4 l j = some m ∧ Part l m a e ∧ srt c m a e := by
  intro n
  induction n with
  | zero =>
    intro j l hn hl h1 h2 h3 hh h4 h5
    have hlen := hl.len
    obtain rfl : j = a := by omega
    refine ⟨l, ?_, .refl .., fun p q hp hq he => ?_⟩
    · rw [PL.slices_partialInsertionSortCmpFunc_2int.l3]
      by_cases c0 : 1 ≤ j
      · have e1 := hc _ _ (hl.el (k := j) (by omega)) (hl.el (k := j - 1) (by omega))
        rw [if_pos (by simp <;> omega)]
        simp (disch := omega) only [getI_el, w64_pred, Option.bind_eq_bind, Option.bind_some, e1]
        rw [if_pos (by simpa using hh (by omega) j (Nat.le_refl _) h2)]
      · rw [if_neg (by simp <;> omega)]
    · by_cases hx : p = j
      · subst hx; exact h5 q hq he
      · exact h4 p q hp hq he hx (by omega)
  | succ n ih =>
    intro j l hn hl h1 h2 h3 hh h4 h5
    have hlen := hl.len
    have e1 := hc _ _ (hl.el (k := j) (by omega)) (hl.el (k := j - 1) (by omega))
    have hj : j < l.length := by omega
    have hj' : j - 1 < l.length := by omega
    rw [PL.slices_partialInsertionSortCmpFunc_2int.l3, if_pos (by simp <;> omega)]
    simp (disch := omega) only [w64_pred, getI_el, Option.bind_eq_bind, Option.bind_some, e1, Int.toNat_natCast]
    by_cases hx : c (el l j) (el l (j - 1)) < 0
    · have hP : Part l (sw l j (j - 1)) a e := .sw hj hj' (by omega) (by omega) (by omega) (by omega)
      obtain ⟨m, hm, hp, hs⟩ := ih (j - 1) (sw l j (j - 1)) (by omega) (hP.ok hl) (by omega) (by omega) (by rw [sw_len]; exact h3) (hP.hdd hh)
        (fun p q hp hq he hpj hqj => by
          rw [sw_el hj hj', sw_el hj hj', if_neg hqj, if_neg hpj]
          by_cases cq : q = j
          · rw [if_pos cq, if_neg (by omega)]; exact h4 p (j - 1) hp (by omega) (by omega) (by omega) (by omega)
          · rw [if_neg cq]
            by_cases cp : p = j
            · rw [if_pos cp]; exact h4 (j - 1) q (by omega) (by omega) he (by omega) cq
            · rw [if_neg cp]; exact h4 p q hp hq he cp cq)
        (fun q hq he => by
          rw [sw_el hj hj', sw_el hj hj', if_neg (by omega), if_pos rfl]
          by_cases cq : q = j
          · rw [if_pos cq]; exact ho.asym _ _ hx
          · rw [if_neg cq]; exact h5 q (by omega) he)
      refine ⟨m, ?_, hP.trans hp, hs⟩
      rw [if_neg (by simpa using hx), getI_el (by simpa using hj')]
      exact hm
    · refine ⟨l, by rw [if_pos (by simpa using hx)], .refl .., fun p q hp hq he => ?_⟩
      by_cases cp : p = j
      · subst cp; exact h5 q hq he
      · by_cases cq : q = j
        · subst cq
          by_cases cp2 : p = q - 1
          · subst cp2; exact hx
          · exact ho.tr _ _ _ (h4 p (q - 1) hp (by omega) (by omega) cp (by omega)) hx
        · exact h4 p q hp hq he cp cq

theorem so2int_pis_l0 (ho : Ord3 c) (hc : ∀ x y, P x → P y → cmp x y = some (c x y)) (a b : Nat) : ∀ (n i j : Nat) (l : List Pr), 5 - j = n → Ok P l → a < i → i ≤ b → b ≤ l.length → srt c l a i → hdd c l a b →
    ∃ r, PL.slices_partialInsertionSortCmpFunc_2int.l0 cmp a b l i j = some r ∧
      ((∃ m, r = .inl m ∧ Part l m a b) ∨ (∃ m t, r = .inr (m, t) ∧ Part l m a b ∧ (t = true → srt c m a b))) := by
  intro n
  induction n with
  | zero =>
    intro i j l hn hl h1 h2 h3 h4 h5
    refine ⟨.inl l, ?_, .inl ⟨l, rfl, .refl ..⟩⟩
    rw [PL.slices_partialInsertionSortCmpFunc_2int.l0, if_neg (by simp <;> omega)]
  | succ n ih =>
    intro i j l hn hl h1 h2 h3 h4 h5
    have hlen := hl.len
    rw [PL.slices_partialInsertionSortCmpFunc_2int.l0, if_pos (by simp <;> omega)]
    obtain ⟨k, hk, k1, k2, k3, k4⟩ := so2int_pis_l1 ho hc a b j l hl h3 _ i rfl h1 h2 h4
    rw [hk]
    simp only [Option.bind_eq_bind, Option.bind_some]
    by_cases ck : k = b
    · refine ⟨.inr (l, true), ?_, .inr ⟨l, true, rfl, .refl .., fun _ => by rw [← ck]; exact k3⟩⟩
      rw [if_pos (by simp [ck])]
    · rw [if_neg (by simp <;> omega), w64_dif b a (by omega) (by omega)]
      by_cases c50 : b - a < 50
      · refine ⟨.inr (l, false), ?_, .inr ⟨l, false, rfl, .refl .., fun h => by cases h⟩⟩
        rw [if_pos (by simp <;> omega)]
      · rw [if_neg (by simp <;> omega)]
        have hkl : k < l.length := by omega
        have hkl' : k - 1 < l.length := by omega
        simp (disch := omega) only [w64_pred, getI_el, Option.bind_some, Int.toNat_natCast, w64_dif, w64_one]
        rw [getI_el (by simpa using hkl')]
        simp only [Option.bind_some]
        have cx := k4 (by omega)
        have hP : Part l (sw l k (k - 1)) a b := .sw hkl hkl' (by omega) (by omega) (by omega) (by omega)
        have hP2 : Part l (sw l k (k - 1)) a (k + 1) := .sw hkl hkl' (by omega) (by omega) (by omega) (by omega)
        show ∃ r, ((if decide (((k - a : Nat) : Int) ≥ 2) = true then (PL.slices_partialInsertionSortCmpFunc_2int.l3 cmp a b k j (sw l k (k - 1)) ((k - 1 : Nat) : Int)).bind fun bu => some bu else some (sw l k (k - 1))).bind _) = some r ∧ _
        obtain ⟨m, hm, hp, hs⟩ : ∃ m, (if decide (((k - a : Nat) : Int) ≥ 2) = true then (PL.slices_partialInsertionSortCmpFunc_2int.l3 cmp a b k j (sw l k (k - 1)) ((k - 1 : Nat) : Int)).bind fun bu => some bu else some (sw l k (k - 1))) = some m ∧ Part l m a b ∧ srt c m a k := by
          by_cases c2 : k - a ≥ 2
          · rw [if_pos (by simp <;> omega)]
            obtain ⟨m, hm, hp, hs⟩ := so2int_pis_l3 ho hc a (k + 1) a b k j _ (k - 1) (sw l k (k - 1)) rfl (hP.ok hl) (by omega) (by omega) (by rw [sw_len]; omega) (hP2.hdd (fun h0 x hx hy => h5 h0 x hx (by omega)))
              (fun p q hp hq he hpj hqj => by
                rw [sw_el hkl hkl', sw_el hkl hkl', if_neg hqj, if_neg hpj, if_neg (show ¬ p = k by omega)]
                by_cases cq : q = k
                · rw [if_pos cq]; exact k3 p (k - 1) hp (by omega) (by omega)
                · rw [if_neg cq]; exact k3 p q hp hq (by omega))
              (fun q hq he => by
                obtain rfl : q = k := by omega
                rw [sw_el hkl hkl', sw_el hkl hkl', if_neg (by omega), if_pos rfl, if_pos rfl]
                exact ho.asym _ _ cx)
            rw [hm]
            exact ⟨m, rfl, (hP2.trans hp).mono (Nat.le_refl _) (by omega), fun p q h1 h2 h3 => hs p q h1 h2 (by omega)⟩
          · rw [if_neg (by simp <;> omega)]
            exact ⟨_, rfl, hP, srt.one (by omega)⟩
        rw [hm]
        simp only [Option.bind_some]
        by_cases c3 : b - k ≥ 2
        · rw [if_pos (by simp <;> omega)]
          obtain ⟨q, hq, qp⟩ := so2int_pis_l2 hc a b k a k j _ (k + 1) m rfl (hp.ok hl) (by rw [hp.len]; exact h3) (by omega)
          rw [hq]
          simp only [Option.bind_some]
          have hq2 : Part l q a b := hp.trans (qp.mono (by omega) (Nat.le_refl _))
          obtain ⟨r, hr, hh⟩ := ih k (j + 1) q (by omega) (hq2.ok hl) (by omega) k2 (by rw [hq2.len]; exact h3) (qp.srt hs (.inl (Nat.le_refl _))) (hq2.hdd h5)
          refine ⟨r, hr, ?_⟩
          rcases hh with ⟨z, rfl, hz⟩ | ⟨z, t, rfl, hz, hz2⟩
          · exact .inl ⟨z, rfl, hq2.trans hz⟩
          · exact .inr ⟨z, t, rfl, hq2.trans hz, hz2⟩
        · rw [if_neg (by simp <;> omega)]
          obtain ⟨r, hr, hh⟩ := ih k (j + 1) m (by omega) (hp.ok hl) (by omega) k2 (by rw [hp.len]; exact h3) hs (hp.hdd h5)
          refine ⟨r, hr, ?_⟩
          rcases hh with ⟨z, rfl, hz⟩ | ⟨z, t, rfl, hz, hz2⟩
          · exact .inl ⟨z, rfl, hp.trans hz⟩
          · exact .inr ⟨z, t, rfl, hp.trans hz, hz2⟩

theorem so2int_pis (ho : Ord3 c) (hc : ∀ x y, P x → P y → cmp x y = some (c x y)) (a b : Nat) (l : List Pr) (hl : Ok P l) (h1 : a < b) (h2 : b ≤ l.length) (h3 : hdd c l a b) :
    ∃ t m, PL.slices_partialInsertionSortCmpFunc_2int l a b cmp = some (t, m) ∧ Part l m a b ∧ (t = true → srt c m a b) := by
  have hlen := hl.len
  obtain ⟨r, hr, hh⟩ := so2int_pis_l0 ho hc a b _ (a + 1) 0 l rfl hl (by omega) (by omega) h2 (srt.one (by omega)) h3
  unfold PL.slices_partialInsertionSortCmpFunc_2int
  rw [w64_one a (by omega)]
  rw [show ((0 : Nat) : Int) = 0 from rfl] at hr
  rw [hr]
  rcases hh with ⟨z, rfl, hz⟩ | ⟨z, t, rfl, hz, hz2⟩
  · exact ⟨false, z, rfl, hz, fun h => by cases h⟩
  · exact ⟨t, z, rfl, hz, hz2⟩

/-! ### partitionEqual -/
theorem so2int_peq_l1 (hc : ∀ x y, P x → P y → cmp x y = some (c x y)) (a j : Nat) (l : List Pr) (hl : Ok P l) (hj : j < l.length) (ha : a < l.length) : ∀ (n i : Nat), j + 1 - i = n → i ≤ j + 1 →
    ∃ k : Nat, PL.slices_partitionEqualCmpFunc_2int.l1 cmp a l j i = some (k : Int) ∧ i ≤ k ∧ k ≤ j + 1 ∧ (∀ x, i ≤ x → x < k → ¬ c (el l a) (el l x) < 0) ∧ (k ≤ j → c (el l a) (el l k) < 0) := by
  intro n
  have hlen := hl.len
  induction n with
  | zero =>
    intro i hn hi
    refine ⟨i, ?_, Nat.le_refl _, hi, fun x h1 h2 => by omega, by omega⟩
    rw [PL.slices_partitionEqualCmpFunc_2int.l1, if_neg (by simp <;> omega)]
  | succ n ih =>
    intro i hn hi
    have e1 := hc _ _ (hl.el ha) (hl.el (k := i) (by omega))
    rw [PL.slices_partitionEqualCmpFunc_2int.l1, if_pos (by simp <;> omega)]
    simp (disch := omega) only [getI_el, w64_one, Option.bind_eq_bind, Option.bind_some, e1]
    by_cases cx : c (el l a) (el l i) < 0
    · exact ⟨i, by rw [if_neg (by simpa using cx)], Nat.le_refl _, hi, fun x h1 h2 => by omega, fun _ => cx⟩
    · obtain ⟨k, hk, k1, k2, k3, k4⟩ := ih (i + 1) (by omega) (by omega)
      refine ⟨k, by rw [if_pos (by simpa using cx), hk], by omega, k2, fun x hx hy => ?_, k4⟩
      by_cases c2 : x = i
      · subst c2; exact cx
      · exact k3 x (by omega) hy
theorem so2int_peq_l2 (hc : ∀ x y, P x → P y → cmp x y = some (c x y)) (a i : Nat) (hi : 1 ≤ i) (l : List Pr) (hl : Ok P l) (ha : a < l.length) : ∀ (n j : Nat), j + 1 - i = n → i ≤ j + 1 → j < l.length →
    ∃ k : Nat, PL.slices_partitionEqualCmpFunc_2int.l2 cmp a l i j = some (k : Int) ∧ k ≤ j ∧ i ≤ k + 1 ∧ (∀ x, k < x → x ≤ j → c (el l a) (el l x) < 0) ∧ (i ≤ k → ¬ c (el l a) (el l k) < 0) := by
  intro n
  have hlen := hl.len
  induction n with
  | zero =>
    intro j hn hi hj
    refine ⟨j, ?_, Nat.le_refl _, hi, fun x h1 h2 => by omega, by omega⟩
    rw [PL.slices_partitionEqualCmpFunc_2int.l2, if_neg (by simp <;> omega)]
  | succ n ih =>
    intro j hn hi hj
    have e1 := hc _ _ (hl.el ha) (hl.el (k := j) (by omega))
    rw [PL.slices_partitionEqualCmpFunc_2int.l2, if_pos (by simp <;> omega)]
    simp (disch := omega) only [getI_el, w64_pred, Option.bind_eq_bind, Option.bind_some, e1]
    by_cases cx : c (el l a) (el l j) < 0
    · obtain ⟨k, hk, k1, k2, k3, k4⟩ := ih (j - 1) (by omega) (by omega) (by omega)
      refine ⟨k, by rw [if_pos (by simpa using cx), hk], by omega, k2, fun x hx hy => ?_, k4⟩
      by_cases c2 : x = j
      · subst c2; exact cx
      · exact k3 x hx (by omega)
    · exact ⟨j, by rw [if_neg (by simpa using cx)], Nat.le_refl _, by omega, fun x h1 h2 => by omega, fun _ => cx⟩

theorem so2int_peq_l0 (ho : Ord3 c) (hc : ∀ x y, P x → P y → cmp x y = some (c x y)) (a b : Nat) : ∀ (n i j : Nat) (l : List Pr), j + 1 - i ≤ n → Ok P l → a < i → i ≤ j + 1 → j < b → b ≤ l.length →
    (∀ x, a < x → x < i → ¬ c (el l a) (el l x) < 0) → (∀ x, j < x → x < b → c (el l a) (el l x) < 0) →
    ∃ m k, PL.slices_partitionEqualCmpFunc_2int.l0 cmp a l i j = some (m, ((k : Nat) : Int)) ∧ Part l m (a + 1) b ∧ a < k ∧ k ≤ b ∧ (∀ x, a < x → x < k → ¬ c (el m a) (el m x) < 0) ∧ (∀ x, k ≤ x → x < b → c (el m a) (el m x) < 0) := by
  intro n
  induction n with
  | zero =>
    intro i j l hn hl h1 h2 h3 h4 h5 h6
    have hlen := hl.len
    obtain ⟨i', hi, i1, i2, i3, i4⟩ := so2int_peq_l1 hc a j l hl (by omega) (by omega) _ i rfl h2
    obtain ⟨j', hj, j1, j2, j3, j4⟩ := so2int_peq_l2 hc a i' (by omega) l hl (by omega) _ j rfl i2 (by omega)
    rw [PL.slices_partitionEqualCmpFunc_2int.l0, hi]
    simp only [Option.bind_eq_bind, Option.bind_some, hj]
    refine ⟨l, i', by rw [if_pos (by simp <;> omega)], .refl .., by omega, by omega, fun x hx hy => ?_, fun x hx hy => ?_⟩
    · by_cases cz : x < i
      · exact h5 x hx cz
      · exact i3 x (by omega) hy
    · by_cases cz : j < x
      · exact h6 x cz hy
      · exact j3 x (by omega) (by omega)
  | succ n ih =>
    intro i j l hn hl h1 h2 h3 h4 h5 h6
    have hlen := hl.len
    obtain ⟨i', hi, i1, i2, i3, i4⟩ := so2int_peq_l1 hc a j l hl (by omega) (by omega) _ i rfl h2
    obtain ⟨j', hj, j1, j2, j3, j4⟩ := so2int_peq_l2 hc a i' (by omega) l hl (by omega) _ j rfl i2 (by omega)
    rw [PL.slices_partitionEqualCmpFunc_2int.l0, hi]
    simp only [Option.bind_eq_bind, Option.bind_some, hj]
    have low : ∀ x, a < x → x < i' → ¬ c (el l a) (el l x) < 0 := fun x hx hy => by
      by_cases cz : x < i
      · exact h5 x hx cz
      · exact i3 x (by omega) hy
    have high : ∀ x, j' < x → x < b → c (el l a) (el l x) < 0 := fun x hx hy => by
      by_cases cz : j < x
      · exact h6 x cz hy
      · exact j3 x (by omega) (by omega)
    by_cases cx : i' > j'
    · exact ⟨l, i', by rw [if_pos (by simp <;> omega)], .refl .., by omega, by omega, low, fun x hx hy => high x (by omega) hy⟩
    · rw [if_neg (by simp <;> omega)]
      have ne : i' ≠ j' := fun e => by
        subst e; exact j4 (Nat.le_refl _) (i4 (by omega))
      have hil : i' < l.length := by omega
      have hjl : j' < l.length := by omega
      simp (disch := omega) only [getI_el, Option.bind_some, Int.toNat_natCast, w64_one, w64_pred]
      rw [getI_el (by simpa using hjl)]
      have hP : Part l (sw l i' j') (a + 1) b := .sw hil hjl (by omega) (by omega) (by omega) (by omega)
      have ea : el (sw l i' j') a = el l a := hP.out a (by omega)
      obtain ⟨m, k, hm, mp, k1, k2, k3, k4⟩ := ih (i' + 1) (j' - 1) (sw l i' j') (by omega) (hP.ok hl) (by omega) (by omega) (by omega) (by rw [sw_len]; exact h4)
        (fun x hx hy => by
          rw [ea, sw_el hil hjl, if_neg (by omega)]
          by_cases cz : x = i'
          · rw [if_pos cz]; exact j4 (by omega)
          · rw [if_neg cz]; exact low x hx (by omega))
        (fun x hx hy => by
          rw [ea, sw_el hil hjl]
          by_cases cz : x = j'
          · rw [if_pos cz]; exact i4 (by omega)
          · rw [if_neg cz, if_neg (by omega)]; exact high x (by omega) hy)
      exact ⟨m, k, hm, hP.trans mp, k1, k2, k3, k4⟩

/-- partitionEqual: what is not above the pivot first, then what is above it. -/
theorem so2int_peq (ho : Ord3 c) (hc : ∀ x y, P x → P y → cmp x y = some (c x y)) (a b p : Nat) (l : List Pr) (hl : Ok P l) (h1 : a ≤ p) (h2 : p < b) (h3 : b ≤ l.length) :
    ∃ m k, PL.slices_partitionEqualCmpFunc_2int l a b p cmp = some (((k : Nat) : Int), m) ∧ Part l m a b ∧ a < k ∧ k ≤ b ∧ el m a = el l p ∧ (∀ x, a ≤ x → x < k → ¬ c (el m a) (el m x) < 0) ∧ (∀ x, k ≤ x → x < b → c (el m a) (el m x) < 0) := by
  have hlen := hl.len
  have hal : a < l.length := by omega
  have hpl : p < l.length := by omega
  have hP : Part l (sw l a p) a b := .sw hal hpl (by omega) (by omega) (by omega) (by omega)
  unfold PL.slices_partitionEqualCmpFunc_2int
  simp (disch := omega) only [getI_el, Option.bind_eq_bind, Option.bind_some, Int.toNat_natCast, w64_one, w64_pred]
  rw [getI_el (by simpa using hpl)]
  obtain ⟨m, k, hm, mp, k1, k2, k3, k4⟩ := so2int_peq_l0 ho hc a b _ (a + 1) (b - 1) (sw l a p) (Nat.le_refl _) (hP.ok hl) (by omega) (by omega) (by omega) (by rw [sw_len]; exact h3) (fun x hx hy => by omega) (fun x hx hy => by omega)
  have hm' : PL.slices_partitionEqualCmpFunc_2int.l0 cmp a ((l.set a (el l p)).set p (el l a)) ((a + 1 : Nat) : Int) ((b - 1 : Nat) : Int) = some (m, (k : Int)) := hm
  simp only [Option.bind_some, hm']
  refine ⟨m, k, rfl, hP.trans (mp.mono (by omega) (Nat.le_refl _)), k1, k2, ?_, fun x hx hy => ?_, k4⟩
  · rw [mp.out a (by omega), sw_el hal hpl]
    by_cases cz : a = p
    · rw [if_pos cz]; rw [cz]
    · rw [if_neg cz, if_pos rfl]
  · by_cases cz : x = a
    · subst cz; exact ho.irr _
    · exact k3 x (by omega) hy
end Go.AV
