/- Sorting of Pr: insertionSort, siftDown, heapSort, reverseRange. -/
import Derived.Test.YtgclbdndnbgnoaaDoorPl
import Derived.Test.YtgclbdndnbgnoaaDoorSa
namespace Go.AV
set_option linter.all false
variable {P : Pr → Prop} {c : Pr → Pr → Int} {cmp : Pr → Pr → Option Int}

theorem so2int_ins_l1 (ho : Ord3 c) (hc : ∀ x y, P x → P y → cmp x y = some (c x y)) (a b : Nat) (i0 : Int) (e : Nat) : ∀ (n j : Nat) (l : List Pr), j - a = n → Ok P l → a ≤ j → j < e → e ≤ l.length →
    (∀ p q, a ≤ p → p < q → q < e → p ≠ j → q ≠ j → ¬ c (el l q) (el l p) < 0) →
    (∀ q, j < q → q < e → ¬ c (el l q) (el l j) < 0) →
    ∃ m, PL.slices_insertionSortCmpFunc_2int.l1 cmp a b i0 l j = some m ∧ Part l m a e ∧ srt c m a e := by
  intro n
  induction n with
  | zero =>
    intro j l hn hl h1 h2 h3 h4 h5
    obtain rfl : j = a := by omega
    refine ⟨l, ?_, .refl .., fun p q hp hq he => ?_⟩
    · rw [PL.slices_insertionSortCmpFunc_2int.l1]; simp
    · by_cases hx : p = j
      · subst hx; exact h5 q hq he
      · exact h4 p q hp hq he hx (by omega)
  | succ n ih =>
    intro j l hn hl h1 h2 h3 h4 h5
    have hlen := hl.len
    have e1 := hc _ _ (hl.el (k := j) (by omega)) (hl.el (k := j - 1) (by omega))
    have c1 : ((j : Int) > (a : Int)) := by omega
    have hj : j < l.length := by omega
    have hj' : j - 1 < l.length := by omega
    rw [PL.slices_insertionSortCmpFunc_2int.l1, if_pos (decide_eq_true c1)]
    simp (disch := omega) only [w64_pred, getI_el, Option.bind_eq_bind, Option.bind_some, e1, Int.toNat_natCast]
    by_cases hx : c (el l j) (el l (j - 1)) < 0
    · have hP : Part l (sw l j (j - 1)) a e := .sw hj hj' (by omega) (by omega) (by omega) (by omega)
      obtain ⟨m, hm, hp, hs⟩ := ih (j - 1) (sw l j (j - 1)) (by omega) (hP.ok hl) (by omega) (by omega) (by rw [sw_len]; exact h3)
        (fun p q hp hq he hpj hqj => by
          rw [sw_el hj hj', sw_el hj hj', if_neg hqj, if_neg hpj]
          by_cases cq : q = j
          · rw [if_pos cq, if_neg (by omega)]; exact h4 p (j - 1) hp (by omega) (by omega) (by omega) (by omega)
          · rw [if_neg cq]
            by_cases cp : p = j
            · rw [if_pos cp]; exact h4 (j - 1) q (by omega) (by omega) he (by omega) cq
            · rw [if_neg cp]; exact h4 p q hp hq he cp cq)
        (fun q hq he => by
          rw [sw_el hj hj', sw_el hj hj', if_neg (by omega), if_pos rfl]
          by_cases cq : q = j
          · rw [if_pos cq]; exact ho.asym _ _ hx
          · rw [if_neg cq]; exact h5 q (by omega) he)
      refine ⟨m, ?_, hP.trans hp, hs⟩
      rw [if_pos (decide_eq_true hx), getI_el (by simpa using hj')]
      exact hm
    · refine ⟨l, by rw [if_neg (by simpa using hx)], .refl .., fun p q hp hq he => ?_⟩
      by_cases cp : p = j
      · subst cp; exact h5 q hq he
      · by_cases cq : q = j
        · subst cq
          by_cases cp2 : p = q - 1
          · subst cp2; exact hx
          · exact ho.tr _ _ _ (h4 p (q - 1) hp (by omega) (by omega) cp (by omega)) hx
        · exact h4 p q hp hq he cp cq

theorem so2int_ins_l0 (ho : Ord3 c) (hc : ∀ x y, P x → P y → cmp x y = some (c x y)) (a b : Nat) : ∀ (n i : Nat) (l : List Pr), b - i = n → Ok P l → a ≤ i → b ≤ l.length → srt c l a i →
    ∃ m, PL.slices_insertionSortCmpFunc_2int.l0 cmp a b l i = some m ∧ Part l m a b ∧ srt c m a b := by
  intro n
  induction n with
  | zero =>
    intro i l hn hl h1 h2 h3
    refine ⟨l, ?_, .refl .., fun p q hp hq he => h3 p q hp hq (by omega)⟩
    rw [PL.slices_insertionSortCmpFunc_2int.l0, if_neg (by simp <;> omega)]
  | succ n ih =>
    intro i l hn hl h1 h2 h3
    have hlen := hl.len
    obtain ⟨m, hm, hp, hs⟩ := so2int_ins_l1 ho hc a b i (i + 1) _ i l rfl hl h1 (by omega) (by omega) (fun p q hp hq he hpi hqi => h3 p q hp hq (by omega)) (fun q hq he => by omega)
    obtain ⟨k, hk, kp, ks⟩ := ih (i + 1) m (by omega) (hp.ok hl) (by omega) (by rw [hp.len]; exact h2) hs
    refine ⟨k, ?_, (hp.mono (Nat.le_refl _) (by omega)).trans kp, ks⟩
    rw [PL.slices_insertionSortCmpFunc_2int.l0, if_pos (by simp <;> omega), hm]
    simp (disch := omega) only [w64_one, Option.bind_eq_bind, Option.bind_some, hk]

theorem so2int_ins (ho : Ord3 c) (hc : ∀ x y, P x → P y → cmp x y = some (c x y)) (a b : Nat) (l : List Pr) (hl : Ok P l) (h1 : a ≤ b) (h2 : b ≤ l.length) :
    ∃ m, PL.slices_insertionSortCmpFunc_2int l a b cmp = some m ∧ Part l m a b ∧ srt c m a b := by
  have hlen := hl.len
  obtain ⟨m, hm, hp, hs⟩ := so2int_ins_l0 ho hc a b _ (a + 1) l rfl hl (by omega) h2 (srt.one (by omega))
  refine ⟨m, ?_, hp, hs⟩
  unfold PL.slices_insertionSortCmpFunc_2int
  simp (disch := omega) only [w64_one, hm, Option.bind_eq_bind, Option.bind_some]

/-! ### heapSort -/
theorem so2int_sift_l0 (ho : Ord3 c) (hc : ∀ x y, P x → P y → cmp x y = some (c x y)) (a lo hi : Nat) : ∀ (n r : Nat) (l : List Pr), hi - r ≤ n → Ok P l → a + hi ≤ l.length → lo ≤ r →
    (∀ k, lo ≤ k → k ≠ r → ∀ d, d = 2 * k + 1 ∨ d = 2 * k + 2 → d < hi → ¬ c (el l (a + k)) (el l (a + d)) < 0) →
    (∀ k, lo ≤ k → r = 2 * k + 1 ∨ r = 2 * k + 2 → ∀ d, d = 2 * r + 1 ∨ d = 2 * r + 2 → d < hi → ¬ c (el l (a + k)) (el l (a + d)) < 0) → r ≤ 100000 →
    ∃ m, (PL.slices_siftDownCmpFunc_2int.l0 cmp hi a l r = some (.inl m) ∨ PL.slices_siftDownCmpFunc_2int.l0 cmp hi a l r = some (.inr m)) ∧ Part l m a (a + hi) ∧ heap c m a lo hi := by
  intro n
  induction n with
  | zero =>
    intro r l hn hl h1 h2 h3 h4 hr
    refine ⟨l, .inl ?_, .refl .., fun k hk d hd hh => ?_⟩
    · rw [PL.slices_siftDownCmpFunc_2int.l0]
      simp (disch := omega) only [w64_dbl, w64_one]
      rw [if_pos (by simp <;> omega)]
    · by_cases ck : k = r
      · omega
      · exact h3 k hk ck d hd hh
  | succ n ih =>
    intro r l hn hl h1 h2 h3 h4 hr
    have hlen := hl.len
    rw [PL.slices_siftDownCmpFunc_2int.l0]
    simp (disch := omega) only [w64_dbl, w64_one]
    by_cases c1 : 2 * r + 1 ≥ hi
    · refine ⟨l, .inl ?_, .refl .., fun k hk d hd hh => ?_⟩
      · rw [if_pos (by simp <;> omega)]
      · by_cases ck : k = r
        · omega
        · exact h3 k hk ck d hd hh
    · rw [if_neg (by simp <;> omega)]
      have iR : a + r < l.length := by omega
      have done : ∀ d, (d = 2 * r + 1 ∨ d = 2 * r + 2) → (∀ x, x = 2 * r + 1 ∨ x = 2 * r + 2 → x < hi → ¬ c (el l (a + d)) (el l (a + x)) < 0) → ¬ c (el l (a + r)) (el l (a + d)) < 0 → heap c l a lo hi := by
        intro d hd hg hx k hk x hx1 hxh
        by_cases ck : k = r
        · subst ck; exact ho.tr _ _ _ (hg x hx1 hxh) hx
        · exact h3 k hk ck x hx1 hxh
      have step : ∀ d, (d = 2 * r + 1 ∨ d = 2 * r + 2) → d < hi → (∀ x, x = 2 * r + 1 ∨ x = 2 * r + 2 → x < hi → ¬ c (el l (a + d)) (el l (a + x)) < 0) → c (el l (a + r)) (el l (a + d)) < 0 →
          ∃ m, (PL.slices_siftDownCmpFunc_2int.l0 cmp hi a (sw l (a + r) (a + d)) d = some (.inl m) ∨ PL.slices_siftDownCmpFunc_2int.l0 cmp hi a (sw l (a + r) (a + d)) d = some (.inr m)) ∧ Part l m a (a + hi) ∧ heap c m a lo hi := by
        intro d hd hdh hg hx
        have iD : a + d < l.length := by omega
        have hP : Part l (sw l (a + r) (a + d)) a (a + hi) := .sw iR iD (by omega) (by omega) (by omega) (by omega)
        obtain ⟨q1, q2⟩ := heap_step ho h1 h2 hd hdh hg hx h3 h4
        obtain ⟨m, hm, hp, hh⟩ := ih d (sw l (a + r) (a + d)) (by omega) (hP.ok hl) (by rw [sw_len]; exact h1) (by omega) q1 q2 (by omega)
        exact ⟨m, hm, hP.trans hp, hh⟩
      by_cases c2 : 2 * r + 1 + 1 < hi
      · rw [if_pos (by simp <;> omega)]
        have e1 := hc _ _ (hl.el (k := a + (2 * r + 1)) (by omega)) (hl.el (k := a + (2 * r + 1) + 1) (by omega))
        simp (disch := omega) only [w64_sum, w64_one, getI_el, Option.bind_eq_bind, Option.bind_some, e1]
        have key : ∃ d, (d = 2 * r + 1 ∨ d = 2 * r + 2) ∧ d < hi ∧ (∀ x, x = 2 * r + 1 ∨ x = 2 * r + 2 → x < hi → ¬ c (el l (a + d)) (el l (a + x)) < 0) ∧
            (if decide (c (el l (a + (2 * r + 1))) (el l (a + (2 * r + 1) + 1)) < 0) = true then some (((2 * r + 1 + 1 : Nat) : Int)) else some ((2 * r + 1 : Nat) : Int)) = some ((d : Nat) : Int) := by
          by_cases cx : c (el l (a + (2 * r + 1))) (el l (a + (2 * r + 1) + 1)) < 0
          · refine ⟨2 * r + 2, .inr rfl, by omega, fun x hx1 hxh => ?_, by rw [if_pos (decide_eq_true cx)]⟩
            rcases hx1 with rfl | rfl
            · exact ho.asym _ _ cx
            · exact ho.irr _
          · refine ⟨2 * r + 1, .inl rfl, by omega, fun x hx1 hxh => ?_, by rw [if_neg (by simpa using cx)]⟩
            rcases hx1 with rfl | rfl
            · exact ho.irr _
            · exact cx
        obtain ⟨d, hd, hdh, hg, he⟩ := key
        rw [he]
        have iD : a + d < l.length := by omega
        have e2 := hc _ _ (hl.el iR) (hl.el iD)
        simp (disch := omega) only [w64_sum, getI_el, Option.bind_some, e2, Int.toNat_natCast]
        by_cases cx : c (el l (a + r)) (el l (a + d)) < 0
        · obtain ⟨m, hm, hp, hh⟩ := step d hd hdh hg cx
          refine ⟨m, ?_, hp, hh⟩
          rw [if_neg (by simpa using cx), getI_el (by simpa using iD)]
          exact hm
        · exact ⟨l, .inr (by rw [if_pos (by simpa using cx)]), .refl .., done d hd hg cx⟩
      · rw [if_neg (by simp <;> omega)]
        have iD : a + (2 * r + 1) < l.length := by omega
        have e2 := hc _ _ (hl.el iR) (hl.el iD)
        have hg : ∀ x, x = 2 * r + 1 ∨ x = 2 * r + 2 → x < hi → ¬ c (el l (a + (2 * r + 1))) (el l (a + x)) < 0 := fun x hx1 hxh => by
          obtain rfl : x = 2 * r + 1 := by omega
          exact ho.irr _
        simp (disch := omega) only [w64_sum, w64_one, getI_el, Option.bind_eq_bind, Option.bind_some, e2, Int.toNat_natCast]
        by_cases cx : c (el l (a + r)) (el l (a + (2 * r + 1))) < 0
        · obtain ⟨m, hm, hp, hh⟩ := step (2 * r + 1) (.inl rfl) (by omega) hg cx
          refine ⟨m, ?_, hp, hh⟩
          rw [if_neg (by simpa using cx), getI_el (by simpa using iD)]
          exact hm
        · exact ⟨l, .inr (by rw [if_pos (by simpa using cx)]), .refl .., done (2 * r + 1) (.inl rfl) hg cx⟩

theorem so2int_sift (ho : Ord3 c) (hc : ∀ x y, P x → P y → cmp x y = some (c x y)) (a r hi : Nat) (l : List Pr) (hl : Ok P l) (h1 : a + hi ≤ l.length) (hr : r ≤ 100000) (h3 : heap c l a (r + 1) hi) :
    ∃ m, PL.slices_siftDownCmpFunc_2int l r hi a cmp = some m ∧ Part l m a (a + hi) ∧ heap c m a r hi := by
  obtain ⟨m, hm, hp, hh⟩ := so2int_sift_l0 ho hc a r hi _ r l (Nat.le_refl _) hl h1 (Nat.le_refl _) (fun k hk hkr => h3 k (by omega)) (fun k hk hkr => by omega) hr
  refine ⟨m, ?_, hp, hh⟩
  unfold PL.slices_siftDownCmpFunc_2int
  rcases hm with hm | hm <;> rw [hm] <;> rfl

theorem so2int_heap_l0 (ho : Ord3 c) (hc : ∀ x y, P x → P y → cmp x y = some (c x y)) (a b : Nat) (hab : a ≤ b) : ∀ (n : Nat) (l : List Pr), Ok P l → b ≤ l.length → n ≤ 100000 → heap c l a n (b - a) →
    ∃ m, PL.slices_heapSortCmpFunc_2int.l0 cmp a b l ((n : Int) - 1) = some m ∧ Part l m a b ∧ heap c m a 0 (b - a) := by
  intro n
  induction n with
  | zero =>
    intro l hl h1 hn h2
    refine ⟨l, ?_, .refl .., h2⟩
    rw [PL.slices_heapSortCmpFunc_2int.l0, if_neg (by simp)]
  | succ n ih =>
    intro l hl h1 hn h2
    have hlen := hl.len
    obtain ⟨m, hm, hp, hh⟩ := so2int_sift ho hc a n (b - a) l hl (by omega) (by omega) h2
    rw [show a + (b - a) = b by omega] at hp
    obtain ⟨q, hq, qp, qh⟩ := ih m (hp.ok hl) (by rw [hp.len]; exact h1) (by omega) hh
    refine ⟨q, ?_, hp.trans qp, qh⟩
    rw [PL.slices_heapSortCmpFunc_2int.l0, if_pos (by simp <;> omega), show (((n + 1 : Nat) : Int) - 1) = (n : Int) by omega]
    rw [w64_dif b a hab (by omega), hm, w64_id (x := (n : Int) - 1) (by omega) (by omega)]
    exact hq

theorem so2int_heap_l1 (ho : Ord3 c) (hc : ∀ x y, P x → P y → cmp x y = some (c x y)) (a b : Nat) : ∀ (n : Nat) (l : List Pr), Ok P l → b ≤ l.length → a + n ≤ b → heap c l a 0 n → srt c l (a + n) b → (∀ p q, a ≤ p → p < a + n → a + n ≤ q → q < b → ¬ c (el l q) (el l p) < 0) →
    ∃ m, PL.slices_heapSortCmpFunc_2int.l1 cmp a l ((n : Int) - 1) = some m ∧ Part l m a b ∧ srt c m a b := by
  intro n
  induction n with
  | zero =>
    intro l hl h1 h2 h3 h4 h5
    refine ⟨l, ?_, .refl .., h4⟩
    rw [PL.slices_heapSortCmpFunc_2int.l1, if_neg (by simp)]
  | succ n ih =>
    intro l hl h1 h2 h3 h4 h5
    have hlen := hl.len
    have ia : a < l.length := by omega
    have ib : a + n < l.length := by omega
    have hP : Part l (sw l a (a + n)) a (a + (n + 1)) := .sw ia ib (by omega) (by omega) (by omega) (by omega)
    have top := heap_top ho h3
    obtain ⟨m, hm, hp, hh⟩ := so2int_sift ho hc a 0 n (sw l a (a + n)) (hP.ok hl) (by rw [sw_len]; omega) (by omega) (fun k hk d hd hdh => by
      rw [sw_el ia ib, sw_el ia ib, if_neg (by omega), if_neg (by omega), if_neg (by omega), if_neg (by omega)]
      exact h3 k (by omega) d hd (by omega))
    have hPm : Part l m a (a + (n + 1)) := hP.trans (hp.mono (Nat.le_refl _) (by omega))
    have e1 : el m (a + n) = el l a := by rw [hp.out _ (by omega), sw_el ia ib, if_pos rfl]
    obtain ⟨q, hq, qp, qs⟩ := ih m (hPm.ok hl) (by rw [hPm.len]; exact h1) (by omega) hh
      (fun p q hp1 hpq hqb => by
        by_cases cp : p = a + n
        · subst cp
          rw [e1, hPm.out q (by omega)]
          exact h5 a q (by omega) (by omega) (by omega) hqb
        · rw [hPm.out q (by omega), hPm.out p (by omega)]
          exact h4 p q (by omega) hpq hqb)
      (fun p q hp1 hpn hq hqb => by
        by_cases cq : q = a + n
        · subst cq
          rw [e1]
          have := hp.all (fun z => ¬ c (el l a) z < 0) (fun k hk hkn => by
            show ¬ c (el l a) (el (sw l a (a + n)) k) < 0
            rw [sw_el ia ib, if_neg (by omega)]
            by_cases ck : k = a
            · rw [if_pos ck]; exact top n n (Nat.le_refl _) (by omega)
            · rw [if_neg ck]
              have := top (k - a) (k - a) (Nat.le_refl _) (by omega)
              rwa [show a + (k - a) = k by omega] at this) p hp1 (by omega)
          exact this
        · rw [hPm.out q (by omega)]
          have := hPm.all (fun z => ¬ c (el l q) z < 0) (fun k hk hkn => h5 k q hk hkn (by omega) hqb) p hp1 (by omega)
          exact this)
    refine ⟨q, ?_, (hPm.mono (Nat.le_refl _) (by omega)).trans qp, qs⟩
    rw [PL.slices_heapSortCmpFunc_2int.l1, if_pos (by simp <;> omega), show (((n + 1 : Nat) : Int) - 1) = (n : Int) by omega]
    simp (disch := omega) only [w64_sum, getI_el, Option.bind_eq_bind, Option.bind_some, Int.toNat_natCast]
    rw [getI_el (by simpa using ib), w64_id (x := (n : Int) - 1) (by omega) (by omega)]
    have hm' : PL.slices_siftDownCmpFunc_2int ((l.set a (el l (a + n))).set (a + n) (el l a)) 0 n a cmp = some m := hm
    simp only [Option.bind_some, hm']
    exact hq

theorem so2int_heapSort (ho : Ord3 c) (hc : ∀ x y, P x → P y → cmp x y = some (c x y)) (a b : Nat) (l : List Pr) (hl : Ok P l) (h1 : a < b) (h2 : b ≤ l.length) :
    ∃ m, PL.slices_heapSortCmpFunc_2int l a b cmp = some m ∧ Part l m a b ∧ srt c m a b := by
  have hlen := hl.len
  obtain ⟨m, hm, hp, hh⟩ := so2int_heap_l0 ho hc a b (by omega) ((b - a - 1) / 2 + 1) l hl h2 (by omega) (fun k hk d hd hdh => by omega)
  obtain ⟨q, hq, qp, qs⟩ := so2int_heap_l1 ho hc a b (b - a) m (hp.ok hl) (by rw [hp.len]; exact h2) (by omega) hh (srt.one (by omega)) (fun p q h1 h2 h3 h4 => by omega)
  refine ⟨q, ?_, hp.trans qp, qs⟩
  unfold PL.slices_heapSortCmpFunc_2int
  have e1 : w64 ((w64 ((b : Int) - a)) - 1) = ((b - a - 1 : Nat) : Int) := by rw [w64_dif b a (by omega) (by omega), w64_pred _ (by omega) (by omega)]
  have e2 : w64 (Int.tdiv ((b - a - 1 : Nat) : Int) 2) = (((b - a - 1) / 2 + 1 : Nat) : Int) - 1 := by
    rw [show (2 : Int) = ((2 : Nat) : Int) from rfl, ← Int.ofNat_tdiv, w64_id (by omega) (by omega)]; omega
  rw [e1, e2, hm]
  have e3 : ((b - a - 1 : Nat) : Int) = ((b - a : Nat) : Int) - 1 := by omega
  simp only [Option.bind_eq_bind, Option.bind_some, e3, hq]
end Go.AV
