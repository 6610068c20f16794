/- Sorting of Pr: partition, pdqsort, SortFunc. -/
import Derived.Test.YtgclbdndnbgnoaaDoorSd
namespace Go.AV
set_option linter.all false
variable {P : Pr → Prop} {c : Pr → Pr → Int} {cmp : Pr → Pr → Option Int}

/-! ### partition: the two pairs of inner loops are alike -/
theorem so2int_par_l3 (hc : ∀ x y, P x → P y → cmp x y = some (c x y)) (a j : Nat) (l : List Pr) (hl : Ok P l) (hj : j < l.length) (ha : a < l.length) : ∀ (n i : Nat), j + 1 - i = n → i ≤ j + 1 →
    ∃ k : Nat, PL.slices_partitionCmpFunc_2int.l3 cmp a l j i = some (k : Int) ∧ i ≤ k ∧ k ≤ j + 1 ∧ (∀ x, i ≤ x → x < k → c (el l x) (el l a) < 0) ∧ (k ≤ j → ¬ c (el l k) (el l a) < 0) := by
  intro n
  have hlen := hl.len
  induction n with
  | zero =>
    intro i hn hi
    refine ⟨i, ?_, Nat.le_refl _, hi, fun x h1 h2 => by omega, by omega⟩
    rw [PL.slices_partitionCmpFunc_2int.l3, if_neg (by simp <;> omega)]
  | succ n ih =>
    intro i hn hi
    have e1 := hc _ _ (hl.el (k := i) (by omega)) (hl.el ha)
    rw [PL.slices_partitionCmpFunc_2int.l3, if_pos (by simp <;> omega)]
    simp (disch := omega) only [getI_el, w64_one, Option.bind_eq_bind, Option.bind_some, e1]
    by_cases cx : c (el l i) (el l a) < 0
    · obtain ⟨k, hk, k1, k2, k3, k4⟩ := ih (i + 1) (by omega) (by omega)
      refine ⟨k, by rw [if_pos (by simpa using cx), hk], by omega, k2, fun x hx hy => ?_, k4⟩
      by_cases c2 : x = i
      · subst c2; exact cx
      · exact k3 x (by omega) hy
    · exact ⟨i, by rw [if_neg (by simpa using cx)], Nat.le_refl _, hi, fun x h1 h2 => by omega, fun _ => cx⟩
theorem so2int_par_l4 (hc : ∀ x y, P x → P y → cmp x y = some (c x y)) (a i : Nat) (hi : 1 ≤ i) (l : List Pr) (hl : Ok P l) (ha : a < l.length) : ∀ (n j : Nat), j + 1 - i = n → i ≤ j + 1 → j < l.length →
    ∃ k : Nat, PL.slices_partitionCmpFunc_2int.l4 cmp a l i j = some (k : Int) ∧ k ≤ j ∧ i ≤ k + 1 ∧ (∀ x, k < x → x ≤ j → ¬ c (el l x) (el l a) < 0) ∧ (i ≤ k → c (el l k) (el l a) < 0) := by
  intro n
  have hlen := hl.len
  induction n with
  | zero =>
    intro j hn hi hj
    refine ⟨j, ?_, Nat.le_refl _, hi, fun x h1 h2 => by omega, by omega⟩
    rw [PL.slices_partitionCmpFunc_2int.l4, if_neg (by simp <;> omega)]
  | succ n ih =>
    intro j hn hi hj
    have e1 := hc _ _ (hl.el (k := j) (by omega)) (hl.el ha)
    rw [PL.slices_partitionCmpFunc_2int.l4, if_pos (by simp <;> omega)]
    simp (disch := omega) only [getI_el, w64_pred, Option.bind_eq_bind, Option.bind_some, e1]
    by_cases cx : c (el l j) (el l a) < 0
    · exact ⟨j, by rw [if_neg (by simpa using cx)], Nat.le_refl _, by omega, fun x h1 h2 => by omega, fun _ => cx⟩
    · obtain ⟨k, hk, k1, k2, k3, k4⟩ := ih (j - 1) (by omega) (by omega) (by omega)
      refine ⟨k, by rw [if_pos (by simpa using cx), hk], by omega, k2, fun x hx hy => ?_, k4⟩
      by_cases c2 : x = j
      · subst c2; exact cx
      · exact k3 x hx (by omega)
theorem so2int_par_l0 (hc : ∀ x y, P x → P y → cmp x y = some (c x y)) (a b p : Nat) (l0 : List Pr) (hl : Ok P (sw l0 a p)) (hb : b ≤ (sw l0 a p).length) (hb1 : 1 ≤ b) (ha : a < (sw l0 a p).length) : ∀ (n i : Nat), b - i = n → i ≤ b →
    ∃ k : Nat, PL.slices_partitionCmpFunc_2int.l0 cmp l0 a b p (el l0 p) (el l0 a) i = some (k : Int) ∧ i ≤ k ∧ k ≤ b ∧ (∀ x, i ≤ x → x < k → c (el (sw l0 a p) x) (el (sw l0 a p) a) < 0) ∧ (k < b → ¬ c (el (sw l0 a p) k) (el (sw l0 a p) a) < 0) := by
  intro n
  have hlen := hl.len
  induction n with
  | zero =>
    intro i hn hi
    refine ⟨i, ?_, Nat.le_refl _, hi, fun x h1 h2 => by omega, by omega⟩
    rw [PL.slices_partitionCmpFunc_2int.l0, w64_pred b (by omega) (by omega), if_neg (by simp <;> omega)]
  | succ n ih =>
    intro i hn hi
    have e1 := hc _ _ (hl.el (k := i) (by omega)) (hl.el ha)
    rw [PL.slices_partitionCmpFunc_2int.l0, w64_pred b (by omega) (by omega), if_pos (by simp <;> omega)]
    simp only [Int.toNat_natCast]
    change ∃ k : Nat, (getI (sw l0 a p) _ >>= fun _ => getI (sw l0 a p) _ >>= _) = _ ∧ _
    simp (disch := omega) only [getI_el, w64_one, Option.bind_eq_bind, Option.bind_some, e1]
    by_cases cx : c (el (sw l0 a p) i) (el (sw l0 a p) a) < 0
    · obtain ⟨k, hk, k1, k2, k3, k4⟩ := ih (i + 1) (by omega) (by omega)
      refine ⟨k, by rw [if_pos (by simpa using cx), hk], by omega, k2, fun x hx hy => ?_, k4⟩
      by_cases c2 : x = i
      · subst c2; exact cx
      · exact k3 x (by omega) hy
    · exact ⟨i, by rw [if_neg (by simpa using cx)], Nat.le_refl _, hi, fun x h1 h2 => by omega, fun _ => cx⟩
theorem so2int_par_l1 (hc : ∀ x y, P x → P y → cmp x y = some (c x y)) (a i p : Nat) (hi : 1 ≤ i) (l0 : List Pr) (hl : Ok P (sw l0 a p)) (ha : a < (sw l0 a p).length) : ∀ (n j : Nat), j + 1 - i = n → i ≤ j + 1 → j < (sw l0 a p).length →
    ∃ k : Nat, PL.slices_partitionCmpFunc_2int.l1 cmp l0 a p (el l0 p) (el l0 a) i j = some (k : Int) ∧ k ≤ j ∧ i ≤ k + 1 ∧ (∀ x, k < x → x ≤ j → ¬ c (el (sw l0 a p) x) (el (sw l0 a p) a) < 0) ∧ (i ≤ k → c (el (sw l0 a p) k) (el (sw l0 a p) a) < 0) := by
  intro n
  have hlen := hl.len
  induction n with
  | zero =>
    intro j hn hi hj
    refine ⟨j, ?_, Nat.le_refl _, hi, fun x h1 h2 => by omega, by omega⟩
    rw [PL.slices_partitionCmpFunc_2int.l1, if_neg (by simp <;> omega)]
  | succ n ih =>
    intro j hn hi hj
    have e1 := hc _ _ (hl.el (k := j) (by omega)) (hl.el ha)
    rw [PL.slices_partitionCmpFunc_2int.l1, if_pos (by simp <;> omega)]
    simp only [Int.toNat_natCast]
    change ∃ k : Nat, (getI (sw l0 a p) _ >>= fun _ => getI (sw l0 a p) _ >>= _) = _ ∧ _
    simp (disch := omega) only [getI_el, w64_pred, Option.bind_eq_bind, Option.bind_some, e1]
    by_cases cx : c (el (sw l0 a p) j) (el (sw l0 a p) a) < 0
    · exact ⟨j, by rw [if_neg (by simpa using cx)], Nat.le_refl _, by omega, fun x h1 h2 => by omega, fun _ => cx⟩
    · obtain ⟨k, hk, k1, k2, k3, k4⟩ := ih (j - 1) (by omega) (by omega) (by omega)
      refine ⟨k, by rw [if_pos (by simpa using cx), hk], by omega, k2, fun x hx hy => ?_, k4⟩
      by_cases c2 : x = j
      · subst c2; exact cx
      · exact k3 x hx (by omega)

theorem so2int_par_l2 (hc : ∀ x y, P x → P y → cmp x y = some (c x y)) (a b : Nat) : ∀ (n i j : Nat) (l : List Pr), j + 1 - i ≤ n → Ok P l → a < i → i ≤ j + 1 → j < b → b ≤ l.length →
    (∀ x, a < x → x < i → c (el l x) (el l a) < 0) → (∀ x, j < x → x < b → ¬ c (el l x) (el l a) < 0) →
    ∃ m k, PL.slices_partitionCmpFunc_2int.l2 cmp a l i j = some (m, ((k : Nat) : Int)) ∧ Part l m (a + 1) b ∧ a ≤ k ∧ k < b ∧ (∀ x, a < x → x ≤ k → c (el m x) (el m a) < 0) ∧ (∀ x, k < x → x < b → ¬ c (el m x) (el m a) < 0) := by
  intro n
  induction n with
  | zero =>
    intro i j l hn hl h1 h2 h3 h4 h5 h6
    have hlen := hl.len
    obtain ⟨i', hi, i1, i2, i3, i4⟩ := so2int_par_l3 hc a j l hl (by omega) (by omega) _ i rfl h2
    obtain ⟨j', hj, j1, j2, j3, j4⟩ := so2int_par_l4 hc a i' (by omega) l hl (by omega) _ j rfl i2 (by omega)
    rw [PL.slices_partitionCmpFunc_2int.l2, hi]
    simp only [Option.bind_eq_bind, Option.bind_some, hj]
    refine ⟨l, j', by rw [if_pos (by simp <;> omega)], .refl .., by omega, by omega, fun x hx hy => ?_, fun x hx hy => ?_⟩
    · by_cases cz : x < i
      · exact h5 x hx cz
      · exact i3 x (by omega) (by omega)
    · by_cases cz : j < x
      · exact h6 x cz hy
      · exact j3 x (by omega) (by omega)
  | succ n ih =>
    intro i j l hn hl h1 h2 h3 h4 h5 h6
    have hlen := hl.len
    obtain ⟨i', hi, i1, i2, i3, i4⟩ := so2int_par_l3 hc a j l hl (by omega) (by omega) _ i rfl h2
    obtain ⟨j', hj, j1, j2, j3, j4⟩ := so2int_par_l4 hc a i' (by omega) l hl (by omega) _ j rfl i2 (by omega)
    rw [PL.slices_partitionCmpFunc_2int.l2, hi]
    simp only [Option.bind_eq_bind, Option.bind_some, hj]
    have low : ∀ x, a < x → x < i' → c (el l x) (el l a) < 0 := fun x hx hy => by
      by_cases cz : x < i
      · exact h5 x hx cz
      · exact i3 x (by omega) hy
    have high : ∀ x, j' < x → x < b → ¬ c (el l x) (el l a) < 0 := fun x hx hy => by
      by_cases cz : j < x
      · exact h6 x cz hy
      · exact j3 x (by omega) (by omega)
    by_cases cx : i' > j'
    · exact ⟨l, j', by rw [if_pos (by simp <;> omega)], .refl .., by omega, by omega, fun x hx hy => low x hx (by omega), high⟩
    · rw [if_neg (by simp <;> omega)]
      have ne : i' ≠ j' := fun e => by
        subst e; exact i4 (by omega) (j4 (Nat.le_refl _))
      have hil : i' < l.length := by omega
      have hjl : j' < l.length := by omega
      simp (disch := omega) only [getI_el, Option.bind_some, Int.toNat_natCast, w64_one, w64_pred]
      rw [getI_el (by simpa using hjl)]
      have hP : Part l (sw l i' j') (a + 1) b := .sw hil hjl (by omega) (by omega) (by omega) (by omega)
      have ea : el (sw l i' j') a = el l a := hP.out a (by omega)
      obtain ⟨m, k, hm, mp, k1, k2, k3, k4⟩ := ih (i' + 1) (j' - 1) (sw l i' j') (by omega) (hP.ok hl) (by omega) (by omega) (by omega) (by rw [sw_len]; exact h4)
        (fun x hx hy => by
          rw [ea, sw_el hil hjl, if_neg (by omega)]
          by_cases cz : x = i'
          · rw [if_pos cz]; exact j4 (by omega)
          · rw [if_neg cz]; exact low x hx (by omega))
        (fun x hx hy => by
          rw [ea, sw_el hil hjl]
          by_cases cz : x = j'
          · rw [if_pos cz]; exact i4 (by omega)
          · rw [if_neg cz, if_neg (by omega)]; exact high x (by omega) hy)
      exact ⟨m, k, hm, hP.trans mp, k1, k2, k3, k4⟩

/-- The last step: the pivot goes between. -/
theorem so2int_fin {l : List Pr} {a b k : Nat} (hk : k < l.length) (h1 : a ≤ k) (h2 : k < b) (hlow : ∀ x, a < x → x ≤ k → c (el l x) (el l a) < 0) (hhigh : ∀ x, k < x → x < b → ¬ c (el l x) (el l a) < 0) :
    Part l (sw l k a) a b ∧ (∀ x, a ≤ x → x < k → c (el (sw l k a) x) (el (sw l k a) k) < 0) ∧ (∀ x, k < x → x < b → ¬ c (el (sw l k a) x) (el (sw l k a) k) < 0) := by
  have hal : a < l.length := by omega
  have ek : el (sw l k a) k = el l a := by
    rw [sw_el hk hal]
    by_cases cz : k = a
    · rw [if_pos cz, cz]
    · rw [if_neg cz, if_pos rfl]
  refine ⟨.sw hk hal h1 h2 (Nat.le_refl _) (by omega), fun x hx hy => ?_, fun x hx hy => ?_⟩
  · rw [ek, sw_el hk hal]
    by_cases cz : x = a
    · rw [if_pos cz]; exact hlow k (by omega) (Nat.le_refl _)
    · rw [if_neg cz, if_neg (by omega)]; exact hlow x (by omega) (by omega)
  · rw [ek, sw_el hk hal, if_neg (by omega), if_neg (by omega)]; exact hhigh x hx hy

theorem so2int_par (ho : Ord3 c) (hc : ∀ x y, P x → P y → cmp x y = some (c x y)) (a b p : Nat) (l : List Pr) (hl : Ok P l) (h1 : a ≤ p) (h2 : p < b) (h3 : b ≤ l.length) :
    ∃ m k t, PL.slices_partitionCmpFunc_2int l a b p cmp = some (((k : Nat) : Int), t, m) ∧ Part l m a b ∧ a ≤ k ∧ k < b ∧ (∀ x, a ≤ x → x < k → c (el m x) (el m k) < 0) ∧ (∀ x, k < x → x < b → ¬ c (el m x) (el m k) < 0) := by
  have hlen := hl.len
  have hal : a < l.length := by omega
  have hpl : p < l.length := by omega
  have hP : Part l (sw l a p) a b := .sw hal hpl (by omega) (by omega) (by omega) (by omega)
  have hl' := hP.ok hl
  unfold PL.slices_partitionCmpFunc_2int
  simp (disch := omega) only [getI_el, Option.bind_eq_bind, Option.bind_some, Int.toNat_natCast, w64_one, w64_pred]
  rw [getI_el (l := l.set a (el l p)) (by simpa using hpl)]
  obtain ⟨i', hi, i1, i2, i3, i4⟩ := so2int_par_l0 hc a b p l hl' (by rw [sw_len]; exact h3) (by omega) (by rw [sw_len]; exact hal) _ (a + 1) rfl (by omega)
  obtain ⟨j', hj, j1, j2, j3, j4⟩ := so2int_par_l1 hc a i' p (by omega) l hl' (by rw [sw_len]; exact hal) _ (b - 1) rfl (by omega) (by rw [sw_len]; omega)
  simp only [Option.bind_some, hi, hj]
  have es : (l.set a (el l p)).set p (el l a) = sw l a p := rfl
  simp only [es]
  have hil : i' ≤ b := i2
  have hjl : j' < (sw l a p).length := by rw [sw_len]; omega
  have hal' : a < (sw l a p).length := by rw [sw_len]; exact hal
  have low : ∀ x, a < x → x < i' → c (el (sw l a p) x) (el (sw l a p) a) < 0 := fun x hx hy => i3 x (by omega) hy
  have high : ∀ x, j' < x → x < b → ¬ c (el (sw l a p) x) (el (sw l a p) a) < 0 := fun x hx hy => j3 x (by omega) (by omega)
  by_cases cx : i' > j'
  · rw [if_pos (by simp <;> omega)]
    rw [getI_el hal', getI_el hjl]
    simp only [Option.bind_some]
    rw [getI_el (by simpa using hal')]
    obtain ⟨f1, f2, f3⟩ := so2int_fin hjl (by omega) (by omega : j' < b) (fun x hx hy => low x hx (by omega)) high
    exact ⟨sw (sw l a p) j' a, j', true, rfl, hP.trans f1, by omega, by omega, f2, f3⟩
  · rw [if_neg (by simp <;> omega)]
    have hil' : i' < (sw l a p).length := by omega
    have ne : i' ≠ j' := fun e => by
      subst e; exact i4 (by omega) (j4 (Nat.le_refl _))
    rw [getI_el hjl, getI_el hil']
    simp (disch := omega) only [Option.bind_some, Int.toNat_natCast, w64_one, w64_pred]
    rw [getI_el (by simpa using hjl)]
    have hP2 : Part (sw l a p) (sw (sw l a p) i' j') (a + 1) b := .sw hil' hjl (by omega) (by omega) (by omega) (by omega)
    have ea : el (sw (sw l a p) i' j') a = el (sw l a p) a := hP2.out a (by omega)
    obtain ⟨m, k, hm, mp, k1, k2, k3, k4⟩ := so2int_par_l2 hc a b _ (i' + 1) (j' - 1) (sw (sw l a p) i' j') (Nat.le_refl _) (hP2.ok hl') (by omega) (by omega) (by omega) (by rw [sw_len, sw_len]; exact h3)
      (fun x hx hy => by
        rw [ea, sw_el hil' hjl, if_neg (by omega)]
        by_cases cz : x = i'
        · rw [if_pos cz]; exact j4 (by omega)
        · rw [if_neg cz]; exact low x hx (by omega))
      (fun x hx hy => by
        rw [ea, sw_el hil' hjl]
        by_cases cz : x = j'
        · rw [if_pos cz]; exact i4 (by omega)
        · rw [if_neg cz, if_neg (by omega)]; exact high x (by omega) hy)
    have hm' : PL.slices_partitionCmpFunc_2int.l2 cmp a (((sw l a p).set i' (el (sw l a p) j')).set j' (el (sw l a p) i')) ((i' + 1 : Nat) : Int) ((j' - 1 : Nat) : Int) = some (m, (k : Int)) := hm
    simp only [Option.bind_some, hm']
    have hml : m.length = l.length := by rw [mp.len, sw_len, sw_len]
    rw [getI_el (show a < m.length by omega), getI_el (show k < m.length by omega)]
    simp only [Option.bind_some, Int.toNat_natCast]
    rw [getI_el (by simp <;> omega)]
    obtain ⟨f1, f2, f3⟩ := so2int_fin (c := c) (show k < m.length by omega) k1 k2 k3 k4
    exact ⟨sw m k a, k, false, rfl, (hP.trans ((hP2.trans mp).mono (by omega) (Nat.le_refl _))).trans f1, k1, k2, f2, f3⟩

/-! ### pdqsort -/
/-- Three sorted parts, one behind the other. -/
theorem so2int_join (ho : Ord3 c) {m : List Pr} {a b k : Nat} (hs1 : srt c m a k) (hs2 : srt c m (k + 1) b) (h1 : ∀ x, a ≤ x → x < k → ¬ c (el m k) (el m x) < 0) (h2 : ∀ x, k < x → x < b → ¬ c (el m x) (el m k) < 0) : srt c m a b := by
  intro p q hp hq hb
  by_cases cp : p < k
  · by_cases cq : q < k
    · exact hs1 p q hp hq cq
    · have l1 := h1 p hp cp
      by_cases ck : q = k
      · rw [ck]; exact l1
      · exact ho.tr _ _ _ l1 (h2 q (by omega) hb)
  · by_cases ck : p = k
    · rw [ck]; exact h2 q (by omega) hb
    · exact hs2 p q (by omega) hq hb

theorem so2int_pdq (ho : Ord3 c) (hc : ∀ x y, P x → P y → cmp x y = some (c x y)) : ∀ (n a b : Nat) (l : List Pr) (limit : Int) (wb wp : Bool), b - a ≤ n → Ok P l → a ≤ b → b ≤ l.length → hdd c l a b →
    ∃ m, PL.slices_pdqsortCmpFunc_2int.l0 cmp l a b limit wb wp = some m ∧ Part l m a b ∧ srt c m a b := by
  intro n
  induction n with
  | zero =>
    intro a b l limit wb wp hn hl h1 h2 h3
    have hlen := hl.len
    obtain ⟨m, hm, hp, hs⟩ := so2int_ins ho hc a b l hl h1 h2
    refine ⟨m, ?_, hp, hs⟩
    rw [PL.slices_pdqsortCmpFunc_2int.l0, w64_dif b a h1 (by omega), if_pos (by simp <;> omega), hm]
    rfl
  | succ n ih =>
    intro a b l limit wb wp hn hl h1 h2 h3
    have hlen := hl.len
    by_cases c12 : b - a ≤ 12
    · obtain ⟨m, hm, hp, hs⟩ := so2int_ins ho hc a b l hl h1 h2
      refine ⟨m, ?_, hp, hs⟩
      rw [PL.slices_pdqsortCmpFunc_2int.l0, w64_dif b a h1 (by omega), if_pos (by simp <;> omega), hm]
      rfl
    · have hab : a < b := by omega
      rw [PL.slices_pdqsortCmpFunc_2int.l0, w64_dif b a h1 (by omega), if_neg (by simp <;> omega)]
      by_cases cl : limit = 0
      · obtain ⟨m, hm, hp, hs⟩ := so2int_heapSort ho hc a b l hl hab h2
        refine ⟨m, ?_, hp, hs⟩
        rw [if_pos (by simp [cl]), hm]
        rfl
      · rw [if_neg (by simpa using cl)]
        -- the patterns
        obtain ⟨l1, lim1, e1, p1⟩ : ∃ l1 lim1, (if (!wb) = true then PL.slices_breakPatternsCmpFunc_2int l a b cmp >>= fun k => some (k, w64 (limit - 1)) else some (l, limit)) = some (l1, lim1) ∧ Part l l1 a b := by
          cases wb with
          | true => exact ⟨l, limit, rfl, .refl ..⟩
          | false =>
            obtain ⟨m, hm, hp⟩ := so2int_brk (cmp := cmp) a b l hl h1 h2
            exact ⟨m, w64 (limit - 1), by rw [hm]; rfl, hp⟩
        rw [e1]
        have ok1 := p1.ok hl
        obtain ⟨pv, hint, e2, pv1, pv2⟩ := so2int_choose hc l1 ok1 a b hab (by rw [p1.len]; exact h2)
        simp only [Option.bind_eq_bind, Option.bind_some, e2]
        obtain ⟨l2, pw, hint2, e3, p2, pw1, pw2⟩ : ∃ (l2 : List Pr) (pw : Nat) (hint2 : Int), (if (hint == 2) = true then (PL.slices_reverseRangeCmpFunc_2int l1 a b cmp).bind fun k => some (k, w64 ((w64 ((b : Int) - 1)) - (w64 ((pv : Int) - a))), (1 : Int)) else some (l1, (pv : Int), hint)) = some (l2, (pw : Int), hint2) ∧ Part l1 l2 a b ∧ a ≤ pw ∧ pw < b := by
          by_cases ch : hint = 2
          · obtain ⟨m, hm, hp⟩ := so2int_rev (cmp := cmp) a b l1 ok1 hab (by rw [p1.len]; exact h2)
            refine ⟨m, b - 1 - (pv - a), 1, ?_, hp, by omega, by omega⟩
            rw [if_pos (by simp [ch]), hm, w64_pred b (by omega) (by omega), w64_dif pv a pv1 (by omega), w64_dif _ _ (by omega) (by omega)]
            rfl
          · exact ⟨l1, pv, hint, by rw [if_neg (by simpa using ch)], .refl .., pv1, pv2⟩
        rw [e3]
        simp only [Option.bind_some]
        have p12 := p1.trans p2
        generalize hz : (if wb = true then if wp = true then some (hint2 == 1) else some false else some false) = zz
        obtain ⟨zb, rfl⟩ : ∃ zb, zz = some zb := by
          subst hz; cases wb <;> cases wp <;> exact ⟨_, rfl⟩
        simp only [Option.bind_some]
        -- what follows a list and a pivot
        have tail : ∀ l3 : List Pr, Part l l3 a b → ∃ m, ((if decide ((a : Int) > 0) = true then (getI l3 (w64 ((a : Int) - 1))).bind fun c_1 => (getI l3 (pw : Int)).bind fun c_2 => (cmp c_1 c_2).bind fun rv => some (!decide (rv < 0)) else some false).bind fun x =>
            if x = true then (PL.slices_partitionEqualCmpFunc_2int l3 a b pw cmp).bind fun z => PL.slices_pdqsortCmpFunc_2int.l0 cmp z.2 z.1 b lim1 wb wp
            else (PL.slices_partitionCmpFunc_2int l3 a b pw cmp).bind fun z =>
              if decide (w64 (z.1 - (a : Int)) < w64 ((b : Int) - z.1)) = true then
                (PL.slices_pdqsortCmpFunc_2int z.2.2 a z.1 lim1 cmp).bind fun k => PL.slices_pdqsortCmpFunc_2int.l0 cmp k (w64 (z.1 + 1)) b lim1 (decide (w64 (z.1 - (a : Int)) ≥ w64 (Int.tdiv ((b - a : Nat) : Int) 8))) z.2.1
              else (PL.slices_pdqsortCmpFunc_2int z.2.2 (w64 (z.1 + 1)) b lim1 cmp).bind fun k => PL.slices_pdqsortCmpFunc_2int.l0 cmp k a z.1 lim1 (decide (w64 ((b : Int) - z.1) ≥ w64 (Int.tdiv ((b - a : Nat) : Int) 8))) z.2.1) = some m ∧ Part l m a b ∧ srt c m a b := by
          intro l3 p3
          have ok3 := p3.ok hl
          have len3 := p3.len
          have hd3 := p3.hdd h3
          obtain ⟨x, hx, hxt⟩ : ∃ x : Bool, (if decide ((a : Int) > 0) = true then (getI l3 (w64 ((a : Int) - 1))).bind fun c_1 => (getI l3 (pw : Int)).bind fun c_2 => (cmp c_1 c_2).bind fun rv => some (!decide (rv < 0)) else some false) = some x ∧ (x = true → 0 < a ∧ ¬ c (el l3 (a - 1)) (el l3 pw) < 0) := by
            by_cases c0 : 0 < a
            · have e := hc _ _ (ok3.el (k := a - 1) (by omega)) (ok3.el (k := pw) (by omega))
              rw [if_pos (by simp <;> omega)]
              simp (disch := omega) only [w64_pred, getI_el, Option.bind_some, e]
              refine ⟨_, rfl, fun h => ⟨c0, by simpa using h⟩⟩
            · exact ⟨false, by rw [if_neg (by simp <;> omega)], fun h => by cases h⟩
          rw [hx]
          simp only [Option.bind_some]
          cases x with
          | true =>
            obtain ⟨ha0, hle⟩ := hxt rfl
            rw [if_pos rfl]
            obtain ⟨m, k, hm, mp, k1, k2, k3, k4, k5⟩ := so2int_peq ho hc a b pw l3 ok3 pw1 pw2 (by omega)
            rw [hm]
            simp only [Option.bind_some]
            have hdm : hdd c m a b := mp.hdd hd3
            -- all in [a, k) are alike
            have alike : ∀ x, a ≤ x → x < k → ¬ c (el m a) (el m x) < 0 ∧ ¬ c (el m x) (el m a) < 0 := fun x hx1 hx2 => by
              refine ⟨k4 x hx1 hx2, ?_⟩
              have q1 := hdm ha0 x hx1 (by omega)
              rw [mp.out (a - 1) (by omega)] at q1
              rw [k3]
              exact ho.tr _ _ _ hle q1
            have up : ∀ x, k ≤ x → x < b → ¬ c (el m x) (el m a) < 0 := fun x hx1 hx2 => ho.asym _ _ (k5 x hx1 hx2)
            have p4 := p3.trans mp
            obtain ⟨q, hq, qp, qs⟩ := ih k b m lim1 wb wp (by omega) (p4.ok hl) k2 (by rw [p4.len]; exact h2) (fun _ x hx1 hx2 => by
              exact ho.tr _ _ _ (alike (k - 1) (by omega) (by omega)).1 (up x hx1 hx2))
            refine ⟨q, hq, p4.trans (qp.mono (by omega) (Nat.le_refl _)), fun u v hu hv hb => ?_⟩
            by_cases cu : u < k
            · rw [qp.out u (by omega)]
              by_cases cv : v < k
              · rw [qp.out v (by omega)]
                exact ho.tr _ _ _ (alike u hu cu).1 (alike v (by omega) cv).2
              · have := qp.all (fun z => ¬ c z (el m u) < 0) (fun y hy1 hy2 => ho.tr _ _ _ (alike u hu cu).1 (up y hy1 hy2)) v (by omega) hb
                exact this
            · exact qs u v (by omega) hv hb
          | false =>
            rw [if_neg (by simp)]
            obtain ⟨m, k, t, hm, mp, k1, k2, k3, k4⟩ := so2int_par ho hc a b pw l3 ok3 pw1 pw2 (by omega)
            rw [hm]
            simp only [Option.bind_some]
            have p4 := p3.trans mp
            have ok4 := p4.ok hl
            have len4 := p4.len
            have hdm : hdd c m a b := p4.hdd h3
            have key : ∀ q : List Pr, Part m q a b → el q k = el m k → (∀ x, a ≤ x → x < k → ¬ c (el q k) (el q x) < 0) → (∀ x, k < x → x < b → ¬ c (el q x) (el q k) < 0) → srt c q a k → srt c q (k + 1) b → Part l q a b ∧ srt c q a b :=
              fun q qp _ h1 h2 s1 s2 => ⟨p4.trans qp, so2int_join ho s1 s2 h1 h2⟩
            by_cases cc : w64 ((k : Int) - a) < w64 ((b : Int) - k)
            · rw [if_pos (decide_eq_true cc)]
              obtain ⟨q, hq, qp, qs⟩ := ih a k m lim1 true true (by omega) ok4 k1 (by omega) (fun h0 x hx hy => hdm h0 x hx (by omega))
              have hq' : PL.slices_pdqsortCmpFunc_2int m a k lim1 cmp = some q := by
                rw [PL.slices_pdqsortCmpFunc_2int, hq]; rfl
              simp only [hq', Option.bind_some]
              rw [w64_one k (by omega)]
              have qpb : Part m q a b := qp.mono (Nat.le_refl _) (by omega)
              obtain ⟨r, hr, rp, rs⟩ := ih (k + 1) b q lim1 (decide (w64 ((k : Int) - (a : Int)) ≥ w64 (Int.tdiv ((b - a : Nat) : Int) 8))) t (by omega) (qpb.ok ok4) (by omega) (by rw [qpb.len, len4]; exact h2) (fun _ x hx hy => by
                rw [qp.out x (by omega), qp.out (k + 1 - 1) (by omega)]
                exact k4 x (by omega) hy)
              have ek : el r k = el m k := by rw [rp.out k (by omega), qp.out k (by omega)]
              refine ⟨r, hr, key r (qpb.trans (rp.mono (by omega) (Nat.le_refl _))) ek (fun x hx hy => ?_) (fun x hx hy => ?_) (rp.srt qs (.inl (by omega))) rs⟩
              · rw [ek, rp.out x (by omega)]
                have := qp.all (fun z => ¬ c (el m k) z < 0) (fun y hy1 hy2 => ho.asym _ _ (k3 y hy1 hy2)) x hx hy
                exact this
              · rw [ek]
                have := rp.all (fun z => ¬ c z (el m k) < 0) (fun y hy1 hy2 => by
                  show ¬ c (el q y) (el m k) < 0
                  rw [qp.out y (by omega)]; exact k4 y (by omega) hy2) x (by omega) hy
                exact this
            · rw [if_neg (by simpa using cc)]
              rw [w64_one k (by omega)]
              obtain ⟨q, hq, qp, qs⟩ := ih (k + 1) b m lim1 true true (by omega) ok4 (by omega) (by omega) (fun _ x hx hy => k4 x (by omega) hy)
              have hq' : PL.slices_pdqsortCmpFunc_2int m ((k + 1 : Nat) : Int) b lim1 cmp = some q := by
                rw [PL.slices_pdqsortCmpFunc_2int, hq]; rfl
              simp only [hq', Option.bind_some]
              have qpb : Part m q a b := qp.mono (by omega) (Nat.le_refl _)
              obtain ⟨r, hr, rp, rs⟩ := ih a k q lim1 (decide (w64 ((b : Int) - (k : Int)) ≥ w64 (Int.tdiv ((b - a : Nat) : Int) 8))) t (by omega) (qpb.ok ok4) (by omega) (by rw [qpb.len, len4]; omega) (fun h0 x hx hy => (qpb.hdd hdm) h0 x hx (by omega))
              have ek : el r k = el m k := by rw [rp.out k (by omega), qp.out k (by omega)]
              refine ⟨r, hr, key r (qpb.trans (rp.mono (Nat.le_refl _) (by omega))) ek (fun x hx hy => ?_) (fun x hx hy => ?_) rs (rp.srt qs (.inr (by omega)))⟩
              · rw [ek]
                have := rp.all (fun z => ¬ c (el m k) z < 0) (fun y hy1 hy2 => by
                  show ¬ c (el m k) (el q y) < 0
                  rw [qp.out y (by omega)]; exact ho.asym _ _ (k3 y hy1 hy2)) x hx hy
                exact this
              · rw [ek, rp.out x (by omega)]
                have := qp.all (fun z => ¬ c z (el m k) < 0) (fun y hy1 hy2 => k4 y (by omega) hy2) x (by omega) hy
                exact this
        cases zb with
        | false =>
          simp only [Bool.false_eq_true, if_false, Option.bind_some]
          exact tail l2 p12
        | true =>
          obtain ⟨t, m, hm, mp, ms⟩ := so2int_pis ho hc a b l2 (p12.ok hl) hab (by rw [p12.len]; exact h2) (p12.hdd h3)
          simp only [if_true, hm, Option.bind_some]
          cases t with
          | true =>
            simp only [if_true, Option.bind_some]
            exact ⟨m, rfl, p12.trans mp, ms rfl⟩
          | false =>
            simp only [Bool.false_eq_true, if_false, Option.bind_some]
            exact tail m (p12.trans mp)

/-- SortFunc: the same elements, in order. -/
theorem so2int_sort (ho : Ord3 c) (hc : ∀ x y, P x → P y → cmp x y = some (c x y)) (l : List Pr) (hl : Ok P l) :
    ∃ m, PL.slices_SortFunc_2int2int l cmp = some m ∧ m.Perm l ∧ srt c m 0 m.length := by
  have hlen := hl.len
  obtain ⟨k, hk, _⟩ := len_ok l.length (by omega)
  obtain ⟨m, hm, hp, hs⟩ := so2int_pdq ho hc _ 0 l.length l k true true (Nat.le_refl _) hl (by omega) (Nat.le_refl _) (fun h => by omega)
  refine ⟨m, ?_, hp.p, by rw [hp.len]; exact hs⟩
  unfold PL.slices_SortFunc_2int2int
  rw [wrap_u64_id (by omega) (by omega), hk]
  simp only [Option.bind_eq_bind, Option.bind_some]
  have hm' : PL.slices_pdqsortCmpFunc_2int l 0 l.length k cmp = some m := by
    rw [PL.slices_pdqsortCmpFunc_2int]
    rw [show ((0 : Nat) : Int) = 0 from rfl] at hm
    rw [hm]; rfl
  rw [hm']
  rfl
end Go.AV
