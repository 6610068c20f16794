/- Sorting of Pr: pivots, patterns, reversing, partial insertion sort. -/
import Derived.Test.YtgclbdndnbgnoaaDoorSb
namespace Go.AV
set_option linter.all false
variable {P : Pr → Prop} {c : Pr → Pr → Int} {cmp : Pr → Pr → Option Int}

/-! ### Bits -/
theorem tab_ok : ∀ i : Fin 256, i.val < 2 ^ (k_t256_52136.get! i.val).toNat ∧ (0 < i.val → 2 ^ (k_t256_52136.get! i.val).toNat ≤ 2 * i.val) ∧ (k_t256_52136.get! i.val).toNat ≤ 8 := by decide +kernel
theorem tab_size : (k_t256_52136.size : Int) = 256 := by decide +kernel
theorem len_ok (n : Nat) (h : n < 65536) : ∃ k : Nat, PL.math_bits_Len (n : Int) = some (k : Int) ∧ n < 2 ^ k ∧ (0 < n → 2 ^ k ≤ 2 * n) ∧ k ≤ 16 := by
  unfold PL.math_bits_Len PL.math_bits_Len64
  rw [if_neg (by simp <;> omega)]
  simp only [Option.bind_eq_bind, Option.bind_some]
  rw [if_neg (by simp <;> omega)]
  simp only [Option.bind_eq_bind, Option.bind_some]
  by_cases c1 : n ≥ 256
  · rw [if_pos (by simp <;> omega)]
    have e1 : ishr .u64 (n : Int) 8 = ((n / 256 : Nat) : Int) := by
      unfold ishr
      have : (min (8 : Int).toNat IntKind.u64.bits) = 8 := by decide
      rw [this, Int.fdiv_eq_ediv_of_nonneg _ (by decide)]
      rfl
    have hk : n / 256 < 256 := by omega
    have e2 : IntKind.wrap .u8 (((n / 256 : Nat) : Int)) = ((n / 256 : Nat) : Int) := by
      unfold IntKind.wrap; simp [IntKind.bits, IntKind.signed]; omega
    obtain ⟨t1, t2, t3⟩ := tab_ok ⟨n / 256, hk⟩
    simp only [Option.bind_some, e1, e2]
    rw [if_pos (by omega), if_pos (by rw [tab_size]; omega)]
    simp only at t1 t2 t3
    simp only [Int.toNat_natCast, Option.bind_some]
    generalize (k_t256_52136.get! (n / 256)).toNat = t at *
    refine ⟨8 + t, ?_, ?_, fun _ => ?_, by omega⟩
    · rw [w64_id (x := (t : Int)) (by omega) (by omega), show w64 (0 + 8) = 8 by decide, w64_id (by omega) (by omega)]
      congr 1
    · rw [Nat.pow_add]; generalize 2 ^ t = z at *; omega
    · rw [Nat.pow_add]; have := t2 (by omega); generalize 2 ^ t = z at *; omega
  · rw [if_neg (by simp <;> omega)]
    have hk : n < 256 := by omega
    have e2 : IntKind.wrap .u8 ((n : Int)) = (n : Int) := by
      unfold IntKind.wrap; simp [IntKind.bits, IntKind.signed]; omega
    obtain ⟨t1, t2, t3⟩ := tab_ok ⟨n, hk⟩
    simp only [Option.bind_some, e2]
    rw [if_pos (by omega), if_pos (by rw [tab_size]; omega)]
    simp only at t1 t2 t3
    simp only [Int.toNat_natCast, Option.bind_some]
    generalize (k_t256_52136.get! n).toNat = t at *
    refine ⟨t, ?_, t1, t2, by omega⟩
    rw [w64_id (x := (t : Int)) (by omega) (by omega), w64_id (by omega) (by omega)]
    congr 1; omega

theorem wrap_u64_id {x : Int} (h : 0 ≤ x) (h2 : x < 18446744073709551616) : IntKind.wrap .u64 x = x := by
  unfold IntKind.wrap; simp [IntKind.bits, IntKind.signed]; omega
theorem npow_ok (n : Nat) (h : n < 65536) (h0 : 0 < n) : ∃ k : Nat, PL.slices_nextPowerOfTwo (n : Int) = some (((2 ^ k : Nat)) : Int) ∧ 2 ^ k ≤ 2 * n ∧ k ≤ 16 := by
  obtain ⟨k, h1, h2, h3, h4⟩ := len_ok n h
  refine ⟨k, ?_, h3 h0, h4⟩
  unfold PL.slices_nextPowerOfTwo
  rw [wrap_u64_id (by omega) (by omega), h1]
  simp only [Option.bind_eq_bind, Option.bind_some]
  rw [if_pos (by omega)]
  unfold ishl
  have e : min (k : Int).toNat IntKind.u64.bits = k := by
    rw [Int.toNat_natCast]; show min k 64 = k; omega
  have b : 2 ^ k ≤ 2 ^ 16 := Nat.pow_le_pow_right (by decide) h4
  rw [e, show (1 : Int) * 2 ^ k = ((2 ^ k : Nat) : Int) by push_cast; omega, wrap_u64_id (by omega) (by omega)]
theorem and_ok (x : Int) (k : Nat) (hk : k ≤ 16) : ∃ r : Nat, w64 (ibits .and .u64 x (IntKind.wrap .u64 (((2 ^ k : Nat) : Int) - 1))) = (r : Int) ∧ r < 2 ^ k := by
  have b : 2 ^ k ≤ 2 ^ 16 := Nat.pow_le_pow_right (by decide) hk
  have b0 : 0 < 2 ^ k := Nat.pow_pos (by decide)
  rw [wrap_u64_id (by omega) (by omega)]
  refine ⟨(BitVec.ofInt 64 x &&& BitVec.ofInt 64 (((2 ^ k : Nat) : Int) - 1)).toNat, ?_, ?_⟩
  · unfold ibits
    simp only
    have h : (BitVec.ofInt 64 x &&& BitVec.ofInt 64 (((2 ^ k : Nat) : Int) - 1)).toNat < 65536 := by
      rw [BitVec.toNat_and, BitVec.toNat_ofInt, BitVec.toNat_ofInt]
      refine Nat.lt_of_le_of_lt Nat.and_le_right ?_
      omega
    rw [wrap_u64_id (by omega) (by show (((BitVec.ofInt 64 x &&& BitVec.ofInt 64 (((2 ^ k : Nat) : Int) - 1)).toNat : Nat) : Int) < _; omega)]
    rw [w64_id (by omega) (by show (((BitVec.ofInt 64 x &&& BitVec.ofInt 64 (((2 ^ k : Nat) : Int) - 1)).toNat : Nat) : Int) ≤ _; omega)]
    rfl
  · rw [BitVec.toNat_and, BitVec.toNat_ofInt, BitVec.toNat_ofInt]
    refine Nat.lt_of_le_of_lt Nat.and_le_right ?_
    omega

/-! ### breakPatterns -/
theorem so2int_brk_l0 (a b k M : Nat) (hk : k ≤ 16) (hb : 2 ^ k ≤ 2 * (b - a)) (hM : w64 ((w64 ((a : Int) + (w64 ((w64 (Int.tdiv (w64 ((b : Int) - a)) 4)) * 2)))) + 1) = (M : Int)) (hMb : M < b) : ∀ (n i : Nat) (l : List Pr) (z : Int), M + 1 - i = n → Ok P l → a ≤ i → b ≤ l.length → i ≤ 100000 →
    ∃ m, PL.slices_breakPatternsCmpFunc_2int.l0 cmp a b ((2 ^ k : Nat) : Int) l z i = some m ∧ Part l m a b := by
  intro n
  induction n with
  | zero =>
    intro i l z hn hl h1 h2 h3
    refine ⟨l, ?_, .refl ..⟩
    rw [PL.slices_breakPatternsCmpFunc_2int.l0, hM, if_neg (by simp <;> omega)]
  | succ n ih =>
    intro i l z hn hl h1 h2 h3
    have hlen := hl.len
    rw [PL.slices_breakPatternsCmpFunc_2int.l0, hM, if_pos (by simp <;> omega)]
    unfold PL.slices_xorshift_Next
    simp only [Option.bind_eq_bind, Option.bind_some]
    generalize (ibits .xor .u64 (ibits .xor .u64 (ibits .xor .u64 z (ishl .u64 z 13)) (ishr .u64 (ibits .xor .u64 z (ishl .u64 z 13)) 7)) (ishl .u64 (ibits .xor .u64 (ibits .xor .u64 z (ishl .u64 z 13)) (ishr .u64 (ibits .xor .u64 z (ishl .u64 z 13)) 7)) 17)) = z'
    obtain ⟨r, hr, hr2⟩ := and_ok z' k hk
    rw [hr]
    rw [w64_dif b a (by omega) (by omega)]
    obtain ⟨s, hs, hsb⟩ : ∃ s : Nat, (if decide ((r : Int) ≥ ((b - a : Nat) : Int)) = true then some (w64 ((r : Int) - ((b - a : Nat) : Int))) else some (r : Int)) = some (s : Int) ∧ s < b - a := by
      by_cases c1 : r ≥ b - a
      · exact ⟨r - (b - a), by rw [if_pos (by simp <;> omega), w64_dif _ _ c1 (by omega)], by omega⟩
      · exact ⟨r, by rw [if_neg (by simp <;> omega)], by omega⟩
    rw [hs]
    simp (disch := omega) only [Option.bind_some, w64_sum, getI_el, Int.toNat_natCast, w64_one]
    rw [getI_el (by simp <;> omega)]
    have hP : Part l (sw l i (a + s)) a b := .sw (by omega) (by omega) h1 (by omega) (by omega) (by omega)
    obtain ⟨m, hm, hp⟩ := ih (i + 1) (sw l i (a + s)) z' (by omega) (hP.ok hl) (by omega) (by rw [sw_len]; exact h2) (by omega)
    exact ⟨m, hm, hP.trans hp⟩

theorem quart (a b : Nat) (hab : a ≤ b) (hb : b ≤ 100000) : w64 (Int.tdiv (w64 ((b : Int) - a)) 4) = (((b - a) / 4 : Nat) : Int) := by
  rw [w64_dif b a hab (by omega), show (4 : Int) = ((4 : Nat) : Int) from rfl, ← Int.ofNat_tdiv, w64_id (by omega) (by omega)]
theorem quartN (x n : Nat) (hx : x ≤ 100000) (hn : n ≤ 4) : w64 ((x : Int) * (n : Int)) = ((x * n : Nat) : Int) := by
  have : x * n ≤ 100000 * 4 := Nat.mul_le_mul hx hn
  rw [show (x : Int) * (n : Int) = ((x * n : Nat) : Int) by push_cast; rfl, w64_id (by omega) (by omega)]
theorem quart1 (x : Nat) (hx : x ≤ 100000) : w64 ((x : Int) * 1) = ((x * 1 : Nat) : Int) := quartN x 1 hx (by omega)
theorem quart2 (x : Nat) (hx : x ≤ 100000) : w64 ((x : Int) * 2) = ((x * 2 : Nat) : Int) := quartN x 2 hx (by omega)
theorem quart3 (x : Nat) (hx : x ≤ 100000) : w64 ((x : Int) * 3) = ((x * 3 : Nat) : Int) := quartN x 3 hx (by omega)

theorem so2int_brk (a b : Nat) (l : List Pr) (hl : Ok P l) (h1 : a ≤ b) (h2 : b ≤ l.length) :
    ∃ m, PL.slices_breakPatternsCmpFunc_2int l a b cmp = some m ∧ Part l m a b := by
  have hlen := hl.len
  unfold PL.slices_breakPatternsCmpFunc_2int
  by_cases c1 : b - a ≥ 8
  · rw [w64_dif b a h1 (by omega), if_pos (by simp <;> omega)]
    obtain ⟨k, hk, hk2, hk3⟩ := npow_ok (b - a) (by omega) (by omega)
    rw [hk]
    have hM : w64 ((w64 ((a : Int) + (w64 ((w64 (Int.tdiv (w64 ((b : Int) - a)) 4)) * 2)))) + 1) = ((a + (b - a) / 4 * 2 + 1 : Nat) : Int) := by
      rw [quart a b h1 (by omega), quart2 _ (by omega), w64_sum _ _ (by omega) (by omega), w64_one _ (by omega)]
    have q := quart a b h1 (by omega)
    rw [w64_dif b a h1 (by omega)] at q
    rw [q, quart2 _ (by omega), w64_sum _ _ (by omega) (by omega), w64_pred _ (by omega) (by omega)]
    obtain ⟨m, hm, hp⟩ := so2int_brk_l0 (cmp := cmp) a b k _ hk3 hk2 hM (by omega) _ (a + (b - a) / 4 * 2 - 1) l (IntKind.wrap .u64 ((b - a : Nat) : Int)) rfl hl (by omega) h2 (by omega)
    refine ⟨m, ?_, hp⟩
    simp only [Option.bind_eq_bind, Option.bind_some, hm]
  · rw [w64_dif b a h1 (by omega), if_neg (by simp <;> omega)]
    exact ⟨l, rfl, .refl ..⟩

/-! ### choosePivot -/
theorem so2int_order2 (hc : ∀ x y, P x → P y → cmp x y = some (c x y)) (l : List Pr) (hl : Ok P l) (i j : Nat) (s : Int) (hi : i < l.length) (hj : j < l.length) :
    ∃ (x y : Nat) (t : Int), PL.slices_order2CmpFunc_2int l i j s cmp = some ((x : Int), (y : Int), l, t) ∧ (x = i ∧ y = j ∨ x = j ∧ y = i) := by
  unfold PL.slices_order2CmpFunc_2int
  have e := hc _ _ (hl.el hj) (hl.el hi)
  simp only [getI_el hi, getI_el hj, Option.bind_eq_bind, Option.bind_some, e]
  by_cases cx : c (el l j) (el l i) < 0
  · exact ⟨j, i, _, by rw [if_pos (decide_eq_true cx)], .inr ⟨rfl, rfl⟩⟩
  · exact ⟨i, j, _, by rw [if_neg (by simpa using cx)], .inl ⟨rfl, rfl⟩⟩
theorem so2int_median (hc : ∀ x y, P x → P y → cmp x y = some (c x y)) (l : List Pr) (hl : Ok P l) (i j k : Nat) (s : Int) (hi : i < l.length) (hj : j < l.length) (hk : k < l.length) :
    ∃ (x : Nat) (t : Int), PL.slices_medianCmpFunc_2int l i j k s cmp = some ((x : Int), l, t) ∧ (x = i ∨ x = j ∨ x = k) := by
  unfold PL.slices_medianCmpFunc_2int
  obtain ⟨x1, y1, t1, e1, f1⟩ := so2int_order2 hc l hl i j s hi hj
  obtain ⟨x2, y2, t2, e2, f2⟩ := so2int_order2 hc l hl y1 k t1 (by omega) hk
  obtain ⟨x3, y3, t3, e3, f3⟩ := so2int_order2 hc l hl x1 x2 t2 (by omega) (by omega)
  simp only [e1, e2, e3, Option.bind_eq_bind, Option.bind_some]
  exact ⟨y3, t3, rfl, by omega⟩
theorem so2int_medianA (hc : ∀ x y, P x → P y → cmp x y = some (c x y)) (l : List Pr) (hl : Ok P l) (i : Nat) (s : Int) (hi : i + 1 < l.length) (h1 : 1 ≤ i) :
    ∃ (x : Nat) (t : Int), PL.slices_medianAdjacentCmpFunc_2int l i s cmp = some ((x : Int), l, t) ∧ (x = i - 1 ∨ x = i ∨ x = i + 1) := by
  have hlen := hl.len
  unfold PL.slices_medianAdjacentCmpFunc_2int
  obtain ⟨x, t, e, f⟩ := so2int_median hc l hl (i - 1) i (i + 1) s (by omega) (by omega) hi
  rw [w64_pred i h1 (by omega), w64_one i (by omega), e]
  exact ⟨x, t, rfl, f⟩
theorem so2int_choose (hc : ∀ x y, P x → P y → cmp x y = some (c x y)) (l : List Pr) (hl : Ok P l) (a b : Nat) (h1 : a < b) (h2 : b ≤ l.length) :
    ∃ (x : Nat) (t : Int), PL.slices_choosePivotCmpFunc_2int l a b cmp = some ((x : Int), t, l) ∧ a ≤ x ∧ x < b := by
  have hlen := hl.len
  unfold PL.slices_choosePivotCmpFunc_2int
  have q := quart a b (by omega) (by omega)
  rw [w64_dif b a (by omega) (by omega)] at q
  rw [w64_dif b a (by omega) (by omega), q]
  simp (disch := omega) only [quart1, quart2, quart3, w64_sum]
  have fin : ∀ (x : Nat) (z : Int), a ≤ x → x < b → ∃ (y : Nat) (t : Int), (if (z == 0) = true then some ((x : Int), (1 : Int), l) else if (z == 12) = true then some ((x : Int), 2, l) else some ((x : Int), 0, l)) = some ((y : Int), t, l) ∧ a ≤ y ∧ y < b := by
    intro x z hx hx2
    by_cases c1 : (z == 0) = true
    · exact ⟨x, 1, by rw [if_pos c1], hx, hx2⟩
    · by_cases c2 : (z == 12) = true
      · exact ⟨x, 2, by rw [if_neg c1, if_pos c2], hx, hx2⟩
      · exact ⟨x, 0, by rw [if_neg c1, if_neg c2], hx, hx2⟩
  by_cases c1 : b - a ≥ 8
  · rw [if_pos (by simp <;> omega)]
    by_cases c2 : b - a ≥ 50
    · rw [if_pos (by simp <;> omega)]
      obtain ⟨x1, t1, e1, f1⟩ := so2int_medianA hc l hl (a + (b - a) / 4 * 1) 0 (by omega) (by omega)
      obtain ⟨x2, t2, e2, f2⟩ := so2int_medianA hc l hl (a + (b - a) / 4 * 2) t1 (by omega) (by omega)
      obtain ⟨x3, t3, e3, f3⟩ := so2int_medianA hc l hl (a + (b - a) / 4 * 3) t2 (by omega) (by omega)
      obtain ⟨x4, t4, e4, f4⟩ := so2int_median hc l hl x1 x2 x3 t3 (by omega) (by omega) (by omega)
      simp only [e1, e2, e3, e4, Option.bind_eq_bind, Option.bind_some]
      exact fin x4 t4 (by omega) (by omega)
    · rw [if_neg (by simp <;> omega)]
      obtain ⟨x4, t4, e4, f4⟩ := so2int_median hc l hl (a + (b - a) / 4 * 1) (a + (b - a) / 4 * 2) (a + (b - a) / 4 * 3) 0 (by omega) (by omega) (by omega)
      simp only [e4, Option.bind_eq_bind, Option.bind_some]
      exact fin x4 t4 (by omega) (by omega)
  · rw [if_neg (by simp <;> omega)]
    simp only [Option.bind_eq_bind, Option.bind_some]
    exact fin _ 0 (by omega) (by omega)

/-! ### reverseRange -/
theorem so2int_rev_l0 (a b : Nat) : ∀ (n i j : Nat) (l : List Pr), j - i ≤ n → Ok P l → a ≤ i → j < b → b ≤ l.length →
    ∃ m, PL.slices_reverseRangeCmpFunc_2int.l0 cmp l i j = some m ∧ Part l m a b := by
  intro n
  induction n with
  | zero =>
    intro i j l hn hl h1 h2 h3
    refine ⟨l, ?_, .refl ..⟩
    rw [PL.slices_reverseRangeCmpFunc_2int.l0, if_neg (by simp <;> omega)]
  | succ n ih =>
    intro i j l hn hl h1 h2 h3
    have hlen := hl.len
    by_cases c1 : i < j
    · rw [PL.slices_reverseRangeCmpFunc_2int.l0, if_pos (by simp <;> omega)]
      simp (disch := omega) only [getI_el, Option.bind_eq_bind, Option.bind_some, Int.toNat_natCast, w64_one, w64_pred]
      rw [getI_el (by simp <;> omega)]
      have hP : Part l (sw l i j) a b := .sw (by omega) (by omega) h1 (by omega) (by omega) (by omega)
      obtain ⟨m, hm, hp⟩ := ih (i + 1) (j - 1) (sw l i j) (by omega) (hP.ok hl) (by omega) (by omega) (by rw [sw_len]; exact h3)
      exact ⟨m, hm, hP.trans hp⟩
    · refine ⟨l, ?_, .refl ..⟩
      rw [PL.slices_reverseRangeCmpFunc_2int.l0, if_neg (by simp <;> omega)]
theorem so2int_rev (a b : Nat) (l : List Pr) (hl : Ok P l) (h1 : a < b) (h3 : b ≤ l.length) :
    ∃ m, PL.slices_reverseRangeCmpFunc_2int l a b cmp = some m ∧ Part l m a b := by
  have hlen := hl.len
  obtain ⟨m, hm, hp⟩ := so2int_rev_l0 (cmp := cmp) a b _ a (b - 1) l (Nat.le_refl _) hl (Nat.le_refl _) (by omega) h3
  refine ⟨m, ?_, hp⟩
  unfold PL.slices_reverseRangeCmpFunc_2int
  rw [w64_pred b (by omega) (by omega), hm]
  rfl
end Go.AV
