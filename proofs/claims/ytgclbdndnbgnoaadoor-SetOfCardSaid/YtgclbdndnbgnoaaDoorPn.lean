/- What the program's functions on lists of ranges are, in plain words. -/
import Derived.Test.YtgclbdndnbgnoaaDoorPm
import Derived.Test.YtgclbdndnbgnoaaDoorSe
namespace Go.AV
set_option linter.all false

theorem drop_get {α : Type} {l : List α} {i : Nat} (h : i < l.length) : l.drop i = l[i] :: l.drop (i + 1) := List.drop_eq_getElem_cons h

def cmp0 (x y : Pr) : Int := if x.x0 < y.x0 then -1 else if x.x0 > y.x0 then 1 else 0
theorem tidy_1_eq (x y : Pr) : PL.set_tidy_1 x y = some (cmp0 x y) := by
  unfold PL.set_tidy_1 PL.cmp_Compare_int PL.cmp_isNaN_int cmp0
  by_cases h1 : x.x0 < y.x0
  · simp [h1]
  · by_cases h2 : x.x0 > y.x0 <;> simp [h1, h2]
theorem cmp0_lt (x y : Pr) : cmp0 x y < 0 ↔ x.x0 < y.x0 := by
  unfold cmp0
  by_cases h1 : x.x0 < y.x0
  · simp [h1]
  · by_cases h2 : x.x0 > y.x0 <;> simp [h1, h2]
theorem cmp0_ord : Ord3 cmp0 := ⟨fun x y h => by rw [cmp0_lt] at *; omega, fun x y z h1 h2 => by rw [cmp0_lt] at *; omega⟩

/-! ### tidy -/
def okR (r : Pr) : Prop := -1000000000000000 ≤ r.x0 ∧ r.x0 ≤ r.x1 ∧ r.x1 ≤ 1000000000000000

theorem tidy_l0 (k : List Pr) (hb : ∀ r ∈ k, okR r) (hk : k.length ≤ 60000) : ∀ (m x : Nat) (acc : List Pr) (r : Pr), k.length - x = m → okR r → acc.length + 1 ≤ x →
    PL.set_tidy.l0 k (acc ++ [r]) x = some (acc ++ joinR r (k.drop x)) := by
  intro m
  induction m with
  | zero =>
    intro x acc r hm hr hx
    rw [PL.set_tidy.l0, if_neg (by simp <;> omega), List.drop_eq_nil_of_le (by omega), joinR]
  | succ m ih =>
    intro x acc r hm hr hx
    have hlt : x < k.length := by omega
    have hg : getI k (x : Int) = some k[x] := by rw [getI_nat, List.getElem?_eq_getElem hlt]
    have hq := hb k[x] (List.getElem_mem hlt)
    have hlen : ((acc ++ [r]).length : Int) = ((acc.length + 1 : Nat) : Int) := by simp
    have hlast : getI (acc ++ [r]) ((acc.length : Nat) : Int) = some r := by rw [getI_nat]; simp
    unfold okR at hr hq
    rw [PL.set_tidy.l0, if_pos (by simp <;> omega), hg, hlen]
    simp (disch := omega) only [Option.bind_eq_bind, Option.bind_some, w64_pred, w64_one, Nat.add_sub_cancel]
    rw [if_pos (by simp <;> omega), hlast]
    simp only [Option.bind_some, w64_id (x := r.x1 + 1) (by omega) (by omega)]
    rw [drop_get hlt, joinR]
    by_cases c : k[x].x0 ≤ r.x1 + 1
    · rw [if_pos (decide_eq_true c), if_pos c]
      have e : (acc ++ [r]).set ((acc.length : Nat) : Int).toNat ⟨r.x0, max r.x1 k[x].x1⟩ = acc ++ [⟨r.x0, max r.x1 k[x].x1⟩] := by
        rw [Int.toNat_natCast, List.set_append_right _ _ (Nat.le_refl _)]; simp
      rw [e]
      exact ih (x + 1) acc ⟨r.x0, max r.x1 k[x].x1⟩ (by omega) (by unfold okR; simp only; omega) (by omega)
    · rw [if_neg (by simpa using c), if_neg c, room_ok (by simp; omega)]
      simp only [Option.bind_some]
      have := ih (x + 1) (acc ++ [r]) k[x] (by omega) (by unfold okR; exact hq) (by simp; omega)
      rw [this, List.append_assoc]
      rfl

theorem srt_asc : ∀ (m : List Pr) (lo : Int), srt cmp0 m 0 m.length → (∀ r ∈ m, okR r) → (∀ r ∈ m, lo ≤ r.x0) → asc lo m
  | [], _, _, _, _ => trivial
  | r :: t, lo, h, hb, hl => by
    refine ⟨hl r List.mem_cons_self, (hb r List.mem_cons_self).2.1, srt_asc t r.x0 (fun p q h1 h2 h3 => ?_) (fun q hq => hb q (List.mem_cons_of_mem _ hq)) fun q hq => ?_⟩
    · have := h (p + 1) (q + 1) (by omega) (by omega) (by simp; omega)
      simpa [el] using this
    · obtain ⟨i, hi, rfl⟩ := List.mem_iff_getElem.1 hq
      have := h 0 (i + 1) (Nat.le_refl _) (by omega) (by simp; omega)
      rw [cmp0_lt, el_eq (by simp <;> omega), el_eq (by simp <;> omega)] at this
      simpa using this

theorem joinR_len : ∀ (t : List Pr) (r : Pr), (joinR r t).length ≤ t.length + 1
  | [], _ => Nat.le_refl _
  | q :: t, r => by
    unfold joinR
    split
    · have := joinR_len t ⟨r.x0, max r.x1 q.x1⟩; simp; omega
    · have := joinR_len t q; simp; omega

/-- tidy: ranges that stand apart, with the same members. -/
theorem tidy_ok (l : List Pr) (hb : ∀ r ∈ l, okR r) (hl : l.length ≤ 60000) : ∃ m k lo, PL.set_tidy l = some (m, k) ∧ NF lo m ∧ (∀ n, mem m n ↔ mem l n) ∧ m.length ≤ l.length := by
  obtain ⟨k, hk, hp, hs⟩ := so2int_sort (P := fun _ => True) cmp0_ord (fun x y _ _ => tidy_1_eq x y) l ⟨hl, fun _ _ => trivial⟩
  have hbk : ∀ r ∈ k, okR r := fun r hr => hb r (hp.mem_iff.1 hr)
  have hlk := hp.length_eq
  unfold PL.set_tidy
  rw [hk]
  simp only [Option.bind_eq_bind, Option.bind_some]
  cases k with
  | nil =>
    refine ⟨[], [], 0, ?_, trivial, fun n => mem_perm hp n, by simp⟩
    rw [PL.set_tidy.l0, if_neg (by simp)]
    rfl
  | cons r t =>
    have ha := srt_asc _ r.x0 hs hbk (fun q hq => by
      rcases List.mem_cons.1 hq with rfl | hq
      · exact Int.le_refl _
      · obtain ⟨i, hi, rfl⟩ := List.mem_iff_getElem.1 hq
        have := hs 0 (i + 1) (Nat.le_refl _) (by omega) (by simp; omega)
        rw [cmp0_lt, el_eq (by simp <;> omega), el_eq (by simp <;> omega)] at this
        simpa using this)
    obtain ⟨j1, j2⟩ := joinR_ok t r ha.2.1 ha.2.2
    refine ⟨joinR r t, r :: t, r.x0, ?_, j1, fun n => by rw [j2]; exact mem_perm hp n, by rw [← hlk]; exact joinR_len t r⟩
    have hr := hbk r List.mem_cons_self
    have h0 : getI (r :: t) 0 = some r := by rw [show (0 : Int) = ((0 : Nat) : Int) from rfl, getI_nat]; rfl
    rw [PL.set_tidy.l0, if_pos (by simp), h0]
    simp only [List.length_nil, Option.bind_eq_bind, Option.bind_some]
    rw [if_neg (by simp)]
    simp only [Option.bind_some, Bool.false_eq_true, if_false]
    rw [room_ok (by omega)]
    simp only [Option.bind_some]
    have := tidy_l0 (r :: t) hbk (by omega) _ 1 [] r rfl hr (by simp)
    rw [List.nil_append] at this
    rw [show w64 ((0 : Int) + 1) = ((1 : Nat) : Int) by decide, List.nil_append, this]
    rfl

/-! ### Concat of two -/
theorem grow_ok (n : Nat) (h : n ≤ 1000000) : PL.slices_Grow_2int2int (n : Int) = some [] := by
  unfold PL.slices_Grow_2int2int
  rw [if_neg (by simp <;> omega)]
  have e : w64 ((n : Int) - (w64 (0 - 0))) = (n : Int) := by rw [show w64 (0 - 0) = 0 by decide, w64_id (by omega) (by omega)]; omega
  rw [e]
  by_cases c : n = 0
  · rw [if_neg (by simp [c])]; rfl
  · rw [if_pos (by simp; omega), if_pos (by omega), room_ok (by simp; omega)]
    simp
theorem concat2 (a b : List Pr) (h : a.length + b.length ≤ 1000000) : PL.slices_Concat_2int2int [a, b] = some (a ++ b) := by
  unfold PL.slices_Concat_2int2int
  have l0 : PL.slices_Concat_2int2int.l0 [a, b] 0 0 = some ((a.length + b.length : Nat) : Int) := by
    have g0 : getI [a, b] 0 = some a := rfl
    have g1 : getI [a, b] 1 = some b := rfl
    have e1 : w64 (0 + (a.length : Int)) = (a.length : Int) := by rw [w64_id (by omega) (by omega)]; omega
    have e2 : w64 ((a.length : Int) + b.length) = ((a.length + b.length : Nat) : Int) := w64_sum _ _ (by omega) (by omega)
    rw [PL.slices_Concat_2int2int.l0, if_pos (by simp), g0]
    simp only [Option.bind_eq_bind, Option.bind_some, e1]
    rw [if_neg (by simp <;> omega), show w64 ((0 : Int) + 1) = 1 by decide, PL.slices_Concat_2int2int.l0, if_pos (by simp), g1]
    simp only [Option.bind_eq_bind, Option.bind_some, e2]
    rw [if_neg (by simp <;> omega), show w64 ((1 : Int) + 1) = 2 by decide, PL.slices_Concat_2int2int.l0, if_neg (by simp)]
  have l1 : PL.slices_Concat_2int2int.l1 [a, b] [] 0 = some (a ++ b) := by
    have g0 : getI [a, b] 0 = some a := rfl
    have g1 : getI [a, b] 1 = some b := rfl
    rw [PL.slices_Concat_2int2int.l1, if_pos (by simp), g0]
    simp only [Option.bind_eq_bind, Option.bind_some]
    rw [room_ok (by simp; omega), show w64 ((0 : Int) + 1) = 1 by decide, Option.bind_some, PL.slices_Concat_2int2int.l1, if_pos (by simp), g1]
    simp only [Option.bind_eq_bind, Option.bind_some]
    rw [room_ok (by simp; omega), show w64 ((1 : Int) + 1) = 2 by decide, Option.bind_some, PL.slices_Concat_2int2int.l1, if_neg (by simp)]
    simp
  rw [l0]
  simp only [Option.bind_eq_bind, Option.bind_some, grow_ok _ h, l1]

/-! ### common, outside -/
theorem common_l0 (a b : List Pr) (ha : a.length ≤ 1000000) (hb : b.length ≤ 1000000) : ∀ (m i j : Nat) (out : List Pr), (a.length - i) + (b.length - j) ≤ m → out.length ≤ i + j →
    PL.set_common.l0 a b out i j = some (out ++ comR (a.drop i) (b.drop j)) := by
  intro m
  induction m with
  | zero =>
    intro i j out hm ho
    rw [PL.set_common.l0, if_neg (by simp <;> omega), show a.drop _ = [] from List.drop_eq_nil_of_le (by omega), comR_nil, List.append_nil]
  | succ m ih =>
    intro i j out hm ho
    by_cases hi : i < a.length
    · by_cases hj : j < b.length
      · have g1 : getI a (i : Int) = some a[i] := by rw [getI_nat, List.getElem?_eq_getElem hi]
        have g2 : getI b (j : Int) = some b[j] := by rw [getI_nat, List.getElem?_eq_getElem hj]
        rw [PL.set_common.l0, if_pos (by simp <;> omega), if_pos (by simp <;> omega), g1, g2]
        simp only [Option.bind_eq_bind, Option.bind_some]
        rw [w64_one i (by omega), w64_one j (by omega), drop_get hi, drop_get hj, comR_cons, ← drop_get hj, ← drop_get hi]
        obtain ⟨o2, h2, h3⟩ : ∃ o2, (if decide (max a[i].x0 b[j].x0 ≤ min a[i].x1 b[j].x1) = true then (room (out.length + 1) 16).bind fun _ => some (out ++ [Pr.mk (max a[i].x0 b[j].x0) (min a[i].x1 b[j].x1)]) else some out) = some o2 ∧
            o2 = out ++ (if max a[i].x0 b[j].x0 ≤ min a[i].x1 b[j].x1 then [Pr.mk (max a[i].x0 b[j].x0) (min a[i].x1 b[j].x1)] else []) := by
          by_cases c : max a[i].x0 b[j].x0 ≤ min a[i].x1 b[j].x1
          · rw [if_pos (decide_eq_true c), room_ok (by omega), if_pos c]; exact ⟨_, rfl, rfl⟩
          · rw [if_neg (by simpa using c), if_neg c]; exact ⟨_, rfl, by simp⟩
        rw [h2, Option.bind_some, ← List.append_assoc, ← h3]
        have hl : o2.length ≤ out.length + 1 := by rw [h3]; split <;> simp
        by_cases c : a[i].x1 < b[j].x1
        · rw [if_pos (decide_eq_true c), if_pos c]
          exact ih (i + 1) j o2 (by omega) (by omega)
        · rw [if_neg (by simpa using c), if_neg c]
          exact ih i (j + 1) o2 (by omega) (by omega)
      · rw [PL.set_common.l0, if_pos (by simp <;> omega), if_neg (by simp <;> omega), show b.drop _ = [] from List.drop_eq_nil_of_le (by omega), comR_nil', List.append_nil]
    · rw [PL.set_common.l0, if_neg (by simp <;> omega), show a.drop _ = [] from List.drop_eq_nil_of_le (by omega), comR_nil, List.append_nil]
theorem common_eq (a b : List Pr) (ha : a.length ≤ 1000000) (hb : b.length ≤ 1000000) : PL.set_common a b = some (comR a b) := by
  unfold PL.set_common
  have := common_l0 a b ha hb _ 0 0 [] (Nat.le_refl _) (by simp)
  simp only [List.drop_zero, List.nil_append] at this
  rw [show ((0 : Nat) : Int) = 0 from rfl] at this
  rw [this]
  rfl

theorem outside_l0 (a : List Pr) (ha : a.length ≤ 1000000) (hb : ∀ r ∈ a, okR r) : ∀ (m i : Nat) (lo : Int) (out : List Pr), a.length - i = m → out.length ≤ i →
    ∃ o lo', PL.set_outside.l0 a out lo i = some (o, lo') ∧ o ++ outR lo' [] = out ++ outR lo (a.drop i) ∧ o.length ≤ out.length + (a.length - i) := by
  intro m
  induction m with
  | zero =>
    intro i lo out hm ho
    rw [PL.set_outside.l0, if_neg (by simp <;> omega), List.drop_eq_nil_of_le (by omega)]
    exact ⟨_, _, rfl, rfl, by omega⟩
  | succ m ih =>
    intro i lo out hm ho
    have hi : i < a.length := by omega
    have g1 : getI a (i : Int) = some a[i] := by rw [getI_nat, List.getElem?_eq_getElem hi]
    have hr := hb a[i] (List.getElem_mem hi)
    unfold okR at hr
    rw [PL.set_outside.l0, if_pos (by simp <;> omega), g1]
    simp only [Option.bind_eq_bind, Option.bind_some]
    rw [w64_one i (by omega), w64_id (x := a[i].x0 - 1) (by omega) (by omega), w64_id (x := a[i].x1 + 1) (by omega) (by omega), drop_get hi]
    unfold outR
    rw [← List.append_assoc]
    by_cases c : lo < a[i].x0
    · rw [if_pos (decide_eq_true c), room_ok (by omega), if_pos c]
      simp only [Option.bind_some]
      obtain ⟨o, lo', h1, h2, h3⟩ := ih (i + 1) (a[i].x1 + 1) (out ++ [⟨lo, a[i].x0 - 1⟩]) (by omega) (by simp; omega)
      exact ⟨o, lo', h1, h2, by simp at h3; omega⟩
    · rw [if_neg (by simpa using c), if_neg c, List.append_nil]
      simp only [Option.bind_some]
      obtain ⟨o, lo', h1, h2, h3⟩ := ih (i + 1) (a[i].x1 + 1) out (by omega) (by omega)
      exact ⟨o, lo', h1, h2, by omega⟩
theorem outside_eq (a : List Pr) (ha : a.length ≤ 1000000) (hb : ∀ r ∈ a, okR r) : PL.set_outside a = some (outR (-1000000000000000) a) := by
  obtain ⟨o, lo, h1, h2, h3⟩ := outside_l0 a ha hb _ 0 (-1000000000000000) [] rfl (by simp)
  unfold PL.set_outside
  rw [show ((0 : Nat) : Int) = 0 from rfl] at h1
  rw [h1]
  simp only [List.drop_zero, List.nil_append] at h2
  simp only [Option.bind_eq_bind, Option.bind_some]
  rw [← h2]
  unfold outR
  by_cases c : lo ≤ 1000000000000000
  · rw [if_pos (decide_eq_true c), room_ok (by simp at h3; omega), if_pos c]; rfl
  · rw [if_neg (by simpa using c), if_neg c]; simp
end Go.AV
