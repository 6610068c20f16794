/- Plain laws of the set seat: Pairs, Valid, Size, Hull. -/
import Derived.Test.YtgclbdndnbgnoaaDoorSa
import Derived.Test.YtgclbdndnbgnoaaDoorPl
namespace Go.AV
set_option linter.all false

theorem pairs_l0 (a b : List Pr) (hl : a.length = b.length) (hs : a.length ≤ 1000000) : ∀ (k i : Nat), a.length - i = k →
    PL.ref01_Pairs.l0 a b i = some (if a.drop i = b.drop i then .inl () else .inr ()) := by
  intro k
  induction k with
  | zero =>
    intro i hi
    rw [PL.ref01_Pairs.l0]
    have h1 : ¬ ((i : Int) < (a.length : Int)) := by omega
    have h2 : a.drop i = [] := List.drop_eq_nil_of_le (by omega)
    have h3 : b.drop i = [] := List.drop_eq_nil_of_le (by omega)
    simp [h1, h2, h3]
  | succ k ih =>
    intro i hi
    have hia : i < a.length := by omega
    have hib : i < b.length := by omega
    rw [PL.ref01_Pairs.l0]
    have h1 : ((i : Int) < (a.length : Int)) := by omega
    have ha : a[i]? = some a[i] := List.getElem?_eq_getElem hia
    have hb : b[i]? = some b[i] := List.getElem?_eq_getElem hib
    have hw : w64 ((i : Int) + 1) = ((i + 1 : Nat) : Int) := by rw [w64_id (by omega) (by omega)]; omega
    simp only [h1, decide_true, if_true, getI_nat, ha, hb, Option.bind_eq_bind, Option.bind_some, hw, ih (i + 1) (by omega)]
    have e1 : a.drop i = a[i] :: a.drop (i + 1) := List.drop_eq_getElem_cons hia
    have e2 : b.drop i = b[i] :: b.drop (i + 1) := List.drop_eq_getElem_cons hib
    rw [e1, e2]
    clear e1 e2
    generalize a.drop (i + 1) = A
    generalize b.drop (i + 1) = B
    have he : (a[i] = b[i]) ↔ (a[i].x0 = b[i].x0 ∧ a[i].x1 = b[i].x1) := by
      cases a[i]; cases b[i]; simp
    by_cases hx : a[i] = b[i]
    · have := he.1 hx
      simp [hx]
    · have hn : ¬ (a[i].x0 = b[i].x0 ∧ a[i].x1 = b[i].x1) := fun h => hx (he.2 h)
      have : (!(a[i].x0 == b[i].x0 && a[i].x1 == b[i].x1)) = true := by
        by_cases h0 : a[i].x0 = b[i].x0 <;> by_cases h1 : a[i].x1 = b[i].x1 <;> simp_all
      simp [this, hx]

theorem pairs_eq (a b : List Pr) (hs : a.length ≤ 1000000) : PL.ref01_Pairs a b = some (decide (a = b)) := by
  unfold PL.ref01_Pairs
  by_cases hl : a.length = b.length
  · have := pairs_l0 a b hl hs _ 0 rfl
    simp only [Int.natCast_zero] at this
    simp only [hl, bne_self_eq_false, Bool.false_eq_true, if_false]
    rw [show ((0 : Int)) = ((0 : Nat) : Int) from rfl, pairs_l0 a b hl hs _ 0 rfl]
    by_cases h : a = b <;> simp [h]
  · have h2 : ((a.length : Int) != (b.length : Int)) = true := by simp; omega
    have h3 : a ≠ b := fun e => hl (by rw [e])
    simp [h2, h3]

/-! ### What a set is -/
/-- Each range is one, within the bounds, and stands apart from the one ahead of it. -/
def okAt (s : List Pr) (i : Nat) : Prop := ∀ r, s[i]? = some r → r.x0 ≤ r.x1 ∧ -1000000000000000 ≤ r.x0 ∧ r.x1 ≤ 1000000000000000 ∧ (0 < i → ∀ q, s[i - 1]? = some q → q.x1 + 2 ≤ r.x0)
def okAll (s : List Pr) (i : Nat) : Prop := ∀ j, i ≤ j → okAt s j
def isSet (s : List Pr) : Prop := s.length ≤ 100 ∧ okAll s 0

def bnd (r : Pr) : Prop := r.x0 ≤ r.x1 ∧ -1000000000000000 ≤ r.x0 ∧ r.x1 ≤ 1000000000000000

theorem okAll_cons {s : List Pr} {i : Nat} : okAll s i ↔ okAt s i ∧ okAll s (i + 1) :=
  ⟨fun h => ⟨h i (Nat.le_refl _), fun j hj => h j (by omega)⟩, fun ⟨h1, h2⟩ j hj => by
    rcases Nat.eq_or_lt_of_le hj with rfl | h
    · exact h1
    · exact h2 j h⟩
theorem okAll_end {s : List Pr} {i : Nat} (h : s.length ≤ i) : okAll s i := fun j hj r hr => by
  rw [List.getElem?_eq_none (by omega)] at hr; cases hr

open Classical in
theorem valid_l0 (a : List Pr) (hs : a.length ≤ 1000000) : ∀ (k i : Nat), a.length - i = k → (0 < i → ∀ q, a[i - 1]? = some q → bnd q) →
    (okAll a i → PL.set_Valid.l0 a i = some (.inl ())) ∧ (¬ okAll a i → PL.set_Valid.l0 a i = some (.inr ())) := by
  intro k
  induction k with
  | zero =>
    intro i hi _
    have h1 : ¬ ((i : Int) < (a.length : Int)) := by omega
    refine ⟨fun _ => ?_, fun h => absurd (okAll_end (by omega)) h⟩
    rw [PL.set_Valid.l0]
    simp [h1]
  | succ k ih =>
    intro i hi hp
    have hia : i < a.length := by omega
    have h1 : ((i : Int) < (a.length : Int)) := by omega
    have ha : a[i]? = some a[i] := List.getElem?_eq_getElem hia
    have hw : w64 ((i : Int) + 1) = ((i + 1 : Nat) : Int) := by rw [w64_id (by omega) (by omega)]; omega
    have key : okAt a i ↔ (bnd a[i] ∧ (0 < i → ∀ q, a[i - 1]? = some q → q.x1 + 2 ≤ a[i].x0)) := by
      constructor
      · intro h; have := h a[i] ha; exact ⟨⟨this.1, this.2.1, this.2.2.1⟩, this.2.2.2⟩
      · intro h r hr; rw [ha] at hr; cases hr; exact ⟨h.1.1, h.1.2.1, h.1.2.2, h.2⟩
    rw [okAll_cons, key]
    have go : PL.set_Valid.l0 a (i : Int) = if bnd a[i] ∧ (0 < i → ∀ q, a[i - 1]? = some q → q.x1 + 2 ≤ a[i].x0) then PL.set_Valid.l0 a ((i + 1 : Nat) : Int) else some (.inr ()) := by
      rw [PL.set_Valid.l0]
      simp only [h1, decide_true, if_true, getI_nat, ha, Option.bind_eq_bind, Option.bind_some, hw]
      unfold bnd
      by_cases c1 : a[i].x0 > a[i].x1
      · have : ¬ (a[i].x0 ≤ a[i].x1) := by omega
        simp [c1, this]
      by_cases c2 : a[i].x0 < -1000000000000000
      · have : ¬ (-1000000000000000 ≤ a[i].x0) := by omega
        simp [c1, c2, this]
      by_cases c3 : a[i].x1 > 1000000000000000
      · have : ¬ (a[i].x1 ≤ 1000000000000000) := by omega
        simp [c1, c2, c3, this]
      have d1 : a[i].x0 ≤ a[i].x1 := by omega
      have d2 : -1000000000000000 ≤ a[i].x0 := by omega
      have d3 : a[i].x1 ≤ 1000000000000000 := by omega
      by_cases c4 : 0 < i
      · have hq : a[i - 1]? = some a[i - 1] := List.getElem?_eq_getElem (by omega)
        have hb := hp c4 _ hq
        unfold bnd at hb
        have hw2 : w64 ((i : Int) - 1) = ((i - 1 : Nat) : Int) := by rw [w64_id (by omega) (by omega)]; omega
        have hw3 : w64 (a[i].x0 - a[i - 1].x1) = a[i].x0 - a[i - 1].x1 := w64_id (by omega) (by omega)
        have c4' : ((i : Int) > 0) := by omega
        simp only [c1, c2, c3, c4', decide_true, decide_false, Bool.false_eq_true, if_false, if_true, hw2, getI_nat, hq, Option.bind_some, hw3]
        by_cases c5 : a[i].x0 - a[i - 1].x1 < 2
        · have : ¬ (a[i - 1].x1 + 2 ≤ a[i].x0) := by omega
          simp [c5, this, c4]
        · have : a[i - 1].x1 + 2 ≤ a[i].x0 := by omega
          simp [c5, this, d1, d2, d3]
      · have c4' : ¬ ((i : Int) > 0) := by omega
        simp [c1, c2, c3, c4', c4, d1, d2, d3]
    rw [go]
    by_cases hc : bnd a[i] ∧ (0 < i → ∀ q, a[i - 1]? = some q → q.x1 + 2 ≤ a[i].x0)
    · rw [if_pos hc]
      have hn := ih (i + 1) (by omega) (fun _ q hq => by
        rw [Nat.add_sub_cancel, ha] at hq; cases hq; exact hc.1)
      exact ⟨fun h => hn.1 h.2, fun h => hn.2 fun h2 => h ⟨hc, h2⟩⟩
    · rw [if_neg hc]
      exact ⟨fun h => absurd h.1 hc, fun _ => rfl⟩

open Classical in
theorem rvalid_l0 (a : List Pr) (hs : a.length ≤ 1000000) : ∀ (k i : Nat), a.length - i = k → (0 < i → ∀ q, a[i - 1]? = some q → bnd q) →
    (okAll a i → PL.ref03_Valid.l0 a i = some (.inl ())) ∧ (¬ okAll a i → PL.ref03_Valid.l0 a i = some (.inr ())) := by
  intro k
  induction k with
  | zero =>
    intro i hi _
    have h1 : ¬ ((i : Int) < (a.length : Int)) := by omega
    refine ⟨fun _ => ?_, fun h => absurd (okAll_end (by omega)) h⟩
    rw [PL.ref03_Valid.l0]
    simp [h1]
  | succ k ih =>
    intro i hi hp
    have hia : i < a.length := by omega
    have h1 : ((i : Int) < (a.length : Int)) := by omega
    have ha : a[i]? = some a[i] := List.getElem?_eq_getElem hia
    have hw : w64 ((i : Int) + 1) = ((i + 1 : Nat) : Int) := by rw [w64_id (by omega) (by omega)]; omega
    have key : okAt a i ↔ (bnd a[i] ∧ (0 < i → ∀ q, a[i - 1]? = some q → q.x1 + 2 ≤ a[i].x0)) := by
      constructor
      · intro h; have := h a[i] ha; exact ⟨⟨this.1, this.2.1, this.2.2.1⟩, this.2.2.2⟩
      · intro h r hr; rw [ha] at hr; cases hr; exact ⟨h.1.1, h.1.2.1, h.1.2.2, h.2⟩
    rw [okAll_cons, key]
    have go : PL.ref03_Valid.l0 a (i : Int) = if bnd a[i] ∧ (0 < i → ∀ q, a[i - 1]? = some q → q.x1 + 2 ≤ a[i].x0) then PL.ref03_Valid.l0 a ((i + 1 : Nat) : Int) else some (.inr ()) := by
      rw [PL.ref03_Valid.l0]
      simp only [h1, decide_true, if_true, getI_nat, ha, Option.bind_eq_bind, Option.bind_some, hw]
      unfold bnd
      by_cases c1 : a[i].x0 > a[i].x1
      · have : ¬ (a[i].x0 ≤ a[i].x1) := by omega
        simp [c1, this]
      by_cases c2 : a[i].x0 < -1000000000000000
      · have : ¬ (-1000000000000000 ≤ a[i].x0) := by omega
        simp [c1, c2, this]
      by_cases c3 : a[i].x1 > 1000000000000000
      · have : ¬ (a[i].x1 ≤ 1000000000000000) := by omega
        simp [c1, c2, c3, this]
      have d1 : a[i].x0 ≤ a[i].x1 := by omega
      have d2 : -1000000000000000 ≤ a[i].x0 := by omega
      have d3 : a[i].x1 ≤ 1000000000000000 := by omega
      by_cases c4 : 0 < i
      · have hq : a[i - 1]? = some a[i - 1] := List.getElem?_eq_getElem (by omega)
        have hb := hp c4 _ hq
        unfold bnd at hb
        have hw2 : w64 ((i : Int) - 1) = ((i - 1 : Nat) : Int) := by rw [w64_id (by omega) (by omega)]; omega
        have hw3 : w64 (a[i - 1].x1 + 2) = a[i - 1].x1 + 2 := w64_id (by omega) (by omega)
        have c4' : ((i : Int) > 0) := by omega
        simp only [c1, c2, c3, c4', decide_true, decide_false, Bool.false_eq_true, if_false, if_true, hw2, getI_nat, hq, Option.bind_some, hw3]
        by_cases c5 : a[i].x0 < a[i - 1].x1 + 2
        · have : ¬ (a[i - 1].x1 + 2 ≤ a[i].x0) := by omega
          simp [c5, this, c4]
        · have : a[i - 1].x1 + 2 ≤ a[i].x0 := by omega
          simp [c5, this, d1, d2, d3]
      · have c4' : ¬ ((i : Int) > 0) := by omega
        simp [c1, c2, c3, c4', c4, d1, d2, d3]
    rw [go]
    by_cases hc : bnd a[i] ∧ (0 < i → ∀ q, a[i - 1]? = some q → q.x1 + 2 ≤ a[i].x0)
    · rw [if_pos hc]
      have hn := ih (i + 1) (by omega) (fun _ q hq => by
        rw [Nat.add_sub_cancel, ha] at hq; cases hq; exact hc.1)
      exact ⟨fun h => hn.1 h.2, fun h => hn.2 fun h2 => h ⟨hc, h2⟩⟩
    · rw [if_neg hc]
      exact ⟨fun h => absurd h.1 hc, fun _ => rfl⟩

open Classical in
theorem set_Valid_eq (a : List Pr) (hs : a.length ≤ 1000000) : PL.set_Valid a = some (decide (isSet a)) := by
  have h := valid_l0 a hs _ 0 rfl (fun h => absurd h (by omega))
  unfold PL.set_Valid isSet
  by_cases hv : okAll a 0
  · rw [show (0 : Int) = ((0 : Nat) : Int) from rfl, h.1 hv]
    simp [hv]
    by_cases hl : a.length ≤ 100
    · simp [hl]; omega
    · simp [hl]; omega
  · rw [show (0 : Int) = ((0 : Nat) : Int) from rfl, h.2 hv]
    simp [hv]
open Classical in
theorem ref_Valid_eq (a : List Pr) (hs : a.length ≤ 1000000) : PL.ref03_Valid a = some (decide (isSet a)) := by
  have h := rvalid_l0 a hs _ 0 rfl (fun h => absurd h (by omega))
  unfold PL.ref03_Valid isSet
  by_cases hl : a.length ≤ 100
  · have hl' : ¬ ((a.length : Int) > 100) := by omega
    simp only [hl', decide_false, Bool.false_eq_true, if_false]
    by_cases hv : okAll a 0
    · rw [show (0 : Int) = ((0 : Nat) : Int) from rfl, h.1 hv]
      simp [hv, hl]
    · rw [show (0 : Int) = ((0 : Nat) : Int) from rfl, h.2 hv]
      simp [hv]
  · have hl' : ((a.length : Int) > 100) := by omega
    simp [hl', hl]

theorem w64_step (n x y : Int) : w64 (n + w64 (w64 (y - x) + 1)) = w64 (w64 (w64 (n + y) - x) + 1) := by
  unfold w64
  simp only [IntKind.wrap_i64]
  omega
theorem hull_eq (a : List Pr) (hs : a.length ≤ 1000000) : ∃ r, PL.set_Hull a = some r ∧ PL.ref03_Hull a = some r := by
  unfold PL.set_Hull PL.ref03_Hull
  rw [set_Valid_eq a hs, ref_Valid_eq a hs]
  simp only [Option.bind_eq_bind, Option.bind_some]
  by_cases h : isSet a
  · simp only [h, decide_true, Bool.not_true, Bool.false_eq_true, if_false]
    by_cases h0 : a.length = 0
    · simp [h0]
    · have e1 : ((a.length : Int) == 0) = false := by rw [beq_eq_false_iff_ne]; omega
      have e2 : w64 ((a.length : Int) - 1) = ((a.length - 1 : Nat) : Int) := by rw [w64_id (by omega) (by omega)]; omega
      have e3 : a[0]? = some a[0] := List.getElem?_eq_getElem (by omega)
      have e4 : a[a.length - 1]? = some a[a.length - 1] := List.getElem?_eq_getElem (by omega)
      have e5 : getI a 0 = some a[0] := by rw [show (0 : Int) = ((0 : Nat) : Int) from rfl, getI_nat]; exact e3
      simp only [e1, Bool.false_eq_true, if_false, e2, e5, getI_nat, e4, Option.bind_some]
      exact ⟨_, rfl, rfl⟩
  · simp only [h, decide_false, Bool.not_false, if_true]
    exact ⟨_, rfl, rfl⟩

end Go.AV
