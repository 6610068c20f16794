/- SetMakes as a statement on lists alone. -/
import Derived.Test.YtgclbdndnbgnoaaDoorPo
import Derived.Test.YtgclbdndnbgnoaaDoorPf
namespace Go.AV
set_option linter.all false

theorem set_nf {s : List Pr} (h : okAll s 0) : ∀ (t : List Pr) (i : Nat), s.drop i = t → NF (if 0 < i then (el s (i - 1)).x1 + 2 else -1000000000000000) t ∧ ∀ r ∈ t, okR r := by
  intro t
  induction t with
  | nil => intro i _; exact ⟨trivial, fun _ h => by cases h⟩
  | cons r t ih =>
    intro i hi
    have hlt : i < s.length := by
      apply Classical.byContradiction
      intro hc
      rw [List.drop_eq_nil_of_le (by omega)] at hi
      cases hi
    have hi' := hi
    rw [drop_get hlt] at hi'
    obtain ⟨rfl, ht⟩ := List.cons.inj hi'
    obtain ⟨n1, n2⟩ := ih (i + 1) ht
    rw [if_pos (by omega), Nat.add_sub_cancel, el_eq hlt] at n1
    have ho := h i (by omega) s[i] (List.getElem?_eq_getElem hlt)
    refine ⟨⟨?_, ho.1, n1⟩, fun q hq => ?_⟩
    · by_cases c : 0 < i
      · rw [if_pos c]
        exact ho.2.2.2 c _ (el_get (by omega))
      · rw [if_neg c]; exact ho.2.1
    · rcases List.mem_cons.1 hq with rfl | hq
      · exact ⟨ho.2.1, ho.1, ho.2.2.1⟩
      · exact n2 q hq
theorem isSet_nf {s : List Pr} (h : isSet s) : NF (-1000000000000000) s ∧ ∀ r ∈ s, okR r := by
  have := set_nf h.2 s 0 rfl
  simpa using this
theorem mem_okR {s : List Pr} (h : ∀ r ∈ s, okR r) {n : Int} (hm : mem s n) : -1000000000000000 ≤ n ∧ n ≤ 1000000000000000 := by
  obtain ⟨r, hr, h1, h2⟩ := hm
  have := h r hr
  unfold okR at this
  omega

/-! ### As, two -/
/-- The two operations agree where the members are the same. -/
theorem told_eq (m : List Pr) : PL.ref03_told m = PL.set_limited m := by
  unfold PL.ref03_told PL.set_limited; rfl
theorem okR_len {s : List Pr} (h : isSet s) : s.length ≤ 100 := h.1

/-- The two answer alike. -/
theorem outR_len : ∀ (s : List Pr) (lo : Int), (outR lo s).length ≤ s.length + 1
  | [], lo => by unfold outR; split <;> simp
  | r :: s, lo => by
    unfold outR
    have := outR_len s (r.x1 + 1)
    rw [List.length_append]
    split <;> simp <;> omega
/-! ### The example -/
theorem w0 : w64 (0 + 1) = 1 := by decide
theorem w1 : w64 (1 + 1) = 2 := by decide
theorem wOne : w64 1 = 1 := by decide
theorem sizeLeaf (lo hi : Int) : PL.set_size ⟨0, lo, hi, []⟩ = some (1, 1) := by
  rw [PL.set_size, PL.set_size.l0, if_neg (by simp)]
  simp [wOne]
theorem formedLeaf (lo hi : Int) (h : lo ≤ hi) (h1 : -1000000000000000 ≤ lo) (h2 : hi ≤ 1000000000000000) : PL.set_formed ⟨0, lo, hi, []⟩ = some true := by
  rw [PL.set_formed]
  obtain ⟨z, hz⟩ : ∃ z, (if (lo == 0) = true then some (hi == 0) else some false) = some z := by by_cases c : (lo == 0) = true <;> simp [c]
  simp only [hz, Option.bind_eq_bind, Option.bind_some]
  simp [h, h1, h2]
theorem valueLeaf (lo hi : Int) : PL.set_value ⟨0, lo, hi, []⟩ = some [⟨lo, hi⟩] := by
  rw [PL.set_value, PL.set_value.l0, if_neg (by simp)]
  simp
def exN : Node := ⟨3, 0, 0, [⟨0, 1, 5, []⟩, ⟨0, 3, 3, []⟩]⟩
theorem exSize : PL.set_size exN = some (3, 2) := by
  rw [PL.set_size, exN, PL.set_size.l0, if_pos (by simp)]
  have g0 : getI [Node.mk 0 1 5 [], Node.mk 0 3 3 []] 0 = some ⟨0, 1, 5, []⟩ := rfl
  have g1 : getI [Node.mk 0 1 5 [], Node.mk 0 3 3 []] 1 = some ⟨0, 3, 3, []⟩ := rfl
  simp only [g0, Option.bind_eq_bind, Option.bind_some, sizeLeaf, w0]
  rw [PL.set_size.l0, if_pos (by simp)]
  simp only [g1, Option.bind_eq_bind, Option.bind_some, sizeLeaf, w1]
  rw [PL.set_size.l0, if_neg (by simp)]
  decide
theorem exFormed : PL.set_formed exN = some true := by
  have f0 : PL.set_formed_1 ⟨0, 1, 5, []⟩ = some false := by rw [PL.set_formed_1, formedLeaf _ _ (by omega) (by omega) (by omega)]; rfl
  have f1 : PL.set_formed_1 ⟨0, 3, 3, []⟩ = some false := by rw [PL.set_formed_1, formedLeaf _ _ (by omega) (by omega) (by omega)]; rfl
  have g0 : getI [Node.mk 0 1 5 [], Node.mk 0 3 3 []] 0 = some ⟨0, 1, 5, []⟩ := rfl
  have g1 : getI [Node.mk 0 1 5 [], Node.mk 0 3 3 []] 1 = some ⟨0, 3, 3, []⟩ := rfl
  have i : PL.slices_IndexFunc_of_set_formed_1.l0 [⟨0, 1, 5, []⟩, ⟨0, 3, 3, []⟩] 0 = some (.inl ()) := by
    rw [PL.slices_IndexFunc_of_set_formed_1.l0, if_pos (by simp), g0]
    simp only [Option.bind_eq_bind, Option.bind_some, f0, Bool.false_eq_true, if_false, w0]
    rw [PL.slices_IndexFunc_of_set_formed_1.l0, if_pos (by simp), g1]
    simp only [Option.bind_eq_bind, Option.bind_some, f1, Bool.false_eq_true, if_false, w1]
    rw [PL.slices_IndexFunc_of_set_formed_1.l0, if_neg (by simp)]
  have c : PL.slices_ContainsFunc_of_set_formed_1 [⟨0, 1, 5, []⟩, ⟨0, 3, 3, []⟩] = some false := by
    rw [PL.slices_ContainsFunc_of_set_formed_1, PL.slices_IndexFunc_of_set_formed_1, i]
    decide
  rw [PL.set_formed]
  simp [exN, c]
theorem exValue : PL.set_value exN = some [⟨1, 2⟩, ⟨4, 5⟩] := by
  have g0 : getI [Node.mk 0 1 5 [], Node.mk 0 3 3 []] 0 = some ⟨0, 1, 5, []⟩ := rfl
  have g1 : getI [Node.mk 0 1 5 [], Node.mk 0 3 3 []] 1 = some ⟨0, 3, 3, []⟩ := rfl
  have l : PL.set_value.l0 exN [] 0 = some [[⟨1, 5⟩], [⟨3, 3⟩]] := by
    rw [exN, PL.set_value.l0, if_pos (by simp), g0]
    simp only [Option.bind_eq_bind, Option.bind_some, valueLeaf, w0]
    rw [room_ok (by simp), Option.bind_some, PL.set_value.l0, if_pos (by simp), g1]
    simp only [Option.bind_eq_bind, Option.bind_some, valueLeaf, w1]
    rw [room_ok (by simp), Option.bind_some, PL.set_value.l0, if_neg (by simp)]
    rfl
  have h0 : getI [[Pr.mk 1 5], [Pr.mk 3 3]] 0 = some [⟨1, 5⟩] := rfl
  have h1 : getI [[Pr.mk 1 5], [Pr.mk 3 3]] 1 = some [⟨3, 3⟩] := rfl
  unfold exN at l ⊢
  rw [PL.set_value, l]
  simp only [Option.bind_eq_bind, Option.bind_some]
  rw [if_neg (by decide), if_neg (by decide), if_neg (by decide), if_pos (by decide), h0, h1]
  simp only [Option.bind_some]
  rw [outside_eq _ (by simp) (fun r hr => by
    rw [List.mem_singleton] at hr
    subst hr
    unfold okR
    simp only
    omega)]
  simp only [Option.bind_some]
  have e : outR (-1000000000000000) [⟨3, 3⟩] = [⟨-1000000000000000, 2⟩, ⟨4, 1000000000000000⟩] := by decide
  rw [e, common_eq _ _ (by simp) (by simp)]
  rw [comR_cons, comR_cons]
  simp only [comR_nil, comR_nil']
  decide
theorem exValid : isSet [⟨1, 2⟩, ⟨4, 5⟩] := by
  refine ⟨by simp, fun j _ r hr => ?_⟩
  match j, hr with
  | 0, hr => simp at hr; subst hr; simp
  | 1, hr => simp at hr; subst hr; simp
  | j + 2, hr => simp at hr
theorem sane_true : PL.law03_sane = some true := by
  have g0 : getI [Pr.mk 1 2, Pr.mk 4 5] 0 = some ⟨1, 2⟩ := rfl
  have g1 : getI [Pr.mk 1 2, Pr.mk 4 5] 1 = some ⟨4, 5⟩ := rfl
  have hs : PL.set_Size.l0 [⟨1, 2⟩, ⟨4, 5⟩] 0 0 = some 4 := by
    rw [PL.set_Size.l0, if_pos (by simp), g0]
    simp only [Option.bind_eq_bind, Option.bind_some, w0]
    rw [PL.set_Size.l0, if_pos (by simp), g1]
    simp only [Option.bind_eq_bind, Option.bind_some, w1]
    rw [PL.set_Size.l0, if_neg (by simp)]
    decide
  unfold PL.law03_sane PL.set_Of PL.set_check PL.set_limited PL.set_Size
  have e1 := exSize
  have e2 := exFormed
  have e3 := exValue
  unfold exN at e1 e2 e3
  simp only [e1, e2, e3, Option.bind_eq_bind, Option.bind_some]
  rw [if_neg (by decide)]
  rw [if_neg (by decide)]
  simp only [Bool.not_true, Bool.false_eq_true, if_false, Option.bind_some]
  rw [if_neg (by decide), if_neg (by simp)]
  simp only [Option.bind_some]
  rw [set_Valid_eq _ (by simp)]
  simp only [Option.bind_some, exValid, decide_true, Bool.not_true, Bool.false_eq_true, if_false, hs]
  rw [if_pos (by decide), if_pos (by decide), if_pos (by decide), pairs_eq _ _ (by simp)]
  simp

end Go.AV
