/- SetOf as a statement on constraints alone: shape, extension, root, copies. -/
import Derived.Test.YtgclbdndnbgnoaaDoorPh
namespace Go.AV
set_option linter.all false

/-! ### formed and shaped tell the same -/
theorem formed_l1 (l : List Node) (hl : l.length ≤ 1000) (hk : ∀ k ∈ l, ∃ b, PL.set_formed k = some b ∧ (b = true → Fm k)) : ∀ (m i : Nat), l.length - i = m →
    (∃ j : Nat, PL.slices_IndexFunc_of_set_formed_1.l0 l i = some (.inr (j : Int))) ∨ (PL.slices_IndexFunc_of_set_formed_1.l0 l i = some (.inl ()) ∧ ∀ k ∈ l.drop i, Fm k) := by
  intro m
  induction m with
  | zero =>
    intro i hm
    right
    rw [PL.slices_IndexFunc_of_set_formed_1.l0, if_neg (by simp <;> omega), List.drop_eq_nil_of_le (by omega)]
    exact ⟨rfl, fun k hk => by cases hk⟩
  | succ m ih =>
    intro i hm
    have hlt : i < l.length := by omega
    obtain ⟨b, h1, h2⟩ := hk _ (List.getElem_mem hlt)
    rw [PL.slices_IndexFunc_of_set_formed_1.l0, if_pos (by simp <;> omega), getI_lit l i hlt]
    simp only [Option.bind_eq_bind, Option.bind_some]
    rw [PL.set_formed_1, h1]
    simp only [Option.bind_eq_bind, Option.bind_some, w64_one i (by omega)]
    cases b with
    | false => exact .inl ⟨i, rfl⟩
    | true =>
      simp only [Bool.not_true, Bool.false_eq_true, if_false]
      rcases ih (i + 1) (by omega) with h | ⟨h, g⟩
      · exact .inl h
      · right
        refine ⟨h, fun k hkk => ?_⟩
        rw [drop_get hlt] at hkk
        rcases List.mem_cons.1 hkk with rfl | hkk
        · exact h2 rfl
        · exact g k hkk
theorem formed_tot : ∀ (n : Node), cnt n ≤ 400 → ∃ b, PL.set_formed n = some b ∧ (b = true → Fm n) := Node.ind fun n ih hn => by
  have hlen := cntL_ge n.Kids
  rw [cnt_eq] at hn
  have kids : ∃ c, PL.slices_ContainsFunc_of_set_formed_1 n.Kids = some c ∧ (c = false → ∀ k ∈ n.Kids, Fm k) := by
    rw [PL.slices_ContainsFunc_of_set_formed_1, PL.slices_IndexFunc_of_set_formed_1]
    rcases formed_l1 n.Kids (by omega) (fun k hk => ih k hk (by have := cntL_mem hk; omega)) _ 0 rfl with ⟨j, h⟩ | ⟨h, g⟩
    · rw [show ((0 : Nat) : Int) = 0 from rfl] at h
      rw [h]
      exact ⟨true, by simp, fun h => by cases h⟩
    · rw [show ((0 : Nat) : Int) = 0 from rfl] at h
      rw [h]
      exact ⟨false, by simp, fun _ k hk => g k (by simpa using hk)⟩
  obtain ⟨c, k1, k2⟩ := kids
  have fin : ∀ b : Bool, ∃ r, (Option.bind (some (Sum.inl b : Bool ⊕ Bool)) fun x => match x with
      | .inl ok => if ok = true then (PL.slices_ContainsFunc_of_set_formed_1 n.Kids).bind fun rv => some (!rv) else some false
      | .inr z => some z) = some r ∧ (r = true → b = true ∧ ∀ k ∈ n.Kids, Fm k) := fun b => by
    cases b with
    | false => exact ⟨false, rfl, fun h => by cases h⟩
    | true =>
      refine ⟨!c, by simp [k1], fun h => ⟨rfl, k2 (by simpa using h)⟩⟩
  obtain ⟨ok, hok, hz⟩ : ∃ z, (if (n.Lo == 0) = true then some (n.Hi == 0) else some false) = some z ∧ (z = true → n.Lo = 0 ∧ n.Hi = 0) := by
    by_cases c : n.Lo = 0
    · exact ⟨n.Hi == 0, by simp [c], fun h => ⟨c, by simpa using h⟩⟩
    · exact ⟨false, by simp [c], fun h => by cases h⟩
  rw [PL.set_formed]
  simp only [hok, Option.bind_eq_bind, Option.bind_some]
  have fin2 : ∀ (b : Bool) (v : Option (Bool ⊕ Bool)), v = (if ok = true then some (Sum.inl b) else some (Sum.inl false)) → ∃ r, (Option.bind v fun x => match x with
      | .inl ok => if ok = true then (PL.slices_ContainsFunc_of_set_formed_1 n.Kids).bind fun rv => some (!rv) else some false
      | .inr z => some z) = some r ∧ (r = true → b = true ∧ n.Lo = 0 ∧ n.Hi = 0 ∧ ∀ k ∈ n.Kids, Fm k) := fun b v hv => by
    subst hv
    cases hh : ok with
    | false =>
      obtain ⟨r, h1, h2⟩ := fin false
      exact ⟨r, by simpa using h1, fun h => by cases (h2 h).1⟩
    | true =>
      obtain ⟨r, h1, h2⟩ := fin b
      exact ⟨r, by simpa using h1, fun h => ⟨(h2 h).1, (hz hh).1, (hz hh).2, (h2 h).2⟩⟩
  by_cases c0 : n.Op = 0
  · rw [if_pos (by simpa using c0)]
    by_cases k0 : n.Kids.length = 0
    · rw [if_pos (by rw [beq_iff_eq]; omega)]
      by_cases k1 : n.Lo ≤ n.Hi
      · rw [if_pos (decide_eq_true k1)]
        by_cases k2 : n.Lo ≥ -1000000000000000
        · rw [if_pos (decide_eq_true k2)]
          have e : n.Kids = [] := List.eq_nil_of_length_eq_zero k0
          exact ⟨_, rfl, fun h => .mk n (fun _ => ⟨e, k1, k2, by simpa using h⟩) (fun h => absurd c0 h) (fun h => by omega) (fun h => by omega) (fun h => by omega) (fun h => by omega) (by omega) (fun k hk => by rw [e] at hk; cases hk)⟩
        · rw [if_neg (by simpa using k2)]; exact ⟨false, rfl, fun h => by cases h⟩
      · rw [if_neg (by simpa using k1)]; exact ⟨false, rfl, fun h => by cases h⟩
    · rw [if_neg (by rw [beq_iff_eq]; omega)]; exact ⟨false, rfl, fun h => by cases h⟩
  · rw [if_neg (by simpa using c0)]
    have e12 : (if (n.Op == 1) = true then some (n.Op == 1) else some (n.Op == 2)) = some (decide (n.Op = 1 ∨ n.Op = 2)) := by
      by_cases c1 : n.Op = 1
      · simp [c1]
      · by_cases c2 : n.Op = 2 <;> simp [c1, c2]
    rw [e12]
    simp only [Option.bind_some]
    by_cases c12 : n.Op = 1 ∨ n.Op = 2
    · rw [if_pos (by simpa using c12)]
      obtain ⟨r, h1, h2⟩ := fin2 _ _ rfl
      refine ⟨r, h1, fun h => ?_⟩
      obtain ⟨f0, f1, f2, f3⟩ := h2 h
      have f0 : (n.Kids.length : Int) ≥ 2 := of_decide_eq_true f0
      exact .mk n (fun h => absurd h c0) (fun _ => ⟨f1, f2⟩) (fun _ => by omega) (fun h => by omega) (fun h => by omega) (fun h => by omega) (by omega) f3
    · rw [if_neg (by simpa using c12)]
      by_cases c3 : n.Op = 3
      · rw [if_pos (by simpa using c3)]
        obtain ⟨r, h1, h2⟩ := fin2 _ _ rfl
        refine ⟨r, h1, fun h => ?_⟩
        obtain ⟨f0, f1, f2, f3⟩ := h2 h
        have f0 : (n.Kids.length : Int) = 2 := by simpa using f0
        exact .mk n (fun h => absurd h c0) (fun _ => ⟨f1, f2⟩) (fun h => absurd h c12) (fun _ => by omega) (fun h => by omega) (fun h => by omega) (by omega) f3
      · rw [if_neg (by simpa using c3)]
        by_cases c4 : n.Op = 4
        · rw [if_pos (by simpa using c4)]
          obtain ⟨r, h1, h2⟩ := fin2 _ _ rfl
          refine ⟨r, h1, fun h => ?_⟩
          obtain ⟨f0, f1, f2, f3⟩ := h2 h
          have f0 : (n.Kids.length : Int) = 0 := by simpa using f0
          exact .mk n (fun h => absurd h c0) (fun _ => ⟨f1, f2⟩) (fun h => absurd h c12) (fun h => absurd h c3) (fun _ => List.eq_nil_of_length_eq_zero (by omega)) (fun h => by omega) (by omega) f3
        · rw [if_neg (by simpa using c4)]
          by_cases c5 : n.Op = 5
          · rw [if_pos (by simpa using c5)]
            obtain ⟨r, h1, h2⟩ := fin2 _ _ rfl
            refine ⟨r, h1, fun h => ?_⟩
            obtain ⟨f0, f1, f2, f3⟩ := h2 h
            have f0 : (n.Kids.length : Int) = 1 := by simpa using f0
            exact .mk n (fun h => absurd h c0) (fun _ => ⟨f1, f2⟩) (fun h => absurd h c12) (fun h => absurd h c3) (fun h => absurd h c4) (fun _ => by omega) (by omega) f3
          · rw [if_neg (by simpa using c5)]; exact ⟨false, rfl, fun h => by cases h⟩

theorem shaped_l1 (n : Node) (hl : n.Kids.length ≤ 1000) (hk : ∀ k ∈ n.Kids, PL.ref03_shaped k = some true) : ∀ (m i : Nat), n.Kids.length - i = m → PL.ref03_shaped.l0 n i = some (.inl ()) := by
  intro m
  induction m with
  | zero => intro i hm; rw [PL.ref03_shaped.l0, if_neg (by simp <;> omega)]
  | succ m ih =>
    intro i hm
    have hlt : i < n.Kids.length := by omega
    rw [PL.ref03_shaped.l0, if_pos (by simp <;> omega), getI_lit n.Kids i hlt]
    simp only [Option.bind_eq_bind, Option.bind_some, hk _ (List.getElem_mem hlt), w64_one i (by omega)]
    exact ih (i + 1) (by omega)
theorem shaped_fm {n : Node} (h : Fm n) (hc : cnt n ≤ 400) : PL.ref03_shaped n = some true := by
  induction h with
  | mk n h0 hz h12 h3 h4 h5 hop hk ih =>
    have hlen := cntL_ge n.Kids
    rw [cnt_eq] at hc
    have kids := shaped_l1 n (by omega) (fun k hkk => ih k hkk (by have := cntL_mem hkk; omega)) _ 0 rfl
    rw [show ((0 : Nat) : Int) = 0 from rfl] at kids
    rw [PL.ref03_shaped]
    simp only [Option.bind_eq_bind]
    by_cases c0 : n.Op = 0
    · obtain ⟨k0, k1, k2, k3⟩ := h0 c0
      simp [c0, k0, k1, k2, k3]
    · obtain ⟨z1, z2⟩ := hz c0
      have e12 : (if (n.Op == 1) = true then some (n.Op == 1) else some (n.Op == 2)) = some (decide (n.Op = 1 ∨ n.Op = 2)) := by
        by_cases c1 : n.Op = 1
        · simp [c1]
        · by_cases c2 : n.Op = 2 <;> simp [c1, c2]
      rw [if_neg (by simpa using c0), e12]
      simp only [Option.bind_some]
      by_cases c12 : n.Op = 1 ∨ n.Op = 2
      · have := h12 c12
        rw [if_pos (by simpa using c12), if_neg (by simp <;> omega)]
        simp [z1, z2, kids]
      · rw [if_neg (by simpa using c12)]
        by_cases c3 : n.Op = 3
        · have := h3 c3
          rw [if_pos (by simpa using c3), if_neg (by rw [bne_iff_ne]; omega)]
          simp [z1, z2, kids]
        · rw [if_neg (by simpa using c3)]
          by_cases c4 : n.Op = 4
          · have := h4 c4
            rw [if_pos (by simpa using c4), if_neg (by rw [this]; simp)]
            simp [z1, z2, kids]
          · have c5 : n.Op = 5 := by omega
            have := h5 c5
            rw [if_neg (by simpa using c4), if_pos (by simpa using c5), if_neg (by rw [bne_iff_ne]; omega)]
            simp [z1, z2, kids]
theorem formed_shaped (n : Node) (hc : cnt n ≤ 400) : ∃ b, PL.set_formed n = some b ∧ PL.ref03_shaped n = some b ∧ (b = true → Fm n) := by
  obtain ⟨b, h1, h2⟩ := formed_tot n hc
  obtain ⟨c, h3, h4⟩ := shaped_eq n hc
  cases b with
  | true => exact ⟨true, h1, shaped_fm (h2 rfl) hc, h2⟩
  | false =>
    cases c with
    | false => exact ⟨false, h1, h3, h2⟩
    | true => rw [formed_eq (h4 rfl) hc] at h1; cases h1
theorem checks (n : Node) (hc : cnt n ≤ 400) : ∃ e, PL.set_check n = some e ∧ PL.ref03_Check n = some e ∧ (e = 0 → Fm n ∧ cnt n ≤ 200 ∧ dep n ≤ 20) := by
  obtain ⟨a, d, h1, h2, h3, h4, h5⟩ := rsize_eq n hc
  obtain ⟨b, s1, s2, s3⟩ := formed_shaped n hc
  have hs : PL.set_check n = (if decide ((cnt n : Int) > 200) then some 2 else if decide ((dep n : Int) > 20) then some 2 else some (if b then 0 else 1)) := by
    unfold PL.set_check
    rw [psize_eq n hc]
    simp only [Option.bind_eq_bind, Option.bind_some, s1]
    cases b <;> rfl
  have hr : PL.ref03_Check n = (if decide ((a : Int) > 200) then some 2 else if decide ((d : Int) > 20) then some 2 else some (if b then 0 else 1)) := by
    unfold PL.ref03_Check
    rw [h1]
    simp only [Option.bind_eq_bind, Option.bind_some, s2]
    cases b <;> rfl
  rw [hs, hr]
  by_cases c : a > 200
  · exact ⟨2, if_pos (decide_eq_true (by omega)), if_pos (decide_eq_true (by omega)), fun h => by cases h⟩
  · obtain ⟨e1, e2⟩ := h5 (by omega)
    rw [e1, e2]
    rw [e1] at c
    simp only [show ¬ ((cnt n : Int) > 200) by omega, decide_false, Bool.false_eq_true, if_false]
    by_cases c2 : dep n > 20
    · exact ⟨2, if_pos (decide_eq_true (by omega)), if_pos (decide_eq_true (by omega)), fun h => by cases h⟩
    · simp only [show ¬ ((dep n : Int) > 20) by omega, decide_false, Bool.false_eq_true, if_false]
      cases b with
      | false => exact ⟨1, rfl, rfl, fun h => by cases h⟩
      | true => exact ⟨0, rfl, rfl, fun _ => ⟨s3 rfl, by omega, by omega⟩⟩

/-! ### extends -/
theorem ext_l0 (n : Node) (hl : n.Kids.length ≤ 1000) (hk : ∀ k ∈ n.Kids, ∃ b, PL.set_extends k = some b ∧ PL.ref03_extends k = some b) : ∀ (m i : Nat), n.Kids.length - i = m →
    (∃ j : Nat, PL.slices_IndexFunc_of_set_extends.l0 n.Kids i = some (.inr (j : Int)) ∧ PL.ref03_extends.l0 n i = some (.inr ())) ∨ (PL.slices_IndexFunc_of_set_extends.l0 n.Kids i = some (.inl ()) ∧ PL.ref03_extends.l0 n i = some (.inl ())) := by
  intro m
  induction m with
  | zero =>
    intro i hm
    rw [PL.slices_IndexFunc_of_set_extends.l0, if_neg (by simp <;> omega), PL.ref03_extends.l0, if_neg (by simp <;> omega)]
    exact .inr ⟨rfl, rfl⟩
  | succ m ih =>
    intro i hm
    have hlt : i < n.Kids.length := by omega
    obtain ⟨b, h1, h2⟩ := hk _ (List.getElem_mem hlt)
    rw [PL.slices_IndexFunc_of_set_extends.l0, if_pos (by simp <;> omega), PL.ref03_extends.l0, if_pos (by simp <;> omega), getI_lit n.Kids i hlt]
    simp only [Option.bind_eq_bind, Option.bind_some, h1, h2, w64_one i (by omega)]
    cases b with
    | true => exact .inl ⟨i, rfl, rfl⟩
    | false => exact ih (i + 1) (by omega)
theorem ext_l1 (n : Node) (hl : n.Kids.length ≤ 1000) (hk : ∀ k ∈ n.Kids, ∃ b, PL.set_extends k = some b ∧ PL.ref03_extends k = some b) : ∀ (m i : Nat), n.Kids.length - i = m →
    (∃ j : Nat, PL.slices_IndexFunc_of_set_extends_1.l0 n.Kids i = some (.inr (j : Int)) ∧ PL.ref03_extends.l1 n i = some (.inr ())) ∨ (PL.slices_IndexFunc_of_set_extends_1.l0 n.Kids i = some (.inl ()) ∧ PL.ref03_extends.l1 n i = some (.inl ())) := by
  intro m
  induction m with
  | zero =>
    intro i hm
    rw [PL.slices_IndexFunc_of_set_extends_1.l0, if_neg (by simp <;> omega), PL.ref03_extends.l1, if_neg (by simp <;> omega)]
    exact .inr ⟨rfl, rfl⟩
  | succ m ih =>
    intro i hm
    have hlt : i < n.Kids.length := by omega
    obtain ⟨b, h1, h2⟩ := hk _ (List.getElem_mem hlt)
    rw [PL.slices_IndexFunc_of_set_extends_1.l0, if_pos (by simp <;> omega), PL.ref03_extends.l1, if_pos (by simp <;> omega), getI_lit n.Kids i hlt]
    simp only [Option.bind_eq_bind, Option.bind_some, h2, w64_one i (by omega)]
    rw [PL.set_extends_1, h1]
    simp only [Option.bind_eq_bind, Option.bind_some]
    cases b with
    | false => exact .inl ⟨i, rfl, rfl⟩
    | true => exact ih (i + 1) (by omega)
theorem ext_eq {n : Node} (h : Fm n) (hc : cnt n ≤ 400) : ∃ b, PL.set_extends n = some b ∧ PL.ref03_extends n = some b := by
  induction h with
  | mk n h0 hz h12 h3 h4 h5 hop hk ih =>
    have hlen := cntL_ge n.Kids
    rw [cnt_eq] at hc
    have ih' : ∀ k ∈ n.Kids, ∃ b, PL.set_extends k = some b ∧ PL.ref03_extends k = some b := fun k hkk => ih k hkk (by have := cntL_mem hkk; omega)
    have sE : PL.set_extends n = if n.Op = 5 then some true else if n.Op = 1 then PL.slices_ContainsFunc_of_set_extends n.Kids else if n.Op = 2 then (PL.slices_ContainsFunc_of_set_extends_1 n.Kids).bind fun b => some (!b) else if n.Op = 3 then (getI n.Kids 0).bind PL.set_extends else some false := by
      rw [PL.set_extends]
      simp [Option.bind_eq_bind]
    have rE : PL.ref03_extends n = if n.Op = 1 then (PL.ref03_extends.l0 n 0).bind fun x => match x with | .inl _ => some (n.Op == 5) | .inr _ => some true else if n.Op = 2 then (PL.ref03_extends.l1 n 0).bind fun x => match x with | .inl _ => some true | .inr _ => some false else if n.Op = 3 then (getI n.Kids 0).bind PL.ref03_extends else some (n.Op == 5) := by
      rw [PL.ref03_extends]
      simp only [Option.bind_eq_bind, beq_iff_eq]
      split
      · cases PL.ref03_extends.l0 n 0 with
        | none => rfl
        | some x => cases x <;> rfl
      · split
        · cases PL.ref03_extends.l1 n 0 with
          | none => rfl
          | some x => cases x <;> rfl
        · split
          · cases getI n.Kids 0 with
            | none => rfl
            | some x =>
              simp only [Option.bind_some]
              cases PL.ref03_extends x <;> rfl
          · rfl
    rw [sE, rE]
    by_cases c5 : n.Op = 5
    · exact ⟨true, by simp [c5], by simp [c5]⟩
    · by_cases c1 : n.Op = 1
      · simp only [c1, if_true, show ¬ ((1 : Int) = 5) by decide, if_false]
        rw [PL.slices_ContainsFunc_of_set_extends, PL.slices_IndexFunc_of_set_extends]
        rcases ext_l0 n (by omega) ih' _ 0 rfl with ⟨j, h1, h2⟩ | ⟨h1, h2⟩ <;> rw [show ((0 : Nat) : Int) = 0 from rfl] at h1 h2 <;> rw [h1, h2]
        · exact ⟨true, by simp, by simp⟩
        · exact ⟨false, by simp, by simp⟩
      · by_cases c2 : n.Op = 2
        · simp only [c2, if_true, show ¬ ((2 : Int) = 5) by decide, show ¬ ((2 : Int) = 1) by decide, if_false]
          rw [PL.slices_ContainsFunc_of_set_extends_1, PL.slices_IndexFunc_of_set_extends_1]
          rcases ext_l1 n (by omega) ih' _ 0 rfl with ⟨j, h1, h2⟩ | ⟨h1, h2⟩ <;> rw [show ((0 : Nat) : Int) = 0 from rfl] at h1 h2 <;> rw [h1, h2]
          · exact ⟨false, by simp, by simp⟩
          · exact ⟨true, by simp, by simp⟩
        · by_cases c3 : n.Op = 3
          · have hlt : 0 < n.Kids.length := by rw [h3 c3]; decide
            obtain ⟨b, h1, h2⟩ := ih' _ (List.getElem_mem hlt)
            have := getI_lit n.Kids 0 hlt
            rw [show ((0 : Nat) : Int) = 0 from rfl] at this
            simp only [c1, c2, c3, if_false, if_true, this, Option.bind_some, h1, h2, show ¬ ((3 : Int) = 5) by decide, show ¬ ((3 : Int) = 2) by decide, show ¬ ((3 : Int) = 1) by decide]
            exact ⟨b, rfl, rfl⟩
          · simp only [c1, c2, c3, c5, if_false]
            exact ⟨false, rfl, by simp [c5]⟩

/-! ### root, back, Same -/
theorem rroot_l0 (n : Node) (hl : n.Kids.length ≤ 1000) (hk : ∀ k ∈ n.Kids, PL.ref03_root k = some (rootN k)) : ∀ (m i : Nat) (c : List Node), n.Kids.length - i = m → c.length ≤ i →
    PL.ref03_root.l0 n c i = some (c ++ (n.Kids.drop i).map rootN) := by
  intro m
  induction m with
  | zero =>
    intro i c hm hc
    rw [PL.ref03_root.l0, if_neg (by simp <;> omega), List.drop_eq_nil_of_le (by omega), List.map_nil, List.append_nil]
  | succ m ih =>
    intro i c hm hc
    have hlt : i < n.Kids.length := by omega
    rw [PL.ref03_root.l0, if_pos (by simp <;> omega), getI_lit n.Kids i hlt]
    simp only [Option.bind_eq_bind, Option.bind_some, hk _ (List.getElem_mem hlt), w64_one i (by omega)]
    rw [room_ok (by omega)]
    simp only [Option.bind_some]
    rw [ih (i + 1) _ (by omega) (by simp; omega), drop_get hlt, List.map_cons, List.append_assoc]
    rfl
theorem rroot_eq {n : Node} (h : Fm n) (hc : cnt n ≤ 400) : PL.ref03_root n = some (rootN n) := by
  induction h with
  | mk n h0 hz h12 h3 h4 h5 hop hk ih =>
    have hlen := cntL_ge n.Kids
    rw [cnt_eq] at hc
    have ih' : ∀ k ∈ n.Kids, PL.ref03_root k = some (rootN k) := fun k hkk => ih k hkk (by have := cntL_mem hkk; omega)
    rw [PL.ref03_root, rootN_eq]
    by_cases c5 : n.Op = 5
    · rw [if_pos (by simpa using c5), if_pos c5]
      obtain ⟨k, hkk⟩ := one_kid (h5 c5)
      have := ih' k (by rw [hkk]; exact List.mem_singleton.2 rfl)
      rw [hkk, show getI [k] 0 = some k from rfl]
      simp only [Option.bind_eq_bind, Option.bind_some, this]
      rfl
    · rw [if_neg (by simpa using c5), if_neg c5]
      have := rroot_l0 n (by omega) ih' _ 0 [] rfl (by simp)
      rw [show ((0 : Nat) : Int) = 0 from rfl] at this
      rw [this]
      simp
theorem back_l0 (n : Node) (a : Nat) (ha : 1 ≤ a) (ha' : a ≤ 400) (hl : n.Kids.length ≤ 1000) (hk : ∀ k ∈ n.Kids, PL.law03_back k ((a - 1 : Nat) : Int) = some k) : ∀ (m i : Nat) (c : List Node), n.Kids.length - i = m → c.length ≤ i →
    PL.law03_back.l0 n a c i = some (c ++ n.Kids.drop i) := by
  intro m
  induction m with
  | zero =>
    intro i c hm hc
    rw [PL.law03_back.l0, if_neg (by simp <;> omega), List.drop_eq_nil_of_le (by omega), List.append_nil]
  | succ m ih =>
    intro i c hm hc
    have hlt : i < n.Kids.length := by omega
    have e : w64 ((a : Int) - 1) = ((a - 1 : Nat) : Int) := by rw [w64_id (by omega) (by omega)]; omega
    rw [PL.law03_back.l0, if_pos (by simp <;> omega), if_pos (by simp <;> omega), getI_lit n.Kids i hlt]
    simp only [Option.bind_eq_bind, Option.bind_some, e, hk _ (List.getElem_mem hlt), w64_one i (by omega)]
    rw [room_ok (by omega)]
    simp only [Option.bind_some]
    rw [ih (i + 1) _ (by omega) (by simp; omega), drop_get hlt, List.append_assoc]
    rfl
theorem back_eq : ∀ (n : Node) (a : Nat), a ≤ 400 → dep n ≤ a + 1 → cnt n ≤ 400 → PL.law03_back n a = some n := Node.ind fun n ih a ha hd hn => by
  have hlen := cntL_ge n.Kids
  rw [cnt_eq] at hn
  rw [dep_eq] at hd
  rw [PL.law03_back]
  by_cases h0 : n.Kids = []
  · rw [PL.law03_back.l0, if_neg (by rw [h0]; simp)]
    show some _ = some n
    cases n
    simp only at h0
    rw [h0]
  · have hpos : 1 ≤ a := by
      cases hks : n.Kids with
      | nil => exact absurd hks h0
      | cons k ks =>
        have h1 := depL_mem (ks := n.Kids) (k := k) (by rw [hks]; exact List.mem_cons_self ..)
        have h2 := dep_eq k
        omega
    have := back_l0 n a hpos ha (by omega) (fun k hk => ih k hk (a - 1) (by omega) (by have := depL_mem hk; omega) (by have := cntL_mem hk; omega)) _ 0 [] rfl (by simp)
    rw [show ((0 : Nat) : Int) = 0 from rfl] at this
    rw [this]
    cases n
    rfl
theorem same_l0 (n : Node) (hl : n.Kids.length ≤ 1000) (hk : ∀ k ∈ n.Kids, PL.ref03_Same k k = some true) : ∀ (m i : Nat), n.Kids.length - i = m → PL.ref03_Same.l0 n n i = some (.inl ()) := by
  intro m
  induction m with
  | zero => intro i hm; rw [PL.ref03_Same.l0, if_neg (by simp <;> omega)]
  | succ m ih =>
    intro i hm
    have hlt : i < n.Kids.length := by omega
    rw [PL.ref03_Same.l0, if_pos (by simp <;> omega), getI_lit n.Kids i hlt]
    simp only [Option.bind_eq_bind, Option.bind_some, hk _ (List.getElem_mem hlt), w64_one i (by omega)]
    exact ih (i + 1) (by omega)
theorem same_eq : ∀ n : Node, cnt n ≤ 400 → PL.ref03_Same n n = some true := Node.ind fun n ih hn => by
  have hlen := cntL_ge n.Kids
  rw [cnt_eq] at hn
  have := same_l0 n (by omega) (fun k hk => ih k hk (by have := cntL_mem hk; omega)) _ 0 rfl
  rw [show ((0 : Nat) : Int) = 0 from rfl] at this
  rw [PL.ref03_Same, if_neg (by simp), if_neg (by simp), if_neg (by simp), if_neg (by simp), this]
  rfl
end Go.AV
