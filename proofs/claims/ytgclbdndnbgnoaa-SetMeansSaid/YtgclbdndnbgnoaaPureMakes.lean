/- SetMakes as a statement on lists alone. -/
import Derived.Test.YtgclbdndnbgnoaaPo
import Derived.Test.YtgclbdndnbgnoaaPf
namespace Go.AV
set_option linter.all false

theorem set_nf {s : List Pr} (h : okAll s 0) : ∀ (t : List Pr) (i : Nat), s.drop i = t → NF (if 0 < i then (el s (i - 1)).x1 + 2 else -1000000000000000) t ∧ ∀ r ∈ t, okR r := by
  intro t
  induction t with
  | nil => intro i _; exact ⟨trivial, fun _ h => by cases h⟩
  | cons r t ih =>
    intro i hi
    have hlt : i < s.length := by
      apply Classical.byContradiction
      intro hc
      rw [List.drop_eq_nil_of_le (by omega)] at hi
      cases hi
    have hi' := hi
    rw [drop_get hlt] at hi'
    obtain ⟨rfl, ht⟩ := List.cons.inj hi'
    obtain ⟨n1, n2⟩ := ih (i + 1) ht
    rw [if_pos (by omega), Nat.add_sub_cancel, el_eq hlt] at n1
    have ho := h i (by omega) s[i] (List.getElem?_eq_getElem hlt)
    refine ⟨⟨?_, ho.1, n1⟩, fun q hq => ?_⟩
    · by_cases c : 0 < i
      · rw [if_pos c]
        exact ho.2.2.2 c _ (el_get (by omega))
      · rw [if_neg c]; exact ho.2.1
    · rcases List.mem_cons.1 hq with rfl | hq
      · exact ⟨ho.2.1, ho.1, ho.2.2.1⟩
      · exact n2 q hq
theorem isSet_nf {s : List Pr} (h : isSet s) : NF (-1000000000000000) s ∧ ∀ r ∈ s, okR r := by
  have := set_nf h.2 s 0 rfl
  simpa using this
theorem mem_okR {s : List Pr} (h : ∀ r ∈ s, okR r) {n : Int} (hm : mem s n) : -1000000000000000 ≤ n ∧ n ≤ 1000000000000000 := by
  obtain ⟨r, hr, h1, h2⟩ := hm
  have := h r hr
  unfold okR at this
  omega

/-! ### As, two -/
def leafR (r : Pr) : Node := ⟨0, r.x0, r.x1, []⟩
def none4 : Node := ⟨3, 0, 0, [⟨4, 0, 0, []⟩, ⟨4, 0, 0, []⟩]⟩
theorem As_l0 (a : List Pr) (ha : a.length ≤ 100000) : ∀ (m i : Nat) (c : List Node), a.length - i = m → c.length ≤ i + 1 → PL.ref03_As.l0 a c i = some (c ++ (a.drop i).map leafR) := by
  intro m
  induction m with
  | zero =>
    intro i c hm hc
    rw [PL.ref03_As.l0, if_neg (by simp <;> omega), List.drop_eq_nil_of_le (by omega)]
    simp
  | succ m ih =>
    intro i c hm hc
    have hi : i < a.length := by omega
    rw [PL.ref03_As.l0, if_pos (by simp <;> omega), getI_lit a i hi]
    simp only [Option.bind_eq_bind, Option.bind_some]
    rw [room_ok (by simp; omega), w64_one i (by omega), Option.bind_some, ih (i + 1) _ (by omega) (by simp; omega), drop_get hi, List.map_cons, List.append_assoc]
    rfl
theorem As_eq (a : List Pr) (ha : a.length ≤ 100000) : PL.ref03_As a = some ⟨1, 0, 0, none4 :: a.map leafR⟩ := by
  unfold PL.ref03_As
  have := As_l0 a ha _ 0 [none4] rfl (by simp)
  rw [show ((0 : Nat) : Int) = 0 from rfl, List.drop_zero] at this
  unfold none4 at this
  rw [this]
  rfl
theorem shp_leaf {r : Pr} (h : okR r) : Shp (leafR r) := .mk _ (fun _ => ⟨h.1, h.2.1, h.2.2⟩) (fun h => by cases h) (fun h => by cases h) (by simp [leafR]) (fun k hk => by cases hk)
theorem shp_all : Shp ⟨4, 0, 0, []⟩ := .mk _ (fun h => by cases h) (fun h => by cases h) (fun h => by cases h) (by simp) (fun k hk => by cases hk)
theorem shp_none4 : Shp none4 := .mk _ (fun h => by cases h) (fun _ => rfl) (fun h => by cases h) (by simp [none4]) (fun k hk => by
  have : k = ⟨4, 0, 0, []⟩ := by simpa [none4] using hk
  rw [this]; exact shp_all)
theorem shp_As {a : List Pr} (h : ∀ r ∈ a, okR r) (ha : a.length ≤ 900) : Shp ⟨1, 0, 0, none4 :: a.map leafR⟩ := .mk _ (fun h => by cases h) (fun h => by cases h) (fun h => by cases h) (by simp; omega) (fun k hk => by
  rcases List.mem_cons.1 hk with rfl | hk
  · exact shp_none4
  · obtain ⟨r, hr, rfl⟩ := List.mem_map.1 hk
    exact shp_leaf (h r hr))
theorem holds_none4 (x : Int) : holds none4 x = false := by
  rw [holds_eq]; simp [none4, hold]
theorem holds_leaf (r : Pr) (x : Int) : holds (leafR r) x = (decide (r.x0 ≤ x) && decide (x ≤ r.x1)) := by
  rw [holds_eq]; unfold hold leafR; rw [if_pos rfl]
theorem holds_As (a : List Pr) (x : Int) : holds ⟨1, 0, 0, none4 :: a.map leafR⟩ x = true ↔ mem a x := by
  rw [holds_eq]
  unfold hold mem
  simp only [show ¬ ((1 : Int) = 0) by decide, if_false, if_true, List.map_cons, List.any_cons, holds_none4, List.map_map, List.any_map, id, Bool.false_or, List.any_eq_true, Function.comp]
  constructor
  · rintro ⟨r, hr, h⟩
    rw [holds_leaf] at h
    exact ⟨r, hr, by simpa using h⟩
  · rintro ⟨r, hr, h⟩
    exact ⟨r, hr, by rw [holds_leaf]; simpa using h⟩
theorem cntL_leaf : ∀ a : List Pr, cntL (a.map leafR) = a.length
  | [] => by simp [cntL]
  | r :: a => by simp [cntL, cntL_leaf a, leafR, cnt]; omega
theorem cnt_As (a : List Pr) : cnt ⟨1, 0, 0, none4 :: a.map leafR⟩ = a.length + 4 := by
  simp [cnt, cntL, cntL_leaf, none4]; omega

/-- The two operations agree where the members are the same. -/
theorem two_ok (op : Int) (a b : List Pr) (ha : isSet a) (hb : isSet b) (hop : op = 1 ∨ op = 2 ∨ op = 3) : ∃ m lo, PL.ref03_two op a b = (PL.ref03_told m >>= fun (x, y) => some (x, y)) ∧ NF lo m ∧
    ∀ x, mem m x ↔ (-1000000000000000 ≤ x ∧ x ≤ 1000000000000000 ∧ (if op = 1 then mem a x ∨ mem b x else if op = 2 then mem a x ∧ mem b x else mem a x ∧ ¬ mem b x)) := by
  have la := ha.1
  have lb := hb.1
  have na := isSet_nf ha
  have nb := isSet_nf hb
  have hn : Shp ⟨op, 0, 0, [⟨1, 0, 0, none4 :: a.map leafR⟩, ⟨1, 0, 0, none4 :: b.map leafR⟩]⟩ := .mk _ (fun h => by simp only at h; omega) (fun _ => rfl) (fun h => by simp only at h; omega) (by simp) (fun k hk => by
    rcases List.mem_cons.1 hk with rfl | hk
    · exact shp_As na.2 (by omega)
    · rw [List.mem_singleton] at hk
      rw [hk]; exact shp_As nb.2 (by omega))
  have hcnt : cnt ⟨op, 0, 0, [⟨1, 0, 0, none4 :: a.map leafR⟩, ⟨1, 0, 0, none4 :: b.map leafR⟩]⟩ ≤ 100000 := by
    rw [cnt]; simp only [cntL, cnt_As]; omega
  obtain ⟨m, lo, h1, h2, h3⟩ := set_ok hn hcnt
  refine ⟨m, lo, ?_, h2, fun x => ?_⟩
  · unfold PL.ref03_two
    rw [ref_Valid_eq a (by omega), ref_Valid_eq b (by omega), As_eq a (by omega), As_eq b (by omega)]
    simp only [Option.bind_eq_bind, Option.bind_some, ha, hb, decide_true, Bool.not_true, Bool.false_eq_true, if_false, h1]
  · rw [h3, holds_eq]
    unfold hold
    have e1 := holds_As a x
    have e2 := holds_As b x
    simp only [List.map_cons, List.map_nil]
    generalize holds ⟨1, 0, 0, none4 :: a.map leafR⟩ x = p at *
    generalize holds ⟨1, 0, 0, none4 :: b.map leafR⟩ x = q at *
    rw [← e1, ← e2]
    rcases hop with rfl | rfl | rfl
    · simp
    · simp
    · simp

theorem told_eq (m : List Pr) : PL.ref03_told m = PL.set_limited m := by
  unfold PL.ref03_told PL.set_limited; rfl
theorem okR_len {s : List Pr} (h : isSet s) : s.length ≤ 100 := h.1

theorem both_bad {a b : List Pr} (la : a.length ≤ 300) (lb : b.length ≤ 300) (f : List Pr → List Pr → Option (List Pr)) (op : Int) (h : ¬ isSet a ∨ ¬ isSet b) : PL.set_both a b f = some ([], 1) ∧ PL.ref03_two op a b = some ([], 1) := by
  unfold PL.set_both PL.ref03_two
  rw [set_Valid_eq a (by omega), set_Valid_eq b (by omega), ref_Valid_eq a (by omega), ref_Valid_eq b (by omega)]
  by_cases ha : isSet a
  · have hb : ¬ isSet b := h.resolve_left fun hh => hh ha
    simp [ha, hb]
  · simp [ha]
theorem both_good {a b : List Pr} (ha : isSet a) (hb : isSet b) (f : List Pr → List Pr → Option (List Pr)) {m : List Pr} (h : f a b = some m) : PL.set_both a b f = (PL.set_limited m >>= fun (x, y) => some (x, y)) := by
  unfold PL.set_both
  have := ha.1
  have := hb.1
  rw [set_Valid_eq a (by omega), set_Valid_eq b (by omega)]
  simp only [Option.bind_eq_bind, Option.bind_some, ha, hb, decide_true, Bool.not_true, Bool.false_eq_true, if_false, h]
theorem limited_some (m : List Pr) : ∃ x y, (PL.set_limited m >>= fun (x, y) => some (x, y)) = some (x, y) ∧ x.length ≤ 100 := by
  unfold PL.set_limited
  by_cases c : (m.length : Int) > 100
  · exact ⟨[], 2, by rw [if_pos (decide_eq_true c)]; rfl, by simp⟩
  · exact ⟨m, 0, by rw [if_neg (by simpa using c)]; rfl, by omega⟩

/-- The two answer alike. -/
def alike (x y : Option (List Pr × Int)) : Prop := ∃ l e, x = some (l, e) ∧ y = some (l, e) ∧ l.length ≤ 100
theorem alike_of {a b : List Pr} (la : a.length ≤ 300) (lb : b.length ≤ 300) (f : List Pr → List Pr → Option (List Pr)) (op : Int) (hop : op = 1 ∨ op = 2 ∨ op = 3)
    (hf : isSet a → isSet b → ∃ m lo, f a b = some m ∧ NF lo m ∧ ∀ x, mem m x ↔ (-1000000000000000 ≤ x ∧ x ≤ 1000000000000000 ∧ (if op = 1 then mem a x ∨ mem b x else if op = 2 then mem a x ∧ mem b x else mem a x ∧ ¬ mem b x))) :
    alike (PL.set_both a b f) (PL.ref03_two op a b) := by
  by_cases h : isSet a ∧ isSet b
  · obtain ⟨m, lo, h1, h2, h3⟩ := hf h.1 h.2
    obtain ⟨m', lo', k1, k2, k3⟩ := two_ok op a b h.1 h.2 hop
    have e : m = m' := h2.uniq k2 fun n => by rw [h3, k3]
    subst e
    rw [k1, both_good h.1 h.2 f h1, told_eq]
    obtain ⟨x, y, g1, g2⟩ := limited_some m
    exact ⟨x, y, g1, g1, g2⟩
  · obtain ⟨h1, h2⟩ := both_bad la lb f op (by
      by_cases ha : isSet a
      · exact .inr fun hb => h ⟨ha, hb⟩
      · exact .inl ha)
    exact ⟨[], 1, h1, h2, by simp⟩
theorem union_alike (a b : List Pr) (la : a.length ≤ 300) (lb : b.length ≤ 300) : alike (PL.set_Union a b) (PL.ref03_Union a b) := by
  have := alike_of la lb PL.set_Union_1 1 (.inl rfl) fun ha hb => by
    have na := isSet_nf ha
    have nb := isSet_nf hb
    have hab : ∀ r ∈ a ++ b, okR r := fun r hr => by
      rcases List.mem_append.1 hr with hr | hr
      · exact na.2 r hr
      · exact nb.2 r hr
    obtain ⟨m, k, lo, h1, h2, h3, _⟩ := tidy_ok (a ++ b) hab (by simp; omega)
    refine ⟨m, lo, ?_, h2, fun x => ?_⟩
    · unfold PL.set_Union_1
      rw [concat2 a b (by omega)]
      simp only [Option.bind_eq_bind, Option.bind_some, h1]
    · rw [h3, mem_append, if_pos rfl]
      constructor
      · intro h
        have : -1000000000000000 ≤ x ∧ x ≤ 1000000000000000 := by
          rcases h with h | h
          · exact mem_okR na.2 h
          · exact mem_okR nb.2 h
        exact ⟨this.1, this.2, h⟩
      · exact fun h => h.2.2
  obtain ⟨l, e, h1, h2, h3⟩ := this
  refine ⟨l, e, ?_, ?_, h3⟩
  · unfold PL.set_Union; rw [h1]; rfl
  · unfold PL.ref03_Union; rw [h2]; rfl
theorem meet_alike (a b : List Pr) (la : a.length ≤ 300) (lb : b.length ≤ 300) : alike (PL.set_Meet a b) (PL.ref03_Meet a b) := by
  have := alike_of la lb PL.set_common 2 (.inr (.inl rfl)) fun ha hb => by
    have na := isSet_nf ha
    have nb := isSet_nf hb
    obtain ⟨g1, _, g3⟩ := comR_ok _ a b _ _ (Nat.le_refl _) na.1 nb.1
    refine ⟨comR a b, _, common_eq a b (by omega) (by omega), g1, fun x => ?_⟩
    rw [g3, if_neg (by decide), if_pos rfl]
    exact ⟨fun h => ⟨(mem_okR na.2 h.1).1, (mem_okR na.2 h.1).2, h⟩, fun h => h.2.2⟩
  obtain ⟨l, e, h1, h2, h3⟩ := this
  refine ⟨l, e, ?_, ?_, h3⟩
  · unfold PL.set_Meet; rw [h1]; rfl
  · unfold PL.ref03_Meet; rw [h2]; rfl
theorem outR_len : ∀ (s : List Pr) (lo : Int), (outR lo s).length ≤ s.length + 1
  | [], lo => by unfold outR; split <;> simp
  | r :: s, lo => by
    unfold outR
    have := outR_len s (r.x1 + 1)
    rw [List.length_append]
    split <;> simp <;> omega
theorem except_alike (a b : List Pr) (la : a.length ≤ 300) (lb : b.length ≤ 300) : alike (PL.set_Except a b) (PL.ref03_Except a b) := by
  have := alike_of la lb PL.set_Except_1 3 (.inr (.inr rfl)) fun ha hb => by
    have na := isSet_nf ha
    have nb := isSet_nf hb
    obtain ⟨o1, o2⟩ := outR_ok b _ nb.1 (fun r hr => (nb.2 r hr).2.2)
    have ol := outR_len b (-1000000000000000)
    obtain ⟨g1, _, g3⟩ := comR_ok _ a (outR (-1000000000000000) b) _ _ (Nat.le_refl _) na.1 o1
    refine ⟨comR a (outR (-1000000000000000) b), _, ?_, g1, fun x => ?_⟩
    · unfold PL.set_Except_1
      rw [outside_eq b (by omega) nb.2]
      simp only [Option.bind_eq_bind, Option.bind_some, common_eq a (outR (-1000000000000000) b) (by omega) (by omega)]
    · rw [g3, o2, if_neg (by decide), if_neg (by decide)]
      constructor
      · rintro ⟨h1, h2, h3, h4⟩; exact ⟨h2, h3, h1, h4⟩
      · rintro ⟨h1, h2, h3, h4⟩; exact ⟨h3, h1, h2, h4⟩
  obtain ⟨l, e, h1, h2, h3⟩ := this
  refine ⟨l, e, ?_, ?_, h3⟩
  · unfold PL.set_Except; rw [h1]; rfl
  · unfold PL.ref03_Except; rw [h2]; rfl

/-! ### The example -/
theorem w0 : w64 (0 + 1) = 1 := by decide
theorem w1 : w64 (1 + 1) = 2 := by decide
theorem wOne : w64 1 = 1 := by decide
theorem sizeLeaf (lo hi : Int) : PL.set_size ⟨0, lo, hi, []⟩ = some (1, 1) := by
  rw [PL.set_size, PL.set_size.l0, if_neg (by simp)]
  simp [wOne]
theorem formedLeaf (lo hi : Int) (h : lo ≤ hi) (h1 : -1000000000000000 ≤ lo) (h2 : hi ≤ 1000000000000000) : PL.set_formed ⟨0, lo, hi, []⟩ = some true := by
  rw [PL.set_formed]
  obtain ⟨z, hz⟩ : ∃ z, (if (lo == 0) = true then some (hi == 0) else some false) = some z := by by_cases c : (lo == 0) = true <;> simp [c]
  simp only [hz, Option.bind_eq_bind, Option.bind_some]
  simp [h, h1, h2]
theorem valueLeaf (lo hi : Int) : PL.set_value ⟨0, lo, hi, []⟩ = some [⟨lo, hi⟩] := by
  rw [PL.set_value, PL.set_value.l0, if_neg (by simp)]
  simp
def exN : Node := ⟨3, 0, 0, [⟨0, 1, 5, []⟩, ⟨0, 3, 3, []⟩]⟩
theorem exSize : PL.set_size exN = some (3, 2) := by
  rw [PL.set_size, exN, PL.set_size.l0, if_pos (by simp)]
  have g0 : getI [Node.mk 0 1 5 [], Node.mk 0 3 3 []] 0 = some ⟨0, 1, 5, []⟩ := rfl
  have g1 : getI [Node.mk 0 1 5 [], Node.mk 0 3 3 []] 1 = some ⟨0, 3, 3, []⟩ := rfl
  simp only [g0, Option.bind_eq_bind, Option.bind_some, sizeLeaf, w0]
  rw [PL.set_size.l0, if_pos (by simp)]
  simp only [g1, Option.bind_eq_bind, Option.bind_some, sizeLeaf, w1]
  rw [PL.set_size.l0, if_neg (by simp)]
  decide
theorem exFormed : PL.set_formed exN = some true := by
  have f0 : PL.set_formed_1 ⟨0, 1, 5, []⟩ = some false := by rw [PL.set_formed_1, formedLeaf _ _ (by omega) (by omega) (by omega)]; rfl
  have f1 : PL.set_formed_1 ⟨0, 3, 3, []⟩ = some false := by rw [PL.set_formed_1, formedLeaf _ _ (by omega) (by omega) (by omega)]; rfl
  have g0 : getI [Node.mk 0 1 5 [], Node.mk 0 3 3 []] 0 = some ⟨0, 1, 5, []⟩ := rfl
  have g1 : getI [Node.mk 0 1 5 [], Node.mk 0 3 3 []] 1 = some ⟨0, 3, 3, []⟩ := rfl
  have i : PL.slices_IndexFunc_of_set_formed_1.l0 [⟨0, 1, 5, []⟩, ⟨0, 3, 3, []⟩] 0 = some (.inl ()) := by
    rw [PL.slices_IndexFunc_of_set_formed_1.l0, if_pos (by simp), g0]
    simp only [Option.bind_eq_bind, Option.bind_some, f0, Bool.false_eq_true, if_false, w0]
    rw [PL.slices_IndexFunc_of_set_formed_1.l0, if_pos (by simp), g1]
    simp only [Option.bind_eq_bind, Option.bind_some, f1, Bool.false_eq_true, if_false, w1]
    rw [PL.slices_IndexFunc_of_set_formed_1.l0, if_neg (by simp)]
  have c : PL.slices_ContainsFunc_of_set_formed_1 [⟨0, 1, 5, []⟩, ⟨0, 3, 3, []⟩] = some false := by
    rw [PL.slices_ContainsFunc_of_set_formed_1, PL.slices_IndexFunc_of_set_formed_1, i]
    decide
  rw [PL.set_formed]
  simp [exN, c]
theorem exValue : PL.set_value exN = some [⟨1, 2⟩, ⟨4, 5⟩] := by
  have g0 : getI [Node.mk 0 1 5 [], Node.mk 0 3 3 []] 0 = some ⟨0, 1, 5, []⟩ := rfl
  have g1 : getI [Node.mk 0 1 5 [], Node.mk 0 3 3 []] 1 = some ⟨0, 3, 3, []⟩ := rfl
  have l : PL.set_value.l0 exN [] 0 = some [[⟨1, 5⟩], [⟨3, 3⟩]] := by
    rw [exN, PL.set_value.l0, if_pos (by simp), g0]
    simp only [Option.bind_eq_bind, Option.bind_some, valueLeaf, w0]
    rw [room_ok (by simp), Option.bind_some, PL.set_value.l0, if_pos (by simp), g1]
    simp only [Option.bind_eq_bind, Option.bind_some, valueLeaf, w1]
    rw [room_ok (by simp), Option.bind_some, PL.set_value.l0, if_neg (by simp)]
    rfl
  have h0 : getI [[Pr.mk 1 5], [Pr.mk 3 3]] 0 = some [⟨1, 5⟩] := rfl
  have h1 : getI [[Pr.mk 1 5], [Pr.mk 3 3]] 1 = some [⟨3, 3⟩] := rfl
  unfold exN at l ⊢
  rw [PL.set_value, l]
  simp only [Option.bind_eq_bind, Option.bind_some]
  rw [if_neg (by decide), if_neg (by decide), if_neg (by decide), if_pos (by decide), h0, h1]
  simp only [Option.bind_some]
  rw [outside_eq _ (by simp) (fun r hr => by
    rw [List.mem_singleton] at hr
    subst hr
    unfold okR
    simp only
    omega)]
  simp only [Option.bind_some]
  have e : outR (-1000000000000000) [⟨3, 3⟩] = [⟨-1000000000000000, 2⟩, ⟨4, 1000000000000000⟩] := by decide
  rw [e, common_eq _ _ (by simp) (by simp)]
  rw [comR_cons, comR_cons]
  simp only [comR_nil, comR_nil']
  decide
theorem exValid : isSet [⟨1, 2⟩, ⟨4, 5⟩] := by
  refine ⟨by simp, fun j _ r hr => ?_⟩
  match j, hr with
  | 0, hr => simp at hr; subst hr; simp
  | 1, hr => simp at hr; subst hr; simp
  | j + 2, hr => simp at hr
theorem sane_true : PL.law03_sane = some true := by
  have g0 : getI [Pr.mk 1 2, Pr.mk 4 5] 0 = some ⟨1, 2⟩ := rfl
  have g1 : getI [Pr.mk 1 2, Pr.mk 4 5] 1 = some ⟨4, 5⟩ := rfl
  have hs : PL.set_Size.l0 [⟨1, 2⟩, ⟨4, 5⟩] 0 0 = some 4 := by
    rw [PL.set_Size.l0, if_pos (by simp), g0]
    simp only [Option.bind_eq_bind, Option.bind_some, w0]
    rw [PL.set_Size.l0, if_pos (by simp), g1]
    simp only [Option.bind_eq_bind, Option.bind_some, w1]
    rw [PL.set_Size.l0, if_neg (by simp)]
    decide
  unfold PL.law03_sane PL.set_Of PL.set_check PL.set_limited PL.set_Size
  have e1 := exSize
  have e2 := exFormed
  have e3 := exValue
  unfold exN at e1 e2 e3
  simp only [e1, e2, e3, Option.bind_eq_bind, Option.bind_some]
  rw [if_neg (by decide)]
  rw [if_neg (by decide)]
  simp only [Bool.not_true, Bool.false_eq_true, if_false, Option.bind_some]
  rw [if_neg (by decide), if_neg (by simp)]
  simp only [Option.bind_some]
  rw [set_Valid_eq _ (by simp)]
  simp only [Option.bind_some, exValid, decide_true, Bool.not_true, Bool.false_eq_true, if_false, hs]
  rw [if_pos (by decide), if_pos (by decide), if_pos (by decide), pairs_eq _ _ (by simp)]
  simp

/-- SetMakes tells true. -/
theorem pureMakes (a b : List Pr) : PL.law03_SetMakes a b = some true := by
  unfold PL.law03_SetMakes
  rw [sane_true]
  by_cases la : (a.length : Int) > 300
  · rw [if_pos (decide_eq_true la)]; rfl
  · rw [if_neg (by simpa using la)]
    by_cases lb : (b.length : Int) > 300
    · rw [if_pos (decide_eq_true lb)]; rfl
    · rw [if_neg (by simpa using lb)]
      have la' : a.length ≤ 300 := by omega
      have lb' : b.length ≤ 300 := by omega
      unfold PL.ref01_CopyPairs
      rw [room_ok (by omega), room_ok (by omega)]
      simp only [Option.bind_eq_bind, Option.bind_some]
      obtain ⟨l1, e1, u1, u2, u3⟩ := union_alike a b la' lb'
      obtain ⟨l2, e2, m1, m2, m3⟩ := meet_alike a b la' lb'
      obtain ⟨l3, e3, x1, x2, x3⟩ := except_alike a b la' lb'
      obtain ⟨⟨s1, s2⟩, z1, z2⟩ := size_eq a (by omega)
      obtain ⟨⟨h1, h2, h3⟩, y1, y2⟩ := hull_eq a (by omega)
      simp only [u1, u2, m1, m2, x1, x2, z1, z2, y1, y2, Option.bind_some, bne_self_eq_false, Bool.false_eq_true, if_false, pairs_eq l1 l1 (by omega), pairs_eq l2 l2 (by omega), pairs_eq l3 l3 (by omega), pairs_eq a a (by omega), pairs_eq b b (by omega), decide_true, Bool.not_true, beq_self_eq_true, if_true, set_Valid_eq a (by omega), ref_Valid_eq a (by omega)]
end Go.AV
