/- What the reference's functions are, in plain words: by places. -/
import Derived.Test.YtgclbdndnbgnoaaDoorPn
namespace Go.AV
set_option linter.all false

/-! ### Constraints in plain words -/
def hold (op lo hi x : Int) (ks : List Bool) : Bool :=
  if op = 0 then decide (lo ≤ x) && decide (x ≤ hi)
  else if op = 1 then ks.any id
  else if op = 2 then ks.all id
  else if op = 3 then ks.getD 0 false && !(ks.getD 1 false)
  else if op = 5 then ks.getD 0 false
  else decide (-1000000000000000 ≤ x) && decide (x ≤ 1000000000000000)
mutual
def holds : Node → Int → Bool
  | ⟨op, lo, hi, ks⟩, x => hold op lo hi x (holdsL ks x)
def holdsL : List Node → Int → List Bool
  | [], _ => []
  | k :: ks, x => holds k x :: holdsL ks x
 end
theorem holdsL_eq : ∀ (ks : List Node) (x : Int), holdsL ks x = ks.map fun k => holds k x
  | [], x => by simp [holdsL]
  | k :: ks, x => by simp [holdsL, holdsL_eq ks x]
theorem holds_eq (n : Node) (x : Int) : holds n x = hold n.Op n.Lo n.Hi x (n.Kids.map fun k => holds k x) := by
  cases n; simp [holds, holdsL_eq]
mutual
def plc : Node → List Int
  | ⟨op, lo, hi, ks⟩ => (if op = 0 then [lo, hi + 1] else []) ++ plcL ks
def plcL : List Node → List Int
  | [] => []
  | k :: ks => plc k ++ plcL ks
 end
theorem plcL_eq : ∀ ks : List Node, plcL ks = ks.flatMap plc
  | [] => by simp [plcL]
  | k :: ks => by simp [plcL, plcL_eq ks]
theorem plc_eq (n : Node) : plc n = (if n.Op = 0 then [n.Lo, n.Hi + 1] else []) ++ n.Kids.flatMap plc := by
  cases n; simp [plc, plcL_eq]

/-- A constraint as far as it must be one. -/
inductive Shp : Node → Prop where
  | mk (n : Node) : (n.Op = 0 → -1000000000000000 ≤ n.Lo ∧ n.Lo ≤ n.Hi ∧ n.Hi ≤ 1000000000000000) → (n.Op = 3 → n.Kids.length = 2) → (n.Op = 5 → n.Kids.length = 1) → n.Kids.length ≤ 1000 → (∀ k ∈ n.Kids, Shp k) → Shp n

/-! ### Holds -/
theorem holds_l0 (n : Node) (x : Int) (hl : n.Kids.length ≤ 1000) (hk : ∀ k ∈ n.Kids, PL.ref03_Holds k x = some (holds k x)) : ∀ (m i : Nat), n.Kids.length - i = m →
    PL.ref03_Holds.l0 n x i = some (if (n.Kids.drop i).any (fun k => holds k x) = true then .inr () else .inl ()) := by
  intro m
  induction m with
  | zero =>
    intro i hm
    rw [PL.ref03_Holds.l0, if_neg (by simp <;> omega), List.drop_eq_nil_of_le (by omega)]
    rfl
  | succ m ih =>
    intro i hm
    have hi : i < n.Kids.length := by omega
    have g : getI n.Kids (i : Int) = some n.Kids[i] := by rw [getI_nat, List.getElem?_eq_getElem hi]
    rw [PL.ref03_Holds.l0, if_pos (by simp <;> omega), g]
    simp only [Option.bind_eq_bind, Option.bind_some, hk _ (List.getElem_mem hi), w64_one i (by omega), ih (i + 1) (by omega)]
    rw [drop_get hi, List.any_cons]
    cases holds n.Kids[i] x <;> simp
theorem holds_l1 (n : Node) (x : Int) (hl : n.Kids.length ≤ 1000) (hk : ∀ k ∈ n.Kids, PL.ref03_Holds k x = some (holds k x)) : ∀ (m i : Nat), n.Kids.length - i = m →
    PL.ref03_Holds.l1 n x i = some (if (n.Kids.drop i).all (fun k => holds k x) = true then .inl () else .inr ()) := by
  intro m
  induction m with
  | zero =>
    intro i hm
    rw [PL.ref03_Holds.l1, if_neg (by simp <;> omega), List.drop_eq_nil_of_le (by omega)]
    rfl
  | succ m ih =>
    intro i hm
    have hi : i < n.Kids.length := by omega
    have g : getI n.Kids (i : Int) = some n.Kids[i] := by rw [getI_nat, List.getElem?_eq_getElem hi]
    rw [PL.ref03_Holds.l1, if_pos (by simp <;> omega), g]
    simp only [Option.bind_eq_bind, Option.bind_some, hk _ (List.getElem_mem hi), w64_one i (by omega), ih (i + 1) (by omega)]
    rw [drop_get hi, List.all_cons]
    cases holds n.Kids[i] x <;> simp
theorem getI_lit {α : Type} (l : List α) (i : Nat) (h : i < l.length) : getI l (i : Int) = some l[i] := by rw [getI_nat, List.getElem?_eq_getElem h]
theorem Holds_eq {n : Node} (h : Shp n) (x : Int) : PL.ref03_Holds n x = some (holds n x) := by
  induction h with
  | mk n h0 h3 h5 hl hk ih =>
    rw [PL.ref03_Holds, holds_eq]
    unfold hold
    by_cases c0 : n.Op = 0
    · simp only [c0, beq_self_eq_true, if_true]
      by_cases c : n.Lo ≤ x
      · simp [c]
      · simp [c]
    · rw [if_neg (by simpa using c0), if_neg c0]
      by_cases c1 : n.Op = 1
      · have := holds_l0 n x hl ih _ 0 rfl
        rw [show ((0 : Nat) : Int) = 0 from rfl] at this
        rw [if_pos (by simpa using c1), if_pos c1, this, List.drop_zero, List.any_map]
        have e : (id ∘ fun k => holds k x) = fun k => holds k x := rfl
        rw [e]
        cases n.Kids.any (fun k => holds k x) <;> rfl
      · rw [if_neg (by simpa using c1), if_neg c1]
        by_cases c2 : n.Op = 2
        · have := holds_l1 n x hl ih _ 0 rfl
          rw [show ((0 : Nat) : Int) = 0 from rfl] at this
          rw [if_pos (by simpa using c2), if_pos c2, this, List.drop_zero, List.all_map]
          have e : (id ∘ fun k => holds k x) = fun k => holds k x := rfl
          rw [e]
          cases n.Kids.all (fun k => holds k x) <;> rfl
        · rw [if_neg (by simpa using c2), if_neg c2]
          by_cases c3 : n.Op = 3
          · have l3 := h3 c3
            rw [if_pos (by simpa using c3), if_pos c3]
            have g0 : getI n.Kids 0 = some n.Kids[0] := getI_lit n.Kids 0 (by omega)
            have g1 : getI n.Kids 1 = some n.Kids[1] := getI_lit n.Kids 1 (by omega)
            rw [g0, g1]
            simp only [Option.bind_eq_bind, Option.bind_some, ih _ (List.getElem_mem (show 0 < n.Kids.length by omega)), ih _ (List.getElem_mem (show 1 < n.Kids.length by omega))]
            rw [List.getD_eq_getElem?_getD, List.getD_eq_getElem?_getD, List.getElem?_map, List.getElem?_map, List.getElem?_eq_getElem (show 0 < n.Kids.length by omega), List.getElem?_eq_getElem (show 1 < n.Kids.length by omega)]
            simp only [Option.map_some, Option.getD_some]
            cases holds n.Kids[0] x <;> rfl
          · rw [if_neg (by simpa using c3), if_neg c3]
            by_cases c5 : n.Op = 5
            · have l5 := h5 c5
              rw [if_pos (by simpa using c5), if_pos c5]
              have g0 : getI n.Kids 0 = some n.Kids[0] := getI_lit n.Kids 0 (by omega)
              rw [g0]
              simp only [Option.bind_eq_bind, Option.bind_some, ih _ (List.getElem_mem (show 0 < n.Kids.length by omega))]
              rw [List.getD_eq_getElem?_getD, List.getElem?_map, List.getElem?_eq_getElem (show 0 < n.Kids.length by omega)]
              rfl
            · rw [if_neg (by simpa using c5), if_neg c5]
              by_cases c : x ≥ -1000000000000000
              · rw [if_pos (decide_eq_true c)]; simp [c]
              · rw [if_neg (by simpa using c)]; simp [c]

/-- Between places nothing turns. -/
theorem holds_const {n : Node} (h : Shp n) (x y : Int) (hx : -1000000000000000 ≤ x) (hxy : x ≤ y) (hy : y ≤ 1000000000000000) : (∀ p ∈ plc n, ¬ (x < p ∧ p ≤ y)) → holds n x = holds n y := by
  induction h with
  | mk n h0 h3 h5 hl hk ih =>
    intro hp
    have kids : (n.Kids.map fun k => holds k x) = (n.Kids.map fun k => holds k y) := List.map_congr_left fun k hkk => ih k hkk fun p hpp => hp p (by
      rw [plc_eq, List.mem_append, List.mem_flatMap]; exact .inr ⟨k, hkk, hpp⟩)
    rw [holds_eq, holds_eq, kids]
    unfold hold
    by_cases c0 : n.Op = 0
    · rw [if_pos c0, if_pos c0]
      have p1 := hp n.Lo (by rw [plc_eq, if_pos c0]; simp)
      have p2 := hp (n.Hi + 1) (by rw [plc_eq, if_pos c0]; simp)
      have e1 : decide (n.Lo ≤ x) = decide (n.Lo ≤ y) := by rw [decide_eq_decide]; omega
      have e2 : decide (x ≤ n.Hi) = decide (y ≤ n.Hi) := by rw [decide_eq_decide]; omega
      rw [e1, e2]
    · rw [if_neg c0, if_neg c0]
      have e1 : (decide (-1000000000000000 ≤ x) && decide (x ≤ 1000000000000000)) = (decide (-1000000000000000 ≤ y) && decide (y ≤ 1000000000000000)) := by
        rw [decide_eq_true hx, decide_eq_true hy, decide_eq_true (show x ≤ 1000000000000000 by omega), decide_eq_true (show -1000000000000000 ≤ y by omega)]
      rw [e1]

/-! ### put, places -/
theorem put_l0 (a : List Int) (x : Int) (ha : a.length ≤ 1000000) : ∀ (m i : Nat) (out : List Int) (done : Bool), a.length - i = m → out.length ≤ 2 * i + 1 →
    ∃ o d, PL.ref03_put.l0 a x out done i = some (o, d) ∧ (if d = true then o else o ++ [x]) = out ++ (if done = true then a.drop i else putR x (a.drop i)) := by
  intro m
  induction m with
  | zero =>
    intro i out done hm ho
    rw [PL.ref03_put.l0, if_neg (by simp <;> omega), List.drop_eq_nil_of_le (by omega)]
    exact ⟨_, _, rfl, by cases done <;> simp [putR]⟩
  | succ m ih =>
    intro i out done hm ho
    have hi : i < a.length := by omega
    have g := getI_lit a i hi
    rw [PL.ref03_put.l0, if_pos (by simp <;> omega), g, drop_get hi]
    simp only [Option.bind_eq_bind, Option.bind_some]
    rw [w64_one i (by omega)]
    cases done with
    | true =>
      simp only [Bool.not_true, Bool.false_eq_true, if_false, if_true, Option.bind_some]
      rw [room_ok (by omega)]
      simp only [Option.bind_some]
      obtain ⟨o, d, h1, h2⟩ := ih (i + 1) (out ++ [a[i]]) true (by omega) (by simp; omega)
      exact ⟨o, d, h1, by rw [h2]; simp⟩
    | false =>
      simp only [Bool.not_false, Bool.false_eq_true, if_false, if_true, Option.bind_some]
      unfold putR
      by_cases c : x ≤ a[i]
      · rw [if_pos (decide_eq_true c), if_pos c]
        by_cases c2 : x < a[i]
        · rw [if_pos (decide_eq_true c2), if_pos c2, room_ok (by omega)]
          simp only [Option.bind_some]
          rw [room_ok (by simp; omega)]
          simp only [Option.bind_some]
          obtain ⟨o, d, h1, h2⟩ := ih (i + 1) (out ++ [x] ++ [a[i]]) true (by omega) (by simp; omega)
          exact ⟨o, d, h1, by rw [h2]; simp⟩
        · rw [if_neg (by simpa using c2), if_neg c2]
          simp only [Option.bind_some]
          rw [room_ok (by omega)]
          simp only [Option.bind_some]
          obtain ⟨o, d, h1, h2⟩ := ih (i + 1) (out ++ [a[i]]) true (by omega) (by simp; omega)
          exact ⟨o, d, h1, by rw [h2]; simp⟩
      · rw [if_neg (by simpa using c), if_neg c]
        simp only [Option.bind_some]
        rw [room_ok (by omega)]
        simp only [Option.bind_some]
        obtain ⟨o, d, h1, h2⟩ := ih (i + 1) (out ++ [a[i]]) false (by omega) (by simp; omega)
        exact ⟨o, d, h1, by rw [h2]; simp⟩
theorem put_eq (a : List Int) (x : Int) (ha : a.length ≤ 1000000) : PL.ref03_put a x = some (putR x a) := by
  obtain ⟨o, d, h1, h2⟩ := put_l0 a x ha _ 0 [] false rfl (by simp)
  unfold PL.ref03_put
  rw [show ((0 : Nat) : Int) = 0 from rfl] at h1
  rw [h1]
  simp only [List.drop_zero, List.nil_append, Bool.false_eq_true, if_false] at h2
  simp only [Option.bind_eq_bind, Option.bind_some]
  have hl := congrArg List.length h2
  have := putR_len x a
  cases d with
  | true =>
    simp only [if_true] at h2 ⊢
    rw [h2]; rfl
  | false =>
    simp only [Bool.false_eq_true, if_false, List.length_append, List.length_cons, List.length_nil] at h2 hl
    simp only [Bool.not_false, if_true]
    rw [room_ok (by omega)]
    simp [h2]

mutual
def cnt : Node → Nat
  | ⟨_, _, _, ks⟩ => 1 + cntL ks
def cntL : List Node → Nat
  | [] => 0
  | k :: ks => cnt k + cntL ks
 end
theorem cnt_eq (n : Node) : cnt n = 1 + cntL n.Kids := by cases n; simp [cnt]
theorem cntL_append : ∀ (a b : List Node), cntL (a ++ b) = cntL a + cntL b
  | [], b => by simp [cntL]
  | k :: a, b => by simp [cntL, cntL_append a b]; omega

/-- What places does to a list. -/
def addP (l l' : List Int) (ps : List Int) (c : Nat) : Prop := (ascI l → ascI l') ∧ (∀ z, z ∈ l' ↔ z ∈ l ∨ z ∈ ps) ∧ l'.length ≤ l.length + 2 * c
theorem places_l0 (n : Node) (hl : n.Kids.length ≤ 1000) (hk : ∀ k ∈ n.Kids, ∀ l : List Int, l.length + 2 * cnt k ≤ 1000000 → ∃ l', PL.ref03_places k l = some l' ∧ addP l l' (plc k) (cnt k)) : ∀ (m i : Nat) (l : List Int), n.Kids.length - i = m → l.length + 2 * cntL (n.Kids.drop i) ≤ 1000000 →
    ∃ l', PL.ref03_places.l0 n l i = some l' ∧ addP l l' ((n.Kids.drop i).flatMap plc) (cntL (n.Kids.drop i)) := by
  intro m
  induction m with
  | zero =>
    intro i l hm hb
    rw [PL.ref03_places.l0, if_neg (by simp <;> omega), List.drop_eq_nil_of_le (by omega)]
    exact ⟨l, rfl, id, fun z => by simp, by simp [cntL]⟩
  | succ m ih =>
    intro i l hm hb
    have hi : i < n.Kids.length := by omega
    have g := getI_lit n.Kids i hi
    rw [drop_get hi] at hb ⊢
    simp only [cntL] at hb ⊢
    obtain ⟨l1, h1, h2, h3, h4⟩ := hk _ (List.getElem_mem hi) l (by omega)
    obtain ⟨l2, h5, h6, h7, h8⟩ := ih (i + 1) l1 (by omega) (by omega)
    rw [PL.ref03_places.l0, if_pos (by simp <;> omega), g]
    simp only [Option.bind_eq_bind, Option.bind_some, h1, w64_one i (by omega), h5]
    exact ⟨l2, rfl, fun ha => h6 (h2 ha), fun z => by rw [h7, h3, List.flatMap_cons, List.mem_append, or_assoc], by omega⟩
theorem places_ok {n : Node} (h : Shp n) : ∀ l : List Int, l.length + 2 * cnt n ≤ 1000000 → ∃ l', PL.ref03_places n l = some l' ∧ addP l l' (plc n) (cnt n) := by
  induction h with
  | mk n h0 h3 h5 hl hk ih =>
    intro l hb
    rw [cnt_eq] at hb ⊢
    obtain ⟨l1, e1, a1⟩ : ∃ l1, (if (n.Op == 0) = true then (PL.ref03_put l n.Lo).bind fun r => (PL.ref03_put r (w64 (n.Hi + 1))).bind fun s => some s else some l) = some l1 ∧ addP l l1 (if n.Op = 0 then [n.Lo, n.Hi + 1] else []) 1 := by
      by_cases c : n.Op = 0
      · have g := h0 c
        rw [if_pos (by simpa using c), if_pos c, put_eq l n.Lo (by omega)]
        simp only [Option.bind_some]
        have := putR_len n.Lo l
        have := putR_len (n.Hi + 1) (putR n.Lo l)
        rw [w64_id (x := n.Hi + 1) (by omega) (by omega), put_eq _ _ (by omega)]
        refine ⟨_, rfl, fun ha => putR_asc _ _ (putR_asc _ _ ha), fun z => ?_, by omega⟩
        rw [putR_mem, putR_mem]
        simp only [List.mem_cons, List.not_mem_nil, or_false]
        constructor
        · rintro (h | h | h)
          · exact .inr (.inr h)
          · exact .inr (.inl h)
          · exact .inl h
        · rintro (h | h | h)
          · exact .inr (.inr h)
          · exact .inr (.inl h)
          · exact .inl h
      · rw [if_neg (by simpa using c), if_neg c]
        exact ⟨l, rfl, id, fun z => by simp, by omega⟩
    obtain ⟨b1, b2, b3⟩ := a1
    obtain ⟨l2, h6, h7, h8, h9⟩ := places_l0 n hl ih _ 0 l1 rfl (by rw [List.drop_zero]; omega)
    rw [List.drop_zero] at h8 h9
    rw [PL.ref03_places]
    simp only [Option.bind_eq_bind]
    rw [e1]
    rw [show ((0 : Nat) : Int) = 0 from rfl] at h6
    simp only [Option.bind_some, h6]
    refine ⟨l2, rfl, fun ha => h7 (b1 ha), fun z => ?_, by omega⟩
    rw [h8, b2, plc_eq, List.mem_append, or_assoc]

/-! ### set -/
theorem drop2 {α : Type} {l : List α} {i : Nat} (h : i + 1 < l.length) : l.drop i = l[i] :: l[i + 1] :: l.drop (i + 2) := by
  rw [drop_get (show i < l.length by omega), drop_get h]
theorem segP_end (h : Int → Bool) (r : Pr) (l : List Int) (i : Nat) (hi : ¬ i + 1 < l.length) : segP h r (l.drop i) = [r] := by
  by_cases c : i < l.length
  · rw [drop_get c, List.drop_eq_nil_of_le (by omega), segP_one]
  · rw [List.drop_eq_nil_of_le (by omega), segP_nil]
theorem set_l0P {n : Node} (hn : Shp n) (L : List Int) (hL : L.length ≤ 1000000) (hb : ∀ z ∈ L, -1000000000000000 ≤ z ∧ z ≤ 1000000000000001) : ∀ (m i : Nat) (acc : List Pr) (r : Pr), L.length - i = m → i ≤ L.length → acc.length + 1 ≤ i →
    PL.ref03_set.l0 n L (acc ++ [r]) i = some (acc ++ segP (holds n) r (L.drop i)) := by
  intro m
  induction m with
  | zero =>
    intro i acc r hm hi ha
    rw [PL.ref03_set.l0, w64_one i (by omega), if_neg (by simp <;> omega), segP_end _ _ _ _ (by omega)]
  | succ m ih =>
    intro i acc r hm hi ha
    by_cases c : i + 1 < L.length
    · have g := getI_lit L i (by omega)
      have g1 := getI_lit L (i + 1) c
      have hb0 := hb L[i] (List.getElem_mem _)
      have hb1 := hb L[i + 1] (List.getElem_mem _)
      have hlen : ((acc ++ [r]).length : Int) = ((acc.length + 1 : Nat) : Int) := by simp
      have hlast : getI (acc ++ [r]) ((acc.length : Nat) : Int) = some r := by rw [getI_nat]; simp
      have hset : ∀ v : Pr, (acc ++ [r]).set acc.length v = acc ++ [v] := fun v => by
        rw [List.set_append_right _ _ (Nat.le_refl _)]; simp
      rw [PL.ref03_set.l0, w64_one i (by omega), if_pos (by simp <;> omega), g, hlen]
      simp (disch := omega) only [Option.bind_eq_bind, Option.bind_some, Holds_eq hn, w64_pred, Nat.add_sub_cancel, hlast, g1, Int.toNat_natCast, hset]
      rw [w64_id (x := L[i] - 1) (by omega) (by omega), w64_id (x := L[i + 1] - 1) (by omega) (by omega)]
      have step : ∀ (a : List Pr) (q : Pr), a.length + 1 ≤ i + 1 → PL.ref03_set.l0 n L (a ++ [q]) ((i + 1 : Nat) : Int) = some (a ++ segP (holds n) q (L.drop (i + 1))) := fun a q h => ih (i + 1) a q (by omega) (by omega) h
      rw [drop2 c]
      unfold segP
      rw [← drop_get c]
      cases hh : holds n L[i] with
      | false =>
        simp only [Bool.not_false, if_true, Bool.false_eq_true, if_false]
        exact step acc r (by omega)
      | true =>
        simp only [Bool.not_true, Bool.false_eq_true, if_false, if_true]
        rw [if_pos (by simp <;> omega)]
        simp only [Option.bind_some]
        by_cases c2 : r.x1 = L[i] - 1
        · rw [if_pos (by simpa using c2), if_pos c2]
          exact step acc ⟨r.x0, L[i + 1] - 1⟩ (by omega)
        · rw [if_neg (by simpa using c2), if_neg c2, room_ok (by simp; omega)]
          simp only [Option.bind_some]
          have := step (acc ++ [r]) ⟨L[i], L[i + 1] - 1⟩ (by simp; omega)
          rw [this, List.append_assoc]
          rfl
    · rw [PL.ref03_set.l0, w64_one i (by omega), if_neg (by simp <;> omega), segP_end _ _ _ _ c]
theorem set_l0N {n : Node} (hn : Shp n) (L : List Int) (hL : L.length ≤ 1000000) (hb : ∀ z ∈ L, -1000000000000000 ≤ z ∧ z ≤ 1000000000000001) : ∀ (m i : Nat), L.length - i = m → i ≤ L.length →
    PL.ref03_set.l0 n L [] i = some (segN (holds n) (L.drop i)) := by
  intro m
  induction m with
  | zero =>
    intro i hm hi
    rw [PL.ref03_set.l0, w64_one i (by omega), if_neg (by simp <;> omega), List.drop_eq_nil_of_le (by omega)]
    rfl
  | succ m ih =>
    intro i hm hi
    by_cases c : i + 1 < L.length
    · have g := getI_lit L i (by omega)
      have g1 := getI_lit L (i + 1) c
      have hb0 := hb L[i] (List.getElem_mem _)
      have hb1 := hb L[i + 1] (List.getElem_mem _)
      rw [PL.ref03_set.l0, w64_one i (by omega), if_pos (by simp <;> omega), g]
      simp (disch := omega) only [Option.bind_eq_bind, Option.bind_some, Holds_eq hn, g1]
      rw [w64_id (x := L[i + 1] - 1) (by omega) (by omega), drop2 c]
      unfold segN
      rw [← drop_get c]
      cases hh : holds n L[i] with
      | false =>
        simp only [Bool.not_false, if_true, Bool.false_eq_true, if_false]
        exact ih (i + 1) (by omega) (by omega)
      | true =>
        simp only [Bool.not_true, Bool.false_eq_true, if_false, if_true]
        rw [if_neg (by simp)]
        simp only [Option.bind_some, Bool.false_eq_true, if_false]
        rw [room_ok (by simp)]
        simp only [Option.bind_some]
        exact set_l0P hn L hL hb _ (i + 1) [] ⟨L[i], L[i + 1] - 1⟩ rfl (by omega) (by simp)
    · rw [PL.ref03_set.l0, w64_one i (by omega), if_neg (by simp <;> omega)]
      by_cases c2 : i < L.length
      · rw [drop_get c2, List.drop_eq_nil_of_le (by omega)]; rfl
      · rw [List.drop_eq_nil_of_le (by omega)]; rfl

theorem plc_bnd {n : Node} (h : Shp n) : ∀ p ∈ plc n, -1000000000000000 ≤ p ∧ p ≤ 1000000000000001 := by
  induction h with
  | mk n h0 h3 h5 hl hk ih =>
    intro p hp
    rw [plc_eq, List.mem_append, List.mem_flatMap] at hp
    rcases hp with hp | ⟨k, hkk, hp⟩
    · by_cases c : n.Op = 0
      · rw [if_pos c] at hp
        have := h0 c
        simp only [List.mem_cons, List.not_mem_nil, or_false] at hp
        omega
      · rw [if_neg c] at hp; cases hp
    · exact ih k hkk p hp
theorem asc_head : ∀ {l : List Int} {a : Int}, ascI l → a ∈ l → (∀ z ∈ l, a ≤ z) → l.head? = some a
  | [], a, _, h, _ => by cases h
  | x :: t, a, h, ha, hb => by
    rcases List.mem_cons.1 ha with rfl | ha
    · rfl
    · have := h.1 a ha
      have := hb x List.mem_cons_self
      omega
theorem asc_last : ∀ {l : List Int} {a : Int}, ascI l → a ∈ l → (∀ z ∈ l, z ≤ a) → l.getLast? = some a
  | [], a, _, h, _ => by cases h
  | [x], a, _, ha, _ => by
    rcases List.mem_cons.1 ha with rfl | ha
    · rfl
    · cases ha
  | x :: y :: t, a, h, ha, hb => by
    have e : (x :: y :: t).getLast? = (y :: t).getLast? := rfl
    rw [e]
    refine asc_last h.2 ?_ fun z hz => hb z (List.mem_cons_of_mem _ hz)
    rcases List.mem_cons.1 ha with rfl | ha
    · have := h.1 y List.mem_cons_self
      have := hb y (List.mem_cons_of_mem _ List.mem_cons_self)
      omega
    · exact ha

/-- The reference's set: ranges that stand apart, of the numbers for which the constraint holds. -/
theorem set_ok {n : Node} (hn : Shp n) (hc : cnt n ≤ 100000) : ∃ m lo, PL.ref03_set n = some m ∧ NF lo m ∧ ∀ x, mem m x ↔ (-1000000000000000 ≤ x ∧ x ≤ 1000000000000000 ∧ holds n x = true) := by
  obtain ⟨l1, h1, h2, h3, h4⟩ := places_ok hn [] (by simp; omega)
  have a1 := h2 trivial
  have a2 := putR_asc (-1000000000000000) _ a1
  have a3 := putR_asc 1000000000000001 _ a2
  have k1 := putR_len (-1000000000000000) l1
  have k2 := putR_len 1000000000000001 (putR (-1000000000000000) l1)
  simp only [List.length_nil] at h4
  have mm : ∀ z, z ∈ putR 1000000000000001 (putR (-1000000000000000) l1) ↔ z = 1000000000000001 ∨ z = -1000000000000000 ∨ z ∈ plc n := fun z => by
    rw [putR_mem, putR_mem, h3]; simp
  have hb : ∀ z ∈ putR 1000000000000001 (putR (-1000000000000000) l1), -1000000000000000 ≤ z ∧ z ≤ 1000000000000001 := fun z hz => by
    rcases (mm z).1 hz with rfl | rfl | hz
    · omega
    · omega
    · exact plc_bnd hn z hz
  have s := set_l0N hn _ (by omega) hb _ 0 rfl (by omega)
  obtain ⟨⟨lo, s1⟩, s2⟩ := segN_ok (holds n) _ a3
  refine ⟨_, lo, ?_, s1, fun x => ?_⟩
  · unfold PL.ref03_set
    rw [h1]
    simp only [Option.bind_eq_bind, Option.bind_some]
    rw [put_eq _ _ (by omega)]
    simp only [Option.bind_some]
    rw [put_eq _ _ (by omega)]
    simp only [Option.bind_some]
    rw [show ((0 : Nat) : Int) = 0 from rfl, List.drop_zero] at s
    rw [s]
    rfl
  · rw [s2, btw_ok (holds n) _ (-1000000000000000) 1000000000000001 a3 (asc_head a3 ((mm _).2 (.inr (.inl rfl))) fun z hz => (hb z hz).1) (asc_last a3 ((mm _).2 (.inl rfl)) fun z hz => (hb z hz).2) (fun x y g1 g2 g3 g4 => holds_const hn x y g1 g2 (by omega) fun p hp => g4 p ((mm p).2 (.inr (.inr hp))))]
    constructor
    · rintro ⟨g1, g2, g3⟩; exact ⟨g1, by omega, g3⟩
    · rintro ⟨g1, g2, g3⟩; exact ⟨g1, by omega, g3⟩
end Go.AV
