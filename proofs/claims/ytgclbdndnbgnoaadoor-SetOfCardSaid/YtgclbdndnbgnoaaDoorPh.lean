/- SetMeans as a statement on constraints alone. -/
import Derived.Test.YtgclbdndnbgnoaaDoorPg
namespace Go.AV
set_option linter.all false

theorem Node.ind {P : Node → Prop} (h : ∀ n : Node, (∀ k ∈ n.Kids, P k) → P n) : ∀ n, P n
  | ⟨a, b, c, ks⟩ => h _ fun k hk => Node.ind h k
termination_by n => SizeOf.sizeOf n
decreasing_by
  have hk' : k ∈ ks := hk
  have := List.sizeOf_lt_of_mem hk'
  simp only [Node.mk.sizeOf_spec]
  omega

mutual
def dep : Node → Nat
  | ⟨_, _, _, ks⟩ => depL ks + 1
def depL : List Node → Nat
  | [] => 0
  | k :: ks => max (dep k) (depL ks)
 end
theorem dep_eq (n : Node) : dep n = depL n.Kids + 1 := by cases n; simp [dep]
theorem cnt_pos (n : Node) : 1 ≤ cnt n := by rw [cnt_eq]; omega
theorem cntL_ge : ∀ ks : List Node, ks.length ≤ cntL ks
  | [] => Nat.le_refl _
  | k :: ks => by have := cntL_ge ks; have := cnt_pos k; simp [cntL]; omega
theorem cntL_mem : ∀ {ks : List Node} {k : Node}, k ∈ ks → cnt k ≤ cntL ks
  | q :: ks, k, h => by
    simp only [cntL]
    rcases List.mem_cons.1 h with rfl | h
    · omega
    · have := cntL_mem h; omega
theorem depL_mem : ∀ {ks : List Node} {k : Node}, k ∈ ks → dep k ≤ depL ks
  | q :: ks, k, h => by
    simp only [depL]
    rcases List.mem_cons.1 h with rfl | h
    · omega
    · have := depL_mem h; omega
theorem dep_le_cnt : ∀ n : Node, dep n ≤ cnt n := Node.ind fun n ih => by
  have : ∀ ks : List Node, (∀ k ∈ ks, dep k ≤ cnt k) → depL ks ≤ cntL ks := by
    intro ks
    induction ks with
    | nil => intro _; simp [depL]
    | cons k ks ih2 =>
      intro h
      have := h k List.mem_cons_self
      have := ih2 fun q hq => h q (List.mem_cons_of_mem _ hq)
      simp only [depL, cntL]; omega
  have := this n.Kids ih
  rw [dep_eq, cnt_eq]; omega

/-! ### count -/
theorem count_l0 (n : Node) (hk : ∀ k ∈ n.Kids, ∀ l : Nat, 1 ≤ l → l ≤ 400 → PL.law03_count k l = some ((l - cnt k : Nat) : Int)) : ∀ (m i l : Nat), n.Kids.length - i = m → l ≤ 400 → l + i ≤ 400 →
    PL.law03_count.l0 n l i = some ((l - cntL (n.Kids.drop i) : Nat) : Int) := by
  intro m
  induction m with
  | zero =>
    intro i l hm hl hi
    rw [PL.law03_count.l0, if_neg (by simp <;> omega), List.drop_eq_nil_of_le (by omega)]
    simp [cntL]
  | succ m ih =>
    intro i l hm hl hi
    have hlt : i < n.Kids.length := by omega
    rw [PL.law03_count.l0, if_pos (by simp <;> omega)]
    by_cases c : 0 < l
    · rw [if_pos (by simp <;> omega), getI_lit n.Kids i hlt]
      have h1 := hk _ (List.getElem_mem hlt) l c hl
      have := cnt_pos n.Kids[i]
      simp only [Option.bind_eq_bind, Option.bind_some, h1, w64_one i (by omega)]
      rw [ih (i + 1) (l - cnt n.Kids[i]) (by omega) (by omega) (by omega), drop_get hlt]
      simp only [cntL]
      congr 2
      omega
    · rw [if_neg (by simp <;> omega)]
      congr 2
      omega
theorem count_eq : ∀ (n : Node) (l : Nat), 1 ≤ l → l ≤ 400 → PL.law03_count n l = some ((l - cnt n : Nat) : Int) := Node.ind fun n ih l h1 h2 => by
  rw [PL.law03_count, w64_pred l h1 (by omega)]
  have := count_l0 n ih _ 0 (l - 1) rfl (by omega) (by omega)
  rw [show ((0 : Nat) : Int) = 0 from rfl, List.drop_zero] at this
  rw [this, cnt_eq]
  simp only [Option.bind_eq_bind, Option.bind_some]
  congr 2
  omega
theorem large_eq (n : Node) : PL.law03_large n = some (decide (400 ≤ cnt n)) := by
  unfold PL.law03_large
  rw [show (400 : Int) = ((400 : Nat) : Int) from rfl, count_eq n 400 (by omega) (by omega)]
  simp only [Option.bind_eq_bind, Option.bind_some]
  congr 1
  rw [decide_eq_decide]
  omega

/-! ### size -/
theorem rsize_l0 (n : Node) (hn : cnt n ≤ 400) (hk : ∀ k ∈ n.Kids, ∃ a d : Nat, PL.ref03_size k = some ((a : Int), (d : Int)) ∧ 1 ≤ a ∧ a ≤ cnt k ∧ d ≤ cnt k ∧ (a ≤ 200 → a = cnt k ∧ d = dep k)) : ∀ (m i x y : Nat), n.Kids.length - i = m → x + cntL (n.Kids.drop i) ≤ 400 → y ≤ 400 →
    ∃ a d : Nat, PL.ref03_size.l0 n x y i = some ((a : Int), (d : Int)) ∧ x ≤ a ∧ a ≤ x + cntL (n.Kids.drop i) ∧ d ≤ max y (cntL (n.Kids.drop i)) ∧ (a ≤ 200 → a = x + cntL (n.Kids.drop i) ∧ d = max y (depL (n.Kids.drop i))) := by
  intro m
  induction m with
  | zero =>
    intro i x y hm hx hy
    rw [PL.ref03_size.l0, if_neg (by simp <;> omega), List.drop_eq_nil_of_le (by omega)]
    exact ⟨x, y, rfl, Nat.le_refl _, by omega, by omega, fun _ => ⟨by simp [cntL], by simp [depL]⟩⟩
  | succ m ih =>
    intro i x y hm hx hy
    have hlt : i < n.Kids.length := by omega
    have hlen := cntL_ge n.Kids
    rw [cnt_eq] at hn
    rw [PL.ref03_size.l0, if_pos (by simp <;> omega)]
    rw [drop_get hlt] at hx ⊢
    simp only [cntL, depL] at hx ⊢
    by_cases c : x ≤ 200
    · rw [if_pos (by simp <;> omega), getI_lit n.Kids i hlt]
      obtain ⟨a, d, h1, h2, h3, h4, h5⟩ := hk _ (List.getElem_mem hlt)
      obtain ⟨a', d', g1, g2, g3, g4, g5⟩ := ih (i + 1) (x + a) (max y d) (by omega) (by omega) (by omega)
      simp only [Option.bind_eq_bind, Option.bind_some, h1, w64_one i (by omega), w64_sum x a (by omega) (by omega)]
      rw [show max (y : Int) (d : Int) = ((max y d : Nat) : Int) by omega, g1]
      refine ⟨a', d', rfl, by omega, by omega, by omega, fun h => ?_⟩
      obtain ⟨q1, q2⟩ := g5 h
      obtain ⟨q3, q4⟩ := h5 (by omega)
      omega
    · rw [if_neg (by simp <;> omega)]
      exact ⟨x, y, rfl, Nat.le_refl _, by omega, by omega, fun h => by omega⟩
theorem rsize_eq : ∀ (n : Node), cnt n ≤ 400 → ∃ a d : Nat, PL.ref03_size n = some ((a : Int), (d : Int)) ∧ 1 ≤ a ∧ a ≤ cnt n ∧ d ≤ cnt n ∧ (a ≤ 200 → a = cnt n ∧ d = dep n) := Node.ind fun n ih hn => by
  obtain ⟨a, d, h1, h2, h3, h4, h5⟩ := rsize_l0 n hn (fun k hk => ih k hk (by have := cntL_mem hk; rw [cnt_eq] at hn; omega)) _ 0 1 0 rfl (by rw [cnt_eq] at hn; rw [List.drop_zero]; omega) (by omega)
  rw [List.drop_zero] at h3 h4 h5
  rw [cnt_eq] at *
  refine ⟨a, d + 1, ?_, by omega, by omega, by omega, fun h => ?_⟩
  · rw [PL.ref03_size]
    rw [show ((1 : Nat) : Int) = 1 from rfl, show ((0 : Nat) : Int) = 0 from rfl] at h1
    rw [h1]
    simp only [Option.bind_eq_bind, Option.bind_some, w64_one d (by omega)]
  · obtain ⟨q1, q2⟩ := h5 h
    rw [dep_eq]
    omega
theorem psize_l0 (n : Node) (hn : cnt n ≤ 400) (hk : ∀ k ∈ n.Kids, PL.set_size k = some ((cnt k : Int), (dep k : Int))) : ∀ (m i x y : Nat), n.Kids.length - i = m → x + cntL (n.Kids.drop i) ≤ 400 → y ≤ 400 →
    PL.set_size.l0 n y x i = some (((max y (depL (n.Kids.drop i)) : Nat) : Int), ((x + cntL (n.Kids.drop i) : Nat) : Int)) := by
  intro m
  induction m with
  | zero =>
    intro i x y hm hx hy
    rw [PL.set_size.l0, if_neg (by simp <;> omega), List.drop_eq_nil_of_le (by omega)]
    simp [cntL, depL]
  | succ m ih =>
    intro i x y hm hx hy
    have hlt : i < n.Kids.length := by omega
    have hlen := cntL_ge n.Kids
    rw [cnt_eq] at hn
    have h1 := hk _ (List.getElem_mem hlt)
    have hd := dep_le_cnt n.Kids[i]
    rw [PL.set_size.l0, if_pos (by simp <;> omega), getI_lit n.Kids i hlt]
    rw [drop_get hlt] at hx ⊢
    simp only [cntL, depL] at hx ⊢
    simp only [Option.bind_eq_bind, Option.bind_some, h1, w64_one i (by omega), w64_sum x (cnt n.Kids[i]) (by omega) (by omega)]
    rw [show max (y : Int) (dep n.Kids[i] : Int) = ((max y (dep n.Kids[i]) : Nat) : Int) by omega, ih (i + 1) _ _ (by omega) (by omega) (by omega)]
    congr 3 <;> omega
theorem psize_eq : ∀ (n : Node), cnt n ≤ 400 → PL.set_size n = some ((cnt n : Int), (dep n : Int)) := Node.ind fun n ih hn => by
  have h := psize_l0 n hn (fun k hk => ih k hk (by have := cntL_mem hk; rw [cnt_eq] at hn; omega)) _ 0 1 0 rfl (by rw [cnt_eq] at hn; rw [List.drop_zero]; omega) (by omega)
  rw [List.drop_zero] at h
  have hd := dep_le_cnt n
  rw [PL.set_size]
  rw [show ((1 : Nat) : Int) = 1 from rfl, show ((0 : Nat) : Int) = 0 from rfl] at h
  rw [h]
  rw [cnt_eq, dep_eq] at *
  simp only [Option.bind_eq_bind, Option.bind_some]
  rw [w64_one _ (by omega)]
  congr 3 <;> omega

/-! ### shaped, formed -/
/-- A constraint. -/
inductive Fm : Node → Prop where
  | mk (n : Node) : (n.Op = 0 → n.Kids = [] ∧ n.Lo ≤ n.Hi ∧ -1000000000000000 ≤ n.Lo ∧ n.Hi ≤ 1000000000000000) → (n.Op ≠ 0 → n.Lo = 0 ∧ n.Hi = 0) → (n.Op = 1 ∨ n.Op = 2 → 2 ≤ n.Kids.length) → (n.Op = 3 → n.Kids.length = 2) → (n.Op = 4 → n.Kids = []) → (n.Op = 5 → n.Kids.length = 1) → (0 ≤ n.Op ∧ n.Op ≤ 5) → (∀ k ∈ n.Kids, Fm k) → Fm n
theorem shaped_l0 (n : Node) (hl : n.Kids.length ≤ 1000) (hk : ∀ k ∈ n.Kids, ∃ b, PL.ref03_shaped k = some b ∧ (b = true → Fm k)) : ∀ (m i : Nat), n.Kids.length - i = m →
    PL.ref03_shaped.l0 n i = some (.inr ()) ∨ (PL.ref03_shaped.l0 n i = some (.inl ()) ∧ ∀ k ∈ n.Kids.drop i, Fm k) := by
  intro m
  induction m with
  | zero =>
    intro i hm
    right
    rw [PL.ref03_shaped.l0, if_neg (by simp <;> omega), List.drop_eq_nil_of_le (by omega)]
    exact ⟨rfl, fun k hk => by cases hk⟩
  | succ m ih =>
    intro i hm
    have hlt : i < n.Kids.length := by omega
    rw [PL.ref03_shaped.l0, if_pos (by simp <;> omega), getI_lit n.Kids i hlt]
    obtain ⟨b, h1, h2⟩ := hk _ (List.getElem_mem hlt)
    simp only [Option.bind_eq_bind, Option.bind_some, h1, w64_one i (by omega)]
    cases b with
    | false => exact .inl rfl
    | true =>
      simp only [Bool.not_true, Bool.false_eq_true, if_false]
      rcases ih (i + 1) (by omega) with h | ⟨h, g⟩
      · exact .inl h
      · right
        refine ⟨h, fun k hkk => ?_⟩
        rw [drop_get hlt] at hkk
        rcases List.mem_cons.1 hkk with rfl | hkk
        · exact h2 rfl
        · exact g k hkk
theorem shaped_eq : ∀ (n : Node), cnt n ≤ 400 → ∃ b, PL.ref03_shaped n = some b ∧ (b = true → Fm n) := Node.ind fun n ih hn => by
  have hlen := cntL_ge n.Kids
  rw [cnt_eq] at hn
  have rest : ∃ b, (if (n.Lo != 0) = true then some false else if (n.Hi != 0) = true then some false else PL.ref03_shaped.l0 n 0 >>= fun | Sum.inl _ => some true | Sum.inr _ => some false) = some b ∧ (b = true → n.Lo = 0 ∧ n.Hi = 0 ∧ ∀ k ∈ n.Kids, Fm k) := by
    by_cases c1 : n.Lo = 0
    · by_cases c2 : n.Hi = 0
      · rcases shaped_l0 n (by omega) (fun k hk => ih k hk (by have := cntL_mem hk; omega)) _ 0 rfl with h | ⟨h, g⟩
        · rw [show ((0 : Nat) : Int) = 0 from rfl] at h
          exact ⟨false, by simp [c1, c2, h], fun h => by cases h⟩
        · rw [show ((0 : Nat) : Int) = 0 from rfl] at h
          exact ⟨true, by simp [c1, c2, h], fun _ => ⟨c1, c2, fun k hk => g k (by simpa using hk)⟩⟩
      · exact ⟨false, by simp [c1, c2], fun h => by cases h⟩
    · exact ⟨false, by simp [c1], fun h => by cases h⟩
  obtain ⟨b, hb, hf⟩ := rest
  simp only [Option.bind_eq_bind] at hb
  rw [PL.ref03_shaped]
  simp only [Option.bind_eq_bind]
  by_cases c0 : n.Op = 0
  · rw [if_pos (by simpa using c0)]
    by_cases k0 : n.Kids.length = 0
    · rw [if_pos (by rw [beq_iff_eq]; omega)]
      by_cases k1 : n.Lo ≤ n.Hi
      · rw [if_pos (decide_eq_true k1)]
        by_cases k2 : n.Lo ≥ -1000000000000000
        · rw [if_pos (decide_eq_true k2)]
          have e : n.Kids = [] := List.eq_nil_of_length_eq_zero k0
          exact ⟨_, rfl, fun h => .mk n (fun _ => ⟨e, k1, k2, by simpa using h⟩) (fun h => absurd c0 h) (fun h => by omega) (fun h => by omega) (fun h => by omega) (fun h => by omega) (by omega) (fun k hk => by rw [e] at hk; cases hk)⟩
        · rw [if_neg (by simpa using k2)]; exact ⟨false, rfl, fun h => by cases h⟩
      · rw [if_neg (by simpa using k1)]; exact ⟨false, rfl, fun h => by cases h⟩
    · rw [if_neg (by rw [beq_iff_eq]; omega)]; exact ⟨false, rfl, fun h => by cases h⟩
  · rw [if_neg (by simpa using c0)]
    have e12 : (if (n.Op == 1) = true then some (n.Op == 1) else some (n.Op == 2)) = some (decide (n.Op = 1 ∨ n.Op = 2)) := by
      by_cases c1 : n.Op = 1
      · simp [c1]
      · by_cases c2 : n.Op = 2 <;> simp [c1, c2]
    rw [e12]
    simp only [Option.bind_some]
    by_cases c12 : n.Op = 1 ∨ n.Op = 2
    · rw [if_pos (by simpa using c12)]
      by_cases k2 : n.Kids.length < 2
      · rw [if_pos (by simp <;> omega)]; exact ⟨false, rfl, fun h => by cases h⟩
      · rw [if_neg (by simp <;> omega)]
        refine ⟨b, hb, fun h => ?_⟩
        obtain ⟨f1, f2, f3⟩ := hf h
        exact .mk n (fun h => absurd h c0) (fun _ => ⟨f1, f2⟩) (fun _ => by omega) (fun h => by omega) (fun h => by omega) (fun h => by omega) (by omega) f3
    · rw [if_neg (by simpa using c12)]
      by_cases c3 : n.Op = 3
      · rw [if_pos (by simpa using c3)]
        by_cases k2 : n.Kids.length = 2
        · rw [if_neg (by rw [bne_iff_ne]; omega)]
          refine ⟨b, hb, fun h => ?_⟩
          obtain ⟨f1, f2, f3⟩ := hf h
          exact .mk n (fun h => absurd h c0) (fun _ => ⟨f1, f2⟩) (fun h => absurd h c12) (fun _ => k2) (fun h => by omega) (fun h => by omega) (by omega) f3
        · rw [if_pos (by rw [bne_iff_ne]; omega)]; exact ⟨false, rfl, fun h => by cases h⟩
      · rw [if_neg (by simpa using c3)]
        by_cases c4 : n.Op = 4
        · rw [if_pos (by simpa using c4)]
          by_cases k0 : n.Kids.length = 0
          · rw [if_neg (by rw [bne_iff_ne]; omega)]
            refine ⟨b, hb, fun h => ?_⟩
            obtain ⟨f1, f2, f3⟩ := hf h
            exact .mk n (fun h => absurd h c0) (fun _ => ⟨f1, f2⟩) (fun h => absurd h c12) (fun h => absurd h c3) (fun _ => List.eq_nil_of_length_eq_zero k0) (fun h => by omega) (by omega) f3
          · rw [if_pos (by rw [bne_iff_ne]; omega)]; exact ⟨false, rfl, fun h => by cases h⟩
        · rw [if_neg (by simpa using c4)]
          by_cases c5 : n.Op = 5
          · rw [if_pos (by simpa using c5)]
            by_cases k1 : n.Kids.length = 1
            · rw [if_neg (by rw [bne_iff_ne]; omega)]
              refine ⟨b, hb, fun h => ?_⟩
              obtain ⟨f1, f2, f3⟩ := hf h
              exact .mk n (fun h => absurd h c0) (fun _ => ⟨f1, f2⟩) (fun h => absurd h c12) (fun h => absurd h c3) (fun h => absurd h c4) (fun _ => k1) (by omega) f3
            · rw [if_pos (by rw [bne_iff_ne]; omega)]; exact ⟨false, rfl, fun h => by cases h⟩
          · rw [if_neg (by simpa using c5)]; exact ⟨false, rfl, fun h => by cases h⟩

theorem formed_l0 (l : List Node) (hl : l.length ≤ 1000) (hk : ∀ k ∈ l, PL.set_formed k = some true) : ∀ (m i : Nat), l.length - i = m →
    PL.slices_IndexFunc_of_set_formed_1.l0 l i = some (.inl ()) := by
  intro m
  induction m with
  | zero =>
    intro i hm
    rw [PL.slices_IndexFunc_of_set_formed_1.l0, if_neg (by simp <;> omega)]
  | succ m ih =>
    intro i hm
    have hlt : i < l.length := by omega
    rw [PL.slices_IndexFunc_of_set_formed_1.l0, if_pos (by simp <;> omega), getI_lit l i hlt]
    simp only [Option.bind_eq_bind, Option.bind_some]
    rw [PL.set_formed_1, hk _ (List.getElem_mem hlt)]
    simp only [Option.bind_eq_bind, Option.bind_some, Bool.not_true, Bool.false_eq_true, if_false, w64_one i (by omega)]
    exact ih (i + 1) (by omega)
theorem formed_eq {n : Node} (h : Fm n) (hc : cnt n ≤ 400) : PL.set_formed n = some true := by
  induction h with
  | mk n h0 hz h12 h3 h4 h5 hop hk ih =>
    have hlen := cntL_ge n.Kids
    rw [cnt_eq] at hc
    have kids : PL.slices_ContainsFunc_of_set_formed_1 n.Kids = some false := by
      have := formed_l0 n.Kids (by omega) (fun k hkk => ih k hkk (by have := cntL_mem hkk; omega)) _ 0 rfl
      rw [show ((0 : Nat) : Int) = 0 from rfl] at this
      rw [PL.slices_ContainsFunc_of_set_formed_1, PL.slices_IndexFunc_of_set_formed_1, this]
      decide
    rw [PL.set_formed]
    by_cases c0 : n.Op = 0
    · obtain ⟨k0, k1, k2, k3⟩ := h0 c0
      obtain ⟨z, hz⟩ : ∃ z, (if (n.Lo == 0) = true then some (n.Hi == 0) else some false) = some z := by by_cases c : (n.Lo == 0) = true <;> simp [c]
      simp only [hz, Option.bind_eq_bind, Option.bind_some]
      simp [c0, k0, k1, k2, k3]
    · obtain ⟨z1, z2⟩ := hz c0
      simp only [z1, z2, Option.bind_eq_bind, beq_self_eq_true, if_true, Option.bind_some]
      have fin : ∀ b : Bool, b = true → (Option.bind (some (Sum.inl b : Bool ⊕ Bool)) fun x => match x with
          | .inl ok => if ok = true then (PL.slices_ContainsFunc_of_set_formed_1 n.Kids).bind fun rv => some (!rv) else some false
          | .inr z => some z) = some true := fun b hb => by
        subst hb
        simp [kids]
      rw [if_neg (by simpa using c0)]
      have e12 : (if (n.Op == 1) = true then some (n.Op == 1) else some (n.Op == 2)) = some (decide (n.Op = 1 ∨ n.Op = 2)) := by
        by_cases c1 : n.Op = 1
        · simp [c1]
        · by_cases c2 : n.Op = 2 <;> simp [c1, c2]
      rw [e12]
      simp only [Option.bind_some]
      by_cases c12 : n.Op = 1 ∨ n.Op = 2
      · rw [if_pos (by simpa using c12)]
        exact fin _ (by have := h12 c12; simp; omega)
      · rw [if_neg (by simpa using c12)]
        by_cases c3 : n.Op = 3
        · rw [if_pos (by simpa using c3)]
          exact fin _ (by have := h3 c3; simp; omega)
        · rw [if_neg (by simpa using c3)]
          by_cases c4 : n.Op = 4
          · rw [if_pos (by simpa using c4)]
            exact fin _ (by rw [h4 c4]; rfl)
          · have c5 : n.Op = 5 := by omega
            rw [if_neg (by simpa using c4), if_pos (by simpa using c5)]
            exact fin _ (by have := h5 c5; simp; omega)

/-! ### node: a copy; root -/
theorem node_l0 (n : Node) (hl : n.Kids.length ≤ 1000) (hk : ∀ k ∈ n.Kids, PL.law03_node k = some k) : ∀ (m i : Nat) (c : List Node), n.Kids.length - i = m → c.length ≤ i →
    PL.law03_node.l0 n c i = some (c ++ n.Kids.drop i) := by
  intro m
  induction m with
  | zero =>
    intro i c hm hc
    rw [PL.law03_node.l0, if_neg (by simp <;> omega), List.drop_eq_nil_of_le (by omega), List.append_nil]
  | succ m ih =>
    intro i c hm hc
    have hlt : i < n.Kids.length := by omega
    rw [PL.law03_node.l0, if_pos (by simp <;> omega), getI_lit n.Kids i hlt]
    simp only [Option.bind_eq_bind, Option.bind_some, hk _ (List.getElem_mem hlt), w64_one i (by omega)]
    rw [room_ok (by omega)]
    simp only [Option.bind_some]
    rw [ih (i + 1) _ (by omega) (by simp; omega), drop_get hlt, List.append_assoc]
    rfl
theorem node_eq : ∀ n : Node, cnt n ≤ 400 → PL.law03_node n = some n := Node.ind fun n ih hn => by
  have hlen := cntL_ge n.Kids
  rw [cnt_eq] at hn
  have := node_l0 n (by omega) (fun k hk => ih k hk (by have := cntL_mem hk; omega)) _ 0 [] rfl (by simp)
  rw [show ((0 : Nat) : Int) = 0 from rfl] at this
  rw [PL.law03_node, this, List.drop_zero, List.nil_append]
  simp only [Option.bind_eq_bind, Option.bind_some]
  cases n
  rfl

mutual
def rootN : Node → Node
  | ⟨op, lo, hi, ks⟩ => if op = 5 then (rootL ks).headD ⟨0, 0, 0, []⟩ else ⟨op, lo, hi, rootL ks⟩
def rootL : List Node → List Node
  | [] => []
  | k :: ks => rootN k :: rootL ks
 end
theorem rootL_eq : ∀ ks : List Node, rootL ks = ks.map rootN
  | [] => by simp [rootL]
  | k :: ks => by simp [rootL, rootL_eq ks]
theorem rootN_eq (n : Node) : rootN n = if n.Op = 5 then (n.Kids.map rootN).headD ⟨0, 0, 0, []⟩ else ⟨n.Op, n.Lo, n.Hi, n.Kids.map rootN⟩ := by
  cases n; simp [rootN, rootL_eq]
theorem root_l0 (n : Node) (hl : n.Kids.length ≤ 1000) (hk : ∀ k ∈ n.Kids, PL.set_root k = some (rootN k)) : ∀ (m i : Nat) (c : List Node), n.Kids.length - i = m → c.length ≤ i →
    PL.set_root.l0 n c i = some (c ++ (n.Kids.drop i).map rootN) := by
  intro m
  induction m with
  | zero =>
    intro i c hm hc
    rw [PL.set_root.l0, if_neg (by simp <;> omega), List.drop_eq_nil_of_le (by omega), List.map_nil, List.append_nil]
  | succ m ih =>
    intro i c hm hc
    have hlt : i < n.Kids.length := by omega
    rw [PL.set_root.l0, if_pos (by simp <;> omega), getI_lit n.Kids i hlt]
    simp only [Option.bind_eq_bind, Option.bind_some, hk _ (List.getElem_mem hlt), w64_one i (by omega)]
    rw [room_ok (by omega)]
    simp only [Option.bind_some]
    rw [ih (i + 1) _ (by omega) (by simp; omega), drop_get hlt, List.map_cons, List.append_assoc]
    rfl
theorem one_kid {l : List Node} (h : l.length = 1) : ∃ k, l = [k] := by
  match l, h with
  | [k], _ => exact ⟨k, rfl⟩
theorem root_eq {n : Node} (h : Fm n) (hc : cnt n ≤ 400) : PL.set_root n = some (rootN n) := by
  induction h with
  | mk n h0 hz h12 h3 h4 h5 hop hk ih =>
    have hlen := cntL_ge n.Kids
    rw [cnt_eq] at hc
    have ih' : ∀ k ∈ n.Kids, PL.set_root k = some (rootN k) := fun k hkk => ih k hkk (by have := cntL_mem hkk; omega)
    rw [PL.set_root, rootN_eq]
    by_cases c5 : n.Op = 5
    · rw [if_pos (by simpa using c5), if_pos c5]
      obtain ⟨k, hkk⟩ := one_kid (h5 c5)
      have := ih' k (by rw [hkk]; exact List.mem_singleton.2 rfl)
      rw [hkk, show getI [k] 0 = some k from rfl]
      simp only [Option.bind_eq_bind, Option.bind_some, this]
      rfl
    · rw [if_neg (by simpa using c5), if_neg c5]
      have := root_l0 n (by omega) ih' _ 0 [] rfl (by simp)
      rw [show ((0 : Nat) : Int) = 0 from rfl] at this
      rw [this]
      simp
/-- The root is a constraint that holds for the same numbers. -/
theorem root_ok {n : Node} (h : Fm n) : Fm (rootN n) ∧ cnt (rootN n) ≤ cnt n ∧ dep (rootN n) ≤ dep n ∧ ∀ x, holds (rootN n) x = holds n x := by
  induction h with
  | mk n h0 hz h12 h3 h4 h5 hop hk ih =>
    by_cases c5 : n.Op = 5
    · obtain ⟨k, hkk⟩ := one_kid (h5 c5)
      have e : rootN n = rootN k := by rw [rootN_eq, if_pos c5, hkk]; rfl
      obtain ⟨i1, i2, i3, i4⟩ := ih k (by rw [hkk]; exact List.mem_singleton.2 rfl)
      rw [e]
      refine ⟨i1, ?_, ?_, fun x => ?_⟩
      · rw [cnt_eq n, hkk]; simp only [cntL]; omega
      · rw [dep_eq n, hkk]; simp only [depL]; omega
      · rw [i4, holds_eq n, hkk, c5]; rfl
    · have e : rootN n = ⟨n.Op, n.Lo, n.Hi, n.Kids.map rootN⟩ := by rw [rootN_eq, if_neg c5]
      have kc : ∀ ks : List Node, (∀ k ∈ ks, cnt (rootN k) ≤ cnt k ∧ dep (rootN k) ≤ dep k) → cntL (ks.map rootN) ≤ cntL ks ∧ depL (ks.map rootN) ≤ depL ks := by
        intro ks
        induction ks with
        | nil => intro _; exact ⟨Nat.le_refl _, Nat.le_refl _⟩
        | cons k ks ih2 =>
          intro hh
          have := hh k List.mem_cons_self
          have := ih2 fun q hq => hh q (List.mem_cons_of_mem _ hq)
          simp only [List.map_cons, cntL, depL]
          omega
      have kk := kc n.Kids fun k hkk => ⟨(ih k hkk).2.1, (ih k hkk).2.2.1⟩
      rw [e]
      refine ⟨.mk _ (fun c => ?_) hz (fun c => ?_) (fun c => ?_) (fun c => ?_) (fun c => absurd c c5) hop (fun k hkk => ?_), ?_, ?_, fun x => ?_⟩
      · obtain ⟨k0, k1⟩ := h0 c
        exact ⟨by simp only [k0]; rfl, k1⟩
      · have := h12 c; simpa using this
      · have := h3 c; simpa using this
      · simp only [h4 c]; rfl
      · obtain ⟨q, hq, rfl⟩ := List.mem_map.1 hkk
        exact (ih q hq).1
      · rw [cnt_eq n, cnt_eq]; simp only; omega
      · rw [dep_eq n, dep_eq]; simp only; omega
      · rw [holds_eq n, holds_eq]
        simp only [List.map_map]
        congr 1
        exact List.map_congr_left fun k hkk => (ih k hkk).2.2.2 x

/-! ### value -/
theorem holds_range {n : Node} (h : Fm n) (x : Int) : holds n x = true → -1000000000000000 ≤ x ∧ x ≤ 1000000000000000 := by
  induction h with
  | mk n h0 hz h12 h3 h4 h5 hop hk ih =>
    rw [holds_eq]
    unfold hold
    by_cases c0 : n.Op = 0
    · obtain ⟨_, k1, k2, k3⟩ := h0 c0
      rw [if_pos c0]
      simp only [Bool.and_eq_true, decide_eq_true_eq]
      omega
    · rw [if_neg c0]
      by_cases c1 : n.Op = 1
      · rw [if_pos c1, List.any_map, List.any_eq_true]
        rintro ⟨k, hkk, hh⟩
        exact ih k hkk hh
      · rw [if_neg c1]
        by_cases c2 : n.Op = 2
        · rw [if_pos c2, List.all_map, List.all_eq_true]
          intro hh
          have := h12 (.inr c2)
          exact ih n.Kids[0] (List.getElem_mem (by omega)) (hh _ (List.getElem_mem (by omega)))
        · rw [if_neg c2]
          by_cases c3 : n.Op = 3
          · have l3 := h3 c3
            rw [if_pos c3, List.getD_eq_getElem?_getD, List.getElem?_map, List.getElem?_eq_getElem (show 0 < n.Kids.length by omega)]
            simp only [Option.map_some, Option.getD_some, Bool.and_eq_true]
            exact fun hh => ih n.Kids[0] (List.getElem_mem (by omega)) hh.1
          · rw [if_neg c3]
            by_cases c5 : n.Op = 5
            · have l5 := h5 c5
              rw [if_pos c5, List.getD_eq_getElem?_getD, List.getElem?_map, List.getElem?_eq_getElem (show 0 < n.Kids.length by omega)]
              simp only [Option.map_some, Option.getD_some]
              exact fun hh => ih n.Kids[0] (List.getElem_mem (by omega)) hh
            · rw [if_neg c5]
              simp
/-- A value: ranges that stand apart, within the bounds, of the numbers for which the constraint holds. -/
def Val (n : Node) (v : List Pr) : Prop := (∃ lo, NF lo v) ∧ (∀ r ∈ v, okR r) ∧ v.length ≤ 2 * cnt n ∧ ∀ x, mem v x ↔ holds n x = true
theorem nf_ok : ∀ {v : List Pr} {lo : Int}, NF lo v → (∀ x, mem v x → -1000000000000000 ≤ x ∧ x ≤ 1000000000000000) → ∀ r ∈ v, okR r
  | r :: v, lo, h, hx, q, hq => by
    rcases List.mem_cons.1 hq with rfl | hq
    · have a := hx q.x0 ((mem_cons _ _ _).2 (.inl ⟨Int.le_refl _, h.2.1⟩))
      have b := hx q.x1 ((mem_cons _ _ _).2 (.inl ⟨h.2.1, Int.le_refl _⟩))
      exact ⟨a.1, h.2.1, b.2⟩
    · exact nf_ok h.2.2 (fun x hm => hx x ((mem_cons _ _ _).2 (.inr hm))) q hq
theorem nf_min {v : List Pr} {lo : Int} (h : NF lo v) (hb : ∀ r ∈ v, okR r) : NF (-1000000000000000) v := by
  cases v with
  | nil => trivial
  | cons r t => exact ⟨(hb r List.mem_cons_self).1, h.2⟩

theorem value_l0 (n : Node) (hl : n.Kids.length ≤ 1000) (hk : ∀ k ∈ n.Kids, ∃ v, PL.set_value k = some v ∧ Val k v) : ∀ (m i : Nat) (vs : List (List Pr)), n.Kids.length - i = m → vs.length = i → (∀ j (h : j < i) (h2 : i ≤ n.Kids.length), ∃ v, vs[j]? = some v ∧ Val n.Kids[j] v) → i ≤ n.Kids.length →
    ∃ ws, PL.set_value.l0 n vs i = some ws ∧ ws.length = n.Kids.length ∧ ∀ j (h : j < n.Kids.length), ∃ v, ws[j]? = some v ∧ Val n.Kids[j] v := by
  intro m
  induction m with
  | zero =>
    intro i vs hm hv hh hi
    rw [PL.set_value.l0, if_neg (by simp <;> omega)]
    exact ⟨vs, rfl, by omega, fun j h => hh j (by omega) hi⟩
  | succ m ih =>
    intro i vs hm hv hh hi
    have hlt : i < n.Kids.length := by omega
    obtain ⟨v, h1, h2⟩ := hk _ (List.getElem_mem hlt)
    rw [PL.set_value.l0, if_pos (by simp <;> omega), getI_lit n.Kids i hlt]
    simp only [Option.bind_eq_bind, Option.bind_some, h1, w64_one i (by omega)]
    rw [room_ok (by omega)]
    simp only [Option.bind_some]
    refine ih (i + 1) (vs ++ [v]) (by omega) (by simp; omega) (fun j hj _ => ?_) (by omega)
    by_cases c : j < i
    · obtain ⟨u, g1, g2⟩ := hh j c hi
      exact ⟨u, by rw [List.getElem?_append_left (by omega)]; exact g1, g2⟩
    · obtain rfl : j = i := by omega
      exact ⟨v, by rw [List.getElem?_append_right (by omega), hv]; simp, h2⟩

/-- Concat of all. -/
theorem cat_l0 (vs : List (List Pr)) (hv : vs.length ≤ 1000) (hs : vs.flatten.length ≤ 100000) : ∀ (m i s : Nat), vs.length - i = m → s + (vs.drop i).flatten.length ≤ 100000 →
    PL.slices_Concat_2int2int.l0 vs s i = some ((s + (vs.drop i).flatten.length : Nat) : Int) := by
  intro m
  induction m with
  | zero =>
    intro i s hm hb
    rw [PL.slices_Concat_2int2int.l0, if_neg (by simp <;> omega), List.drop_eq_nil_of_le (by omega)]
    rfl
  | succ m ih =>
    intro i s hm hb
    have hlt : i < vs.length := by omega
    rw [drop_get hlt, List.flatten_cons, List.length_append] at hb ⊢
    rw [PL.slices_Concat_2int2int.l0, if_pos (by simp <;> omega), getI_lit vs i hlt]
    simp only [Option.bind_eq_bind, Option.bind_some, w64_one i (by omega), w64_sum s vs[i].length (by omega) (by omega)]
    rw [if_neg (by simp <;> omega), ih (i + 1) _ (by omega) (by omega)]
    congr 2
    omega
theorem cat_l1 (vs : List (List Pr)) (hv : vs.length ≤ 1000) : ∀ (m i : Nat) (acc : List Pr), vs.length - i = m → acc.length + (vs.drop i).flatten.length ≤ 100000 →
    PL.slices_Concat_2int2int.l1 vs acc i = some (acc ++ (vs.drop i).flatten) := by
  intro m
  induction m with
  | zero =>
    intro i acc hm hb
    rw [PL.slices_Concat_2int2int.l1, if_neg (by simp <;> omega), List.drop_eq_nil_of_le (by omega)]
    simp
  | succ m ih =>
    intro i acc hm hb
    have hlt : i < vs.length := by omega
    rw [drop_get hlt, List.flatten_cons, List.length_append] at hb
    rw [PL.slices_Concat_2int2int.l1, if_pos (by simp <;> omega), getI_lit vs i hlt]
    simp only [Option.bind_eq_bind, Option.bind_some, w64_one i (by omega)]
    rw [room_ok (by omega)]
    simp only [Option.bind_some]
    rw [ih (i + 1) _ (by omega) (by rw [List.length_append]; omega), drop_get hlt, List.flatten_cons, List.append_assoc]
theorem cat_eq (vs : List (List Pr)) (hv : vs.length ≤ 1000) (hs : vs.flatten.length ≤ 100000) : PL.slices_Concat_2int2int vs = some vs.flatten := by
  have h0 := cat_l0 vs hv hs _ 0 0 rfl (by rw [List.drop_zero]; omega)
  have h1 := cat_l1 vs hv _ 0 [] rfl (by simpa using hs)
  rw [show ((0 : Nat) : Int) = 0 from rfl] at h0 h1
  rw [List.drop_zero] at h0 h1
  unfold PL.slices_Concat_2int2int
  rw [h0]
  simp only [Option.bind_eq_bind, Option.bind_some]
  rw [Nat.zero_add, grow_ok _ (by omega)]
  simp only [Option.bind_some, h1, List.nil_append]

/-- What a list of values is, kid for kid. -/
def Vals (ks : List Node) (ws : List (List Pr)) : Prop := ws.length = ks.length ∧ ∀ j (h : j < ks.length), ∃ v, ws[j]? = some v ∧ Val ks[j] v
theorem Vals.cons {k : Node} {ks : List Node} {ws : List (List Pr)} (h : Vals (k :: ks) ws) : ∃ v vs, ws = v :: vs ∧ Val k v ∧ Vals ks vs := by
  cases ws with
  | nil => have := h.1; simp at this
  | cons v vs =>
    refine ⟨v, vs, rfl, ?_, by have := h.1; simpa using this, fun j hj => ?_⟩
    · obtain ⟨u, h1, h2⟩ := h.2 0 (by simp)
      simp at h1
      subst h1
      exact h2
    · obtain ⟨u, h1, h2⟩ := h.2 (j + 1) (by simpa using hj)
      exact ⟨u, by simpa using h1, by simpa using h2⟩
theorem Vals.flat : ∀ {ks : List Node} {ws : List (List Pr)}, Vals ks ws → (∀ r ∈ ws.flatten, okR r) ∧ ws.flatten.length ≤ 2 * cntL ks ∧ ∀ x, mem ws.flatten x ↔ (ks.any fun k => holds k x) = true
  | [], ws, h => by
    obtain rfl : ws = [] := List.eq_nil_of_length_eq_zero (by have := h.1; simpa using this)
    exact ⟨fun r hr => (by cases hr), by simp, fun x => by simp [mem_nil]⟩
  | k :: ks, ws, h => by
    obtain ⟨v, vs, rfl, h1, h2⟩ := h.cons
    obtain ⟨i1, i2, i3⟩ := Vals.flat h2
    refine ⟨fun r hr => ?_, ?_, fun x => ?_⟩
    · rw [List.flatten_cons, List.mem_append] at hr
      rcases hr with hr | hr
      · exact h1.2.1 r hr
      · exact i1 r hr
    · rw [List.flatten_cons, List.length_append]
      simp only [cntL]
      have := h1.2.2.1
      omega
    · rw [List.flatten_cons, mem_append, i3, h1.2.2.2, List.any_cons, Bool.or_eq_true]

theorem comR_len : ∀ (m : Nat) (a b : List Pr), a.length + b.length ≤ m → (comR a b).length ≤ a.length + b.length := by
  intro m
  induction m with
  | zero =>
    intro a b h
    obtain rfl : a = [] := List.eq_nil_of_length_eq_zero (by omega)
    rw [comR_nil]; simp
  | succ m ih =>
    intro a b h
    cases a with
    | nil => rw [comR_nil]; simp
    | cons r s =>
      cases b with
      | nil => rw [comR_nil']; simp
      | cons q t =>
        simp only [List.length_cons] at h
        rw [comR_cons, List.length_append]
        have h1 : (if max r.x0 q.x0 ≤ min r.x1 q.x1 then [Pr.mk (max r.x0 q.x0) (min r.x1 q.x1)] else []).length ≤ 1 := by split <;> simp
        by_cases c : r.x1 < q.x1
        · rw [if_pos c]
          have := ih s (q :: t) (by simp; omega)
          simp only [List.length_cons] at this ⊢
          omega
        · rw [if_neg c]
          have := ih (r :: s) t (by simp; omega)
          simp only [List.length_cons] at this ⊢
          omega

/-- Meeting one after the other. -/
theorem meet_l1 (ws : List (List Pr)) : ∀ (ks : List Node) (i : Nat) (s : List Pr), Vals ks (ws.drop (i + 1)) → ws.length ≤ 1000 → i + 1 ≤ ws.length → (∃ lo, NF lo s) → (∀ r ∈ s, okR r) → s.length + 2 * cntL ks ≤ 100000 →
    ∃ v, PL.set_value.l1 ws s i = some v ∧ (∃ lo, NF lo v) ∧ (∀ r ∈ v, okR r) ∧ v.length ≤ s.length + 2 * cntL ks ∧ ∀ x, mem v x ↔ mem s x ∧ (ks.all fun k => holds k x) = true := by
  intro ks
  induction ks with
  | nil =>
    intro i s hv hw hi hs hb hl
    have := hv.1
    rw [List.length_drop] at this
    simp only [List.length_nil] at this
    rw [PL.set_value.l1, if_neg (by simp <;> omega)]
    exact ⟨s, rfl, hs, hb, by simp [cntL], fun x => by simp⟩
  | cons k ks ih =>
    intro i s hv hw hi hs hb hl
    have hlen := hv.1
    rw [List.length_drop] at hlen
    simp only [List.length_cons] at hlen
    have hlt : i + 1 < ws.length := by omega
    obtain ⟨v, vs, e, h1, h2⟩ := hv.cons
    rw [drop_get hlt] at e
    obtain ⟨e1, e2⟩ := List.cons.inj e
    subst e1; subst e2
    obtain ⟨lo, hs⟩ := hs
    obtain ⟨⟨lo', n1⟩, n2, n3, n4⟩ := h1
    simp only [cntL] at hl ⊢
    obtain ⟨g1, g2, g3⟩ := comR_ok _ s ws[i + 1] lo lo' (Nat.le_refl _) hs n1
    have gl := comR_len _ s ws[i + 1] (Nat.le_refl _)
    have gx : getI ((ws.take (ws.length : Int).toNat).drop (1 : Int).toNat) (i : Int) = some ws[i + 1] := by
      rw [getI_nat, Int.toNat_natCast, List.take_length]
      simp only [Int.toNat_one, List.getElem?_drop]
      rw [Nat.add_comm, List.getElem?_eq_getElem hlt]
    rw [PL.set_value.l1, if_pos (by simp <;> omega), gx]
    simp only [Option.bind_eq_bind, Option.bind_some, common_eq s ws[i + 1] (by omega) (by omega), w64_one i (by omega)]
    obtain ⟨u, u1, u2, u3, u4, u5⟩ := ih (i + 1) (comR s ws[i + 1]) h2 hw hlt ⟨lo, g1⟩ (nf_ok g1 fun x hx => mem_okR hb ((g3 x).1 hx).1) (by omega)
    refine ⟨u, u1, u2, u3, by omega, fun x => ?_⟩
    rw [u5, g3, n4, List.all_cons, Bool.and_eq_true, and_assoc]

theorem value_ok {n : Node} (h : Fm n) (hc : cnt n ≤ 400) : ∃ v, PL.set_value n = some v ∧ Val n v := by
  induction h with
  | mk n h0 hz h12 h3 h4 h5 hop hk ih =>
    have hf : Fm n := .mk n h0 hz h12 h3 h4 h5 hop hk
    have hlen := cntL_ge n.Kids
    have hcnt := cnt_eq n
    obtain ⟨ws, e, hw, hv⟩ := value_l0 n (by omega) (fun k hkk => ih k hkk (by have := cntL_mem hkk; omega)) _ 0 [] rfl rfl (fun j h => by omega) (by omega)
    have hV : Vals n.Kids ws := ⟨hw, hv⟩
    have hK : n.Kids.length ≤ 400 := by omega
    rw [show ((0 : Nat) : Int) = 0 from rfl] at e
    rw [PL.set_value, e]
    simp only [Option.bind_eq_bind, Option.bind_some]
    have hh : ∀ x, holds n x = hold n.Op n.Lo n.Hi x (n.Kids.map fun k => holds k x) := holds_eq n
    unfold hold at hh
    by_cases c0 : n.Op = 0
    · obtain ⟨k0, k1, k2, k3⟩ := h0 c0
      rw [if_pos (by simpa using c0)]
      refine ⟨_, rfl, ⟨n.Lo, Int.le_refl _, k1, trivial⟩, fun r hr => ?_, by simp; omega, fun x => ?_⟩
      · rw [List.mem_singleton] at hr
        subst hr
        exact ⟨k2, k1, k3⟩
      · rw [hh, if_pos c0, mem_cons]
        simp [mem_nil]
    · rw [if_neg (by simpa using c0)]
      simp only [if_neg c0] at hh
      by_cases c1 : n.Op = 1
      · rw [if_pos (by simpa using c1)]
        simp only [if_pos c1, List.any_map] at hh
        obtain ⟨f1, f2, f3⟩ := hV.flat
        obtain ⟨m, k, lo, t1, t2, t3, t4⟩ := tidy_ok ws.flatten f1 (by omega)
        rw [cat_eq ws (by omega) (by omega)]
        simp only [Option.bind_some, t1]
        refine ⟨m, rfl, ⟨lo, t2⟩, nf_ok t2 fun x hx => mem_okR f1 ((t3 x).1 hx), by omega, fun x => ?_⟩
        rw [t3, f3, hh]
        rfl
      · rw [if_neg (by simpa using c1)]
        simp only [if_neg c1] at hh
        by_cases c2 : n.Op = 2
        · rw [if_pos (by simpa using c2)]
          simp only [if_pos c2, List.all_map] at hh
          have l2 := h12 (.inr c2)
          match hks : n.Kids, hV, l2 with
          | k :: ks, hV, l2 =>
            obtain ⟨v, vs, rfl, v1, v2⟩ := hV.cons
            obtain ⟨⟨lo, w1⟩, w2, w3, w4⟩ := v1
            rw [hks] at hcnt
            simp only [cntL] at hcnt
            rw [show getI (v :: vs) 0 = some v from rfl]
            simp only [Option.bind_some]
            rw [if_pos (by simp <;> omega)]
            have hvl : (v :: vs).length ≤ 1000 := by omega
            obtain ⟨u, u1, u2, u3, u4, u5⟩ := meet_l1 (v :: vs) ks 0 v (by simpa using v2) hvl (by simp) ⟨lo, w1⟩ w2 (by omega)
            rw [show ((0 : Nat) : Int) = 0 from rfl] at u1
            rw [u1]
            refine ⟨u, rfl, u2, u3, by omega, fun x => ?_⟩
            rw [u5, hh, hks, w4, List.all_cons, Bool.and_eq_true]
            rfl
        · rw [if_neg (by simpa using c2)]
          simp only [if_neg c2] at hh
          by_cases c3 : n.Op = 3
          · rw [if_pos (by simpa using c3)]
            simp only [if_pos c3] at hh
            have l3 := h3 c3
            match hks : n.Kids, hV, l3 with
            | [k, q], hV, _ =>
              obtain ⟨v, vs, rfl, v1, v2⟩ := hV.cons
              obtain ⟨u, us, rfl, u1, u2⟩ := v2.cons
              obtain ⟨⟨lo, w1⟩, w2, w3, w4⟩ := v1
              obtain ⟨⟨lo', y1⟩, y2, y3, y4⟩ := u1
              rw [hks] at hcnt
              simp only [cntL] at hcnt
              rw [show getI (v :: u :: us) 0 = some v from rfl, show getI (v :: u :: us) 1 = some u from rfl]
              simp only [Option.bind_some]
              rw [outside_eq u (by omega) y2]
              simp only [Option.bind_some]
              have ol := outR_len u (-1000000000000000)
              rw [common_eq v _ (by omega) (by omega)]
              obtain ⟨o1, o2⟩ := outR_ok u _ (nf_min y1 y2) (fun r hr => (y2 r hr).2.2)
              obtain ⟨g1, _, g3⟩ := comR_ok _ v (outR (-1000000000000000) u) _ _ (Nat.le_refl _) w1 o1
              have gl := comR_len _ v (outR (-1000000000000000) u) (Nat.le_refl _)
              refine ⟨_, rfl, ⟨lo, g1⟩, nf_ok g1 fun x hx => mem_okR w2 ((g3 x).1 hx).1, by omega, fun x => ?_⟩
              rw [g3, o2, hh, hks, w4, y4]
              simp only [List.map_cons, List.map_nil, List.getD_eq_getElem?_getD, List.getElem?_cons_zero, List.getElem?_cons_succ, Option.getD_some, Bool.and_eq_true, Bool.not_eq_true', Bool.not_eq_true]
              constructor
              · rintro ⟨a1, _, _, a2⟩; exact ⟨a1, a2⟩
              · rintro ⟨a1, a2⟩
                have := mem_okR w2 ((w4 x).2 a1)
                exact ⟨a1, this.1, this.2, a2⟩
          · rw [if_neg (by simpa using c3)]
            simp only [if_neg c3] at hh
            by_cases c4 : n.Op = 4
            · rw [if_pos (by simpa using c4)]
              rw [c4] at hh
              simp only [show ¬ ((4 : Int) = 5) by decide, if_false] at hh
              refine ⟨_, rfl, ⟨-1000000000000000, by decide, by decide, trivial⟩, fun r hr => ?_, by simp; omega, fun x => ?_⟩
              · rw [List.mem_singleton] at hr
                subst hr
                unfold okR
                simp
              · rw [hh, mem_cons]
                simp [mem_nil]
            · have c5 : n.Op = 5 := by omega
              rw [if_neg (by simpa using c4)]
              simp only [if_pos c5] at hh
              obtain ⟨k, hkk⟩ := one_kid (h5 c5)
              rw [hkk] at hV hh hcnt
              simp only [cntL] at hcnt
              obtain ⟨v, vs, rfl, v1, v2⟩ := hV.cons
              rw [show getI (v :: vs) 0 = some v from rfl]
              refine ⟨v, rfl, v1.1, v1.2.1, by have := v1.2.2.1; omega, fun x => ?_⟩
              rw [hh, v1.2.2.2]
              rfl

/-! ### The law -/
theorem check_ok {n : Node} (h : Fm n) (hc : cnt n ≤ 200) (hd : dep n ≤ 20) : PL.set_check n = some 0 := by
  unfold PL.set_check
  rw [psize_eq n (by omega)]
  simp only [Option.bind_eq_bind, Option.bind_some]
  rw [if_neg (by simp <;> omega), if_neg (by simp <;> omega), formed_eq h (by omega)]
  rfl
theorem rcheck {n : Node} (hc : cnt n ≤ 400) : ∃ e, PL.ref03_Check n = some e ∧ (e = 0 → Fm n ∧ cnt n ≤ 200 ∧ dep n ≤ 20) := by
  obtain ⟨a, d, h1, h2, h3, h4, h5⟩ := rsize_eq n hc
  obtain ⟨b, s1, s2⟩ := shaped_eq n hc
  unfold PL.ref03_Check
  rw [h1]
  simp only [Option.bind_eq_bind, Option.bind_some]
  by_cases c : a > 200
  · exact ⟨2, by rw [if_pos (by simp <;> omega)], fun h => by cases h⟩
  · rw [if_neg (by simp <;> omega)]
    obtain ⟨e1, e2⟩ := h5 (by omega)
    by_cases c2 : d > 20
    · exact ⟨2, by rw [if_pos (by simp <;> omega)], fun h => by cases h⟩
    · rw [if_neg (by simp <;> omega), s1]
      cases b with
      | false => exact ⟨1, rfl, fun h => by cases h⟩
      | true => exact ⟨0, rfl, fun _ => ⟨s2 rfl, by omega, by omega⟩⟩
theorem fm_shp {n : Node} (h : Fm n) (hc : cnt n ≤ 400) : Shp n := by
  induction h with
  | mk n h0 hz h12 h3 h4 h5 hop hk ih =>
    have hlen := cntL_ge n.Kids
    rw [cnt_eq] at hc
    exact .mk n (fun c => ⟨(h0 c).2.2.1, (h0 c).2.1, (h0 c).2.2.2⟩) h3 h5 (by omega) (fun k hkk => ih k hkk (by have := cntL_mem hkk; omega))
theorem nf_isSet : ∀ (v : List Pr) (lo : Int), NF lo v → (∀ r ∈ v, okR r) → okAll v 0
  | [], _, _, _ => okAll_end (Nat.le_refl _)
  | r :: t, lo, h, hb => fun j _ q hq => by
    have ht := nf_isSet t _ h.2.2 fun x hx => hb x (List.mem_cons_of_mem _ hx)
    cases j with
    | zero =>
      simp at hq
      subst hq
      have := hb r List.mem_cons_self
      exact ⟨this.2.1, this.1, this.2.2, fun h => by omega⟩
    | succ j =>
      rw [List.getElem?_cons_succ] at hq
      obtain ⟨a1, a2, a3, a4⟩ := ht j (by omega) q hq
      refine ⟨a1, a2, a3, fun _ p hp => ?_⟩
      rw [Nat.add_sub_cancel] at hp
      cases j with
      | zero =>
        simp at hp
        subst hp
        have : mem t q.x0 := ⟨q, List.mem_of_getElem? hq, Int.le_refl _, a1⟩
        exact h.2.2.ge this
      | succ j =>
        rw [List.getElem?_cons_succ] at hp
        exact a4 (by omega) p (by simpa using hp)
end Go.AV
