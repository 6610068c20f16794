/- Sets of numbers as lists of ranges: the plain mathematics. -/
import Derived.Test.YtgclbdndnbgnoaaDoorPl
namespace Go.AV
set_option linter.all false

def mem (s : List Pr) (n : Int) : Prop := ∃ r ∈ s, r.x0 ≤ n ∧ n ≤ r.x1
theorem mem_nil (n : Int) : ¬ mem [] n := fun ⟨_, h, _⟩ => by cases h
theorem mem_cons (r : Pr) (s : List Pr) (n : Int) : mem (r :: s) n ↔ (r.x0 ≤ n ∧ n ≤ r.x1) ∨ mem s n := by
  unfold mem
  constructor
  · rintro ⟨q, hq, h⟩
    rcases List.mem_cons.1 hq with rfl | hq
    · exact .inl h
    · exact .inr ⟨q, hq, h⟩
  · rintro (h | ⟨q, hq, h⟩)
    · exact ⟨r, List.mem_cons_self, h⟩
    · exact ⟨q, List.mem_cons_of_mem _ hq, h⟩
theorem mem_append (s t : List Pr) (n : Int) : mem (s ++ t) n ↔ mem s n ∨ mem t n := by
  induction s with
  | nil => simp [mem_nil]
  | cons r s ih => rw [List.cons_append, mem_cons, mem_cons, ih, or_assoc]
theorem mem_perm {s t : List Pr} (h : s.Perm t) (n : Int) : mem s n ↔ mem t n := by
  unfold mem
  exact ⟨fun ⟨r, hr, h2⟩ => ⟨r, h.mem_iff.1 hr, h2⟩, fun ⟨r, hr, h2⟩ => ⟨r, h.mem_iff.2 hr, h2⟩⟩

/-- Ranges that stand apart, from lo on. -/
def NF : Int → List Pr → Prop
  | _, [] => True
  | lo, r :: t => lo ≤ r.x0 ∧ r.x0 ≤ r.x1 ∧ NF (r.x1 + 2) t
theorem NF.le {lo lo' : Int} {s : List Pr} (h : NF lo s) (hl : lo' ≤ lo) : NF lo' s := by
  cases s with
  | nil => trivial
  | cons r t => exact ⟨Int.le_trans hl h.1, h.2⟩
theorem NF.ge : ∀ {s : List Pr} {lo n : Int}, NF lo s → mem s n → lo ≤ n
  | [], _, _, _, h => absurd h (mem_nil _)
  | r :: t, lo, n, h, hm => by
    rcases (mem_cons _ _ _).1 hm with h1 | h1
    · have := h.1; omega
    · have := NF.ge h.2.2 h1; have := h.1; have := h.2.1; omega

/-- The same members, the same ranges. -/
theorem NF.uniq : ∀ {s t : List Pr} {lo lo' : Int}, NF lo s → NF lo' t → (∀ n, mem s n ↔ mem t n) → s = t
  | [], [], _, _, _, _, _ => rfl
  | [], q :: t, _, _, _, h, e => absurd ((e q.x0).2 ((mem_cons _ _ _).2 (.inl ⟨Int.le_refl _, h.2.1⟩))) (mem_nil _)
  | r :: s, [], _, _, h, _, e => absurd ((e r.x0).1 ((mem_cons _ _ _).2 (.inl ⟨Int.le_refl _, h.2.1⟩))) (mem_nil _)
  | r :: s, q :: t, lo, lo', h, k, e => by
    have m1 : mem (q :: t) r.x0 := (e _).1 ((mem_cons _ _ _).2 (.inl ⟨Int.le_refl _, h.2.1⟩))
    have m2 : mem (r :: s) q.x0 := (e _).2 ((mem_cons _ _ _).2 (.inl ⟨Int.le_refl _, k.2.1⟩))
    have h' : NF r.x0 (r :: s) := ⟨Int.le_refl _, h.2⟩
    have k' : NF q.x0 (q :: t) := ⟨Int.le_refl _, k.2⟩
    have g1 := k'.ge m1
    have g2 := h'.ge m2
    have e0 : r.x0 = q.x0 := by omega
    have e1 : r.x1 = q.x1 := by
      rcases Int.lt_trichotomy r.x1 q.x1 with hl | hl | hl
      · have := (e (r.x1 + 1)).2 ((mem_cons _ _ _).2 (.inl ⟨by have := h.2.1; omega, by omega⟩))
        rcases (mem_cons _ _ _).1 this with h1 | h1
        · omega
        · have := h.2.2.ge h1; omega
      · exact hl
      · have := (e (q.x1 + 1)).1 ((mem_cons _ _ _).2 (.inl ⟨by have := k.2.1; omega, by omega⟩))
        rcases (mem_cons _ _ _).1 this with h1 | h1
        · omega
        · have := k.2.2.ge h1; omega
    have er : r = q := by cases r; cases q; simp_all
    subst er
    congr 1
    refine NF.uniq h.2.2 k.2.2 fun n => ?_
    constructor
    · intro hn
      have g := h.2.2.ge hn
      rcases (mem_cons _ _ _).1 ((e n).1 ((mem_cons _ _ _).2 (.inr hn))) with h1 | h1
      · omega
      · exact h1
    · intro hn
      have g := k.2.2.ge hn
      rcases (mem_cons _ _ _).1 ((e n).2 ((mem_cons _ _ _).2 (.inr hn))) with h1 | h1
      · omega
      · exact h1

/-! ### tidy: what touches is joined -/
def joinR : Pr → List Pr → List Pr
  | r, [] => [r]
  | r, q :: t => if q.x0 ≤ r.x1 + 1 then joinR ⟨r.x0, max r.x1 q.x1⟩ t else r :: joinR q t
def asc : Int → List Pr → Prop
  | _, [] => True
  | lo, r :: t => lo ≤ r.x0 ∧ r.x0 ≤ r.x1 ∧ asc r.x0 t
theorem asc.le {lo lo' : Int} {s : List Pr} (h : asc lo s) (hl : lo' ≤ lo) : asc lo' s := by
  cases s with
  | nil => trivial
  | cons r t => exact ⟨Int.le_trans hl h.1, h.2⟩
theorem joinR_ok : ∀ (t : List Pr) (r : Pr), r.x0 ≤ r.x1 → asc r.x0 t → NF r.x0 (joinR r t) ∧ ∀ n, mem (joinR r t) n ↔ mem (r :: t) n
  | [], r, h, _ => ⟨⟨Int.le_refl _, h, trivial⟩, fun _ => Iff.rfl⟩
  | q :: t, r, h, ha => by
    unfold joinR
    by_cases c : q.x0 ≤ r.x1 + 1
    · rw [if_pos c]
      obtain ⟨i1, i2⟩ := joinR_ok t ⟨r.x0, max r.x1 q.x1⟩ (by show r.x0 ≤ max r.x1 q.x1; omega) (ha.2.2.le ha.1)
      refine ⟨i1, fun n => ?_⟩
      rw [i2, mem_cons, mem_cons, mem_cons]
      have := ha.1; have := ha.2.1
      constructor
      · rintro (h1 | h1)
        · simp only at h1
          by_cases c2 : n ≤ r.x1
          · exact .inl ⟨h1.1, c2⟩
          · exact .inr (.inl (by omega))
        · exact .inr (.inr h1)
      · rintro (h1 | h1 | h1)
        · exact .inl (by simp only; omega)
        · exact .inl (by simp only; omega)
        · exact .inr h1
    · rw [if_neg c]
      obtain ⟨i1, i2⟩ := joinR_ok t q ha.2.1 ha.2.2
      refine ⟨⟨Int.le_refl _, h, i1.le (by omega)⟩, fun n => ?_⟩
      rw [mem_cons, i2, mem_cons, mem_cons, mem_cons]

/-! ### common -/
def comR (a b : List Pr) : List Pr :=
  match a, b with
  | r :: s, q :: t => (if max r.x0 q.x0 ≤ min r.x1 q.x1 then [⟨max r.x0 q.x0, min r.x1 q.x1⟩] else []) ++ (if r.x1 < q.x1 then comR s (q :: t) else comR (r :: s) t)
  | _, _ => []
termination_by a.length + b.length
theorem comR_nil (b : List Pr) : comR [] b = [] := by unfold comR; rfl
theorem comR_nil' (a : List Pr) : comR a [] = [] := by unfold comR; cases a <;> rfl
theorem comR_cons (r q : Pr) (s t : List Pr) : comR (r :: s) (q :: t) = (if max r.x0 q.x0 ≤ min r.x1 q.x1 then [⟨max r.x0 q.x0, min r.x1 q.x1⟩] else []) ++ (if r.x1 < q.x1 then comR s (q :: t) else comR (r :: s) t) := by
  conv => lhs; unfold comR
theorem comR_ok : ∀ (k : Nat) (a b : List Pr) (lo lo' : Int), a.length + b.length ≤ k → NF lo a → NF lo' b → NF lo (comR a b) ∧ NF lo' (comR a b) ∧ ∀ n, mem (comR a b) n ↔ mem a n ∧ mem b n := by
  intro k
  induction k with
  | zero =>
    intro a b lo lo' hk _ _
    obtain rfl : a = [] := List.eq_nil_of_length_eq_zero (by omega)
    rw [comR_nil]
    exact ⟨trivial, trivial, fun n => ⟨fun h => absurd h (mem_nil _), fun h => absurd h.1 (mem_nil _)⟩⟩
  | succ k ih =>
    intro a b lo lo' hk ha hb
    cases a with
    | nil =>
      rw [comR_nil]
      exact ⟨trivial, trivial, fun n => ⟨fun h => absurd h (mem_nil _), fun h => absurd h.1 (mem_nil _)⟩⟩
    | cons r s =>
      cases b with
      | nil =>
        rw [comR_nil']
        exact ⟨trivial, trivial, fun n => ⟨fun h => absurd h (mem_nil _), fun h => absurd h.2 (mem_nil _)⟩⟩
      | cons q t =>
        rw [comR_cons]
        obtain ⟨a1, a2, a3⟩ := ha
        obtain ⟨b1, b2, b3⟩ := hb
        simp only [List.length_cons] at hk
        have hs : ∀ n, mem s n → r.x1 + 2 ≤ n := fun n h => a3.ge h
        have ht : ∀ n, mem t n → q.x1 + 2 ≤ n := fun n h => b3.ge h
        by_cases c : r.x1 < q.x1
        · rw [if_pos c]
          obtain ⟨i1, i2, i3⟩ := ih s (q :: t) (r.x1 + 2) lo' (by simp; omega) a3 ⟨b1, b2, b3⟩
          have hm : ∀ n, mem (comR s (q :: t)) n ↔ mem s n ∧ mem (q :: t) n := i3
          by_cases c2 : max r.x0 q.x0 ≤ min r.x1 q.x1
          · rw [if_pos c2]
            refine ⟨⟨by show lo ≤ max r.x0 q.x0; omega, c2, i1.le (by show min r.x1 q.x1 + 2 ≤ _; omega)⟩, ⟨by show lo' ≤ max r.x0 q.x0; omega, c2, i1.le (by show min r.x1 q.x1 + 2 ≤ _; omega)⟩, fun n => ?_⟩
            rw [List.singleton_append, mem_cons, hm, mem_cons, mem_cons]
            have := hs n; have := ht n
            constructor
            · rintro (h | ⟨h1, h2⟩)
              · exact ⟨.inl (by simp only at h; omega), .inl (by simp only at h; omega)⟩
              · exact ⟨.inr h1, h2⟩
            · rintro ⟨h1 | h1, h2⟩
              · left; rcases h2 with h2 | h2
                · simp only; omega
                · have := ht n h2; omega
              · exact .inr ⟨h1, h2⟩
          · rw [if_neg c2, List.nil_append]
            refine ⟨i1.le (by omega), i2, fun n => ?_⟩
            rw [hm, mem_cons, mem_cons]
            constructor
            · rintro ⟨h1, h2⟩; exact ⟨.inr h1, h2⟩
            · rintro ⟨h1 | h1, h2⟩
              · rcases h2 with h2 | h2
                · omega
                · have := ht n h2; omega
              · exact ⟨h1, h2⟩
        · rw [if_neg c]
          obtain ⟨i1, i2, i3⟩ := ih (r :: s) t lo (q.x1 + 2) (by simp; omega) ⟨a1, a2, a3⟩ b3
          have hm : ∀ n, mem (comR (r :: s) t) n ↔ mem (r :: s) n ∧ mem t n := i3
          by_cases c2 : max r.x0 q.x0 ≤ min r.x1 q.x1
          · rw [if_pos c2]
            refine ⟨⟨by show lo ≤ max r.x0 q.x0; omega, c2, i2.le (by show min r.x1 q.x1 + 2 ≤ _; omega)⟩, ⟨by show lo' ≤ max r.x0 q.x0; omega, c2, i2.le (by show min r.x1 q.x1 + 2 ≤ _; omega)⟩, fun n => ?_⟩
            rw [List.singleton_append, mem_cons, hm, mem_cons, mem_cons]
            constructor
            · rintro (h | ⟨h1, h2⟩)
              · exact ⟨.inl (by simp only at h; omega), .inl (by simp only at h; omega)⟩
              · exact ⟨h1, .inr h2⟩
            · rintro ⟨h1, h2 | h2⟩
              · left; rcases h1 with h1 | h1
                · simp only; omega
                · have := hs n h1; omega
              · exact .inr ⟨h1, h2⟩
          · rw [if_neg c2, List.nil_append]
            refine ⟨i1, i2.le (by omega), fun n => ?_⟩
            rw [hm, mem_cons, mem_cons]
            constructor
            · rintro ⟨h1, h2⟩; exact ⟨h1, .inr h2⟩
            · rintro ⟨h1, h2 | h2⟩
              · rcases h1 with h1 | h1
                · omega
                · have := hs n h1; omega
              · exact ⟨h1, h2⟩

/-! ### outside -/
def outR : Int → List Pr → List Pr
  | lo, [] => if lo ≤ 1000000000000000 then [⟨lo, 1000000000000000⟩] else []
  | lo, r :: t => (if lo < r.x0 then [⟨lo, r.x0 - 1⟩] else []) ++ outR (r.x1 + 1) t
theorem outR_ok : ∀ (s : List Pr) (lo : Int), NF lo s → (∀ r ∈ s, r.x1 ≤ 1000000000000000) → NF lo (outR lo s) ∧ ∀ n, mem (outR lo s) n ↔ (lo ≤ n ∧ n ≤ 1000000000000000 ∧ ¬ mem s n)
  | [], lo, _, _ => by
    unfold outR
    by_cases c : lo ≤ 1000000000000000
    · rw [if_pos c]
      refine ⟨⟨Int.le_refl _, c, trivial⟩, fun n => ?_⟩
      rw [mem_cons]
      simp only [mem_nil, or_false, not_false_eq_true, and_true]
    · rw [if_neg c]
      refine ⟨trivial, fun n => ?_⟩
      simp only [mem_nil, not_false_eq_true, and_true, false_iff]
      omega
  | r :: t, lo, h, hb => by
    unfold outR
    obtain ⟨h1, h2, h3⟩ := h
    have hr := hb r List.mem_cons_self
    obtain ⟨i1, i2⟩ := outR_ok t (r.x1 + 1) (h3.le (by omega)) (fun q hq => hb q (List.mem_cons_of_mem _ hq))
    have i1' : NF (r.x1 + 1) (outR (r.x1 + 1) t) := i1
    by_cases c : lo < r.x0
    · rw [if_pos c, List.singleton_append]
      refine ⟨⟨Int.le_refl _, by show lo ≤ r.x0 - 1; omega, i1.le (by show r.x0 - 1 + 2 ≤ _; omega)⟩, fun n => ?_⟩
      rw [mem_cons, i2, mem_cons]
      simp only
      have := h3.ge (n := n)
      constructor
      · rintro (h | ⟨h5, h6, h7⟩)
        · exact ⟨h.1, by omega, by rintro (h | h); omega; have := this h; omega⟩
        · exact ⟨by omega, h6, by rintro (h | h); omega; exact h7 h⟩
      · rintro ⟨h5, h6, h7⟩
        by_cases c2 : n < r.x0
        · exact .inl (by omega)
        · refine .inr ⟨?_, h6, fun h => h7 (.inr h)⟩
          apply Classical.byContradiction
          intro h8
          exact h7 (.inl (by omega))
    · rw [if_neg c, List.nil_append]
      refine ⟨i1.le (by omega), fun n => ?_⟩
      rw [i2, mem_cons]
      constructor
      · rintro ⟨h5, h6, h7⟩; exact ⟨by omega, h6, by rintro (h | h); omega; exact h7 h⟩
      · rintro ⟨h5, h6, h7⟩
        refine ⟨?_, h6, fun h => h7 (.inr h)⟩
        apply Classical.byContradiction
        intro h8
        exact h7 (.inl (by omega))

/-! ### by places -/
def putR (x : Int) : List Int → List Int
  | [] => [x]
  | y :: t => if x ≤ y then (if x < y then x :: y :: t else y :: t) else y :: putR x t
def ascI : List Int → Prop
  | [] => True
  | x :: t => (∀ y ∈ t, x < y) ∧ ascI t
theorem putR_mem (x : Int) : ∀ (l : List Int) (z : Int), z ∈ putR x l ↔ z = x ∨ z ∈ l
  | [], z => by simp [putR]
  | y :: t, z => by
    unfold putR
    have ih := putR_mem x t z
    by_cases c : x ≤ y
    · rw [if_pos c]
      by_cases c2 : x < y
      · rw [if_pos c2]; simp
      · rw [if_neg c2]
        obtain rfl : x = y := by omega
        simp
    · rw [if_neg c, List.mem_cons, ih, List.mem_cons]
      constructor
      · rintro (h | h | h)
        · exact .inr (.inl h)
        · exact .inl h
        · exact .inr (.inr h)
      · rintro (h | h | h)
        · exact .inr (.inl h)
        · exact .inl h
        · exact .inr (.inr h)
theorem putR_asc (x : Int) : ∀ (l : List Int), ascI l → ascI (putR x l)
  | [], _ => ⟨fun _ h => (by cases h), trivial⟩
  | y :: t, h => by
    unfold putR
    by_cases c : x ≤ y
    · rw [if_pos c]
      by_cases c2 : x < y
      · rw [if_pos c2]
        exact ⟨fun z hz => by
          rcases List.mem_cons.1 hz with rfl | hz
          · exact c2
          · have := h.1 z hz; omega, h⟩
      · rw [if_neg c2]; exact h
    · rw [if_neg c]
      refine ⟨fun z hz => ?_, putR_asc x t h.2⟩
      rcases (putR_mem x t z).1 hz with rfl | hz
      · omega
      · exact h.1 z hz
theorem putR_len (x : Int) : ∀ l : List Int, (putR x l).length ≤ l.length + 1
  | [] => Nat.le_refl _
  | y :: t => by
    unfold putR
    have := putR_len x t
    split
    · split <;> simp
    · simp; omega

/-- The ranges between places where a rule holds; the last one is open to go on. -/
def segP (h : Int → Bool) : Pr → List Int → List Pr
  | r, x :: y :: t => if h x then (if r.x1 = x - 1 then segP h ⟨r.x0, y - 1⟩ (y :: t) else r :: segP h ⟨x, y - 1⟩ (y :: t)) else segP h r (y :: t)
  | r, _ => [r]
def segN (h : Int → Bool) : List Int → List Pr
  | x :: y :: t => if h x then segP h ⟨x, y - 1⟩ (y :: t) else segN h (y :: t)
  | _ => []
/-- A number lies between two places of which the lower one holds. -/
def btw (h : Int → Bool) : List Int → Int → Prop
  | x :: y :: t, n => (x ≤ n ∧ n < y ∧ h x = true) ∨ btw h (y :: t) n
  | _, _ => False
theorem btw_cons (h : Int → Bool) (x y : Int) (t : List Int) (n : Int) : btw h (x :: y :: t) n ↔ (x ≤ n ∧ n < y ∧ h x = true) ∨ btw h (y :: t) n := Iff.rfl
theorem segP_nil (h : Int → Bool) (r : Pr) : segP h r [] = [r] := by unfold segP; rfl
theorem segP_one (h : Int → Bool) (r : Pr) (x : Int) : segP h r [x] = [r] := by unfold segP; rfl
theorem segP_ok (h : Int → Bool) : ∀ (l : List Int) (r : Pr), ascI l → r.x0 ≤ r.x1 → (∀ x ∈ l, r.x1 < x) → NF r.x0 (segP h r l) ∧ ∀ n, mem (segP h r l) n ↔ (r.x0 ≤ n ∧ n ≤ r.x1) ∨ btw h l n
  | [], r, _, h0, _ => ⟨⟨Int.le_refl _, h0, trivial⟩, fun n => by rw [segP_nil, mem_cons]; simp [mem_nil, btw]⟩
  | [x], r, _, h0, _ => ⟨⟨Int.le_refl _, h0, trivial⟩, fun n => by rw [segP_one, mem_cons]; simp [mem_nil, btw]⟩
  | x :: y :: t, r, ha, h0, hl => by
    have hx := hl x List.mem_cons_self
    have hxy : x < y := ha.1 y List.mem_cons_self
    have hrest : ∀ z ∈ y :: t, y - 1 < z := fun z hz => by
      rcases List.mem_cons.1 hz with rfl | hz
      · omega
      · have := ha.2.1 z hz; omega
    unfold segP
    by_cases c : h x = true
    · rw [if_pos c]
      by_cases c2 : r.x1 = x - 1
      · rw [if_pos c2]
        obtain ⟨i1, i2⟩ := segP_ok h (y :: t) ⟨r.x0, y - 1⟩ ha.2 (by show r.x0 ≤ y - 1; omega) hrest
        refine ⟨i1, fun n => ?_⟩
        rw [i2]
        rw [btw_cons]
        simp only
        constructor
        · rintro (h1 | h1)
          · by_cases c3 : n ≤ r.x1
            · exact .inl ⟨h1.1, c3⟩
            · exact .inr (.inl ⟨by omega, by omega, c⟩)
          · exact .inr (.inr h1)
        · rintro (h1 | h1 | h1)
          · exact .inl (by omega)
          · exact .inl (by omega)
          · exact .inr h1
      · rw [if_neg c2]
        obtain ⟨i1, i2⟩ := segP_ok h (y :: t) ⟨x, y - 1⟩ ha.2 (by show x ≤ y - 1; omega) hrest
        refine ⟨⟨Int.le_refl _, h0, i1.le (by show r.x1 + 2 ≤ x; omega)⟩, fun n => ?_⟩
        rw [mem_cons, i2]
        rw [btw_cons]
        simp only
        constructor
        · rintro (h1 | h1 | h1)
          · exact .inl h1
          · exact .inr (.inl ⟨h1.1, by omega, c⟩)
          · exact .inr (.inr h1)
        · rintro (h1 | h1 | h1)
          · exact .inl h1
          · exact .inr (.inl (by omega))
          · exact .inr (.inr h1)
    · rw [if_neg c]
      obtain ⟨i1, i2⟩ := segP_ok h (y :: t) r ha.2 h0 (fun z hz => hl z (List.mem_cons_of_mem _ hz))
      refine ⟨i1, fun n => ?_⟩
      rw [i2]
      rw [btw_cons]
      simp [c]
theorem segN_ok (h : Int → Bool) : ∀ (l : List Int), ascI l → (∃ lo, NF lo (segN h l)) ∧ ∀ n, mem (segN h l) n ↔ btw h l n
  | [], _ => ⟨⟨0, trivial⟩, fun n => by simp [segN, mem_nil, btw]⟩
  | [x], _ => ⟨⟨0, by simp [segN, NF]⟩, fun n => by simp [segN, mem_nil, btw]⟩
  | x :: y :: t, ha => by
    have hxy : x < y := ha.1 y List.mem_cons_self
    unfold segN
    by_cases c : h x = true
    · rw [if_pos c]
      obtain ⟨i1, i2⟩ := segP_ok h (y :: t) ⟨x, y - 1⟩ ha.2 (by show x ≤ y - 1; omega) (fun z hz => by
        show y - 1 < z
        rcases List.mem_cons.1 hz with rfl | hz
        · omega
        · have := ha.2.1 z hz; omega)
      refine ⟨⟨_, i1⟩, fun n => ?_⟩
      rw [i2]
      rw [btw_cons]
      simp only
      constructor
      · rintro (h1 | h1)
        · exact .inl ⟨h1.1, by omega, c⟩
        · exact .inr h1
      · rintro (h1 | h1)
        · exact .inl (by omega)
        · exact .inr h1
    · rw [if_neg c]
      obtain ⟨i1, i2⟩ := segN_ok h (y :: t) ha.2
      refine ⟨i1, fun n => ?_⟩
      rw [i2]
      conv => rhs; rw [btw_cons]
      simp [c]
/-- If a rule does not turn between places, lying between is holding. -/
theorem btw_ok (h : Int → Bool) : ∀ (l : List Int) (lo hi : Int), ascI l → l.head? = some lo → l.getLast? = some hi → (∀ x n, lo ≤ x → x ≤ n → n < hi → (∀ p ∈ l, ¬ (x < p ∧ p ≤ n)) → h x = h n) → ∀ n, btw h l n ↔ lo ≤ n ∧ n < hi ∧ h n = true
  | [], lo, hi, _, h1, _, _, n => by simp at h1
  | [x], lo, hi, _, h1, h2, _, n => by
    simp at h1 h2
    subst h1; subst h2
    simp [btw]
    omega
  | x :: y :: t, lo, hi, ha, h1, h2, hc, n => by
    simp only [List.head?_cons, Option.some.injEq] at h1
    subst h1
    have hxy : x < y := ha.1 y List.mem_cons_self
    have h2' : (y :: t).getLast? = some hi := by rw [← h2]; rfl
    have hyh : y ≤ hi := by
      have := List.mem_of_getLast? h2'
      rcases List.mem_cons.1 this with rfl | hz
      · exact Int.le_refl _
      · have := ha.2.1 hi hz; omega
    have ih := btw_ok h (y :: t) y hi ha.2 rfl h2' (fun a b hab1 hab2 hab3 hab4 => hc a b (by omega) hab2 hab3 (fun p hp => by
      rcases List.mem_cons.1 hp with rfl | hp
      · omega
      · exact hab4 p hp)) n
    rw [btw_cons, ih]
    have same : x ≤ n → n < y → h x = h n := fun g1 g2 => hc x n (Int.le_refl _) g1 (by omega) (fun p hp => by
      rcases List.mem_cons.1 hp with rfl | hp
      · omega
      · rcases List.mem_cons.1 hp with rfl | hp
        · omega
        · have := ha.2.1 p hp; omega)
    constructor
    · rintro (⟨g1, g2, g3⟩ | ⟨g1, g2, g3⟩)
      · exact ⟨g1, by omega, by rw [← same g1 g2]; exact g3⟩
      · exact ⟨by omega, g2, g3⟩
    · rintro ⟨g1, g2, g3⟩
      by_cases c : n < y
      · exact .inl ⟨g1, c, by rw [same g1 c]; exact g3⟩
      · exact .inr ⟨by omega, g2, g3⟩
end Go.AV
