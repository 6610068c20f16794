/- Sorting, of any elements: what a part of a list is, what sorted is, what a swap does. Words with small numbers. -/
import Derived.Test.YtgclbdndnbgnoaaDoorVn
namespace Go.AV
set_option linter.all false

theorem w64_id {x : Int} (h : -9223372036854775808 ≤ x) (h2 : x ≤ 9223372036854775807) : w64 x = x := by
  unfold w64
  rw [IntKind.wrap_i64]
  omega
theorem getI_nat {α : Type} (l : List α) (i : Nat) : getI l (i : Int) = l[i]? := by
  unfold getI
  rw [if_pos (by omega)]
  simp
theorem room_ok {n b : Nat} (h : n * b ≤ 140737488355328) : room n b = some () := by unfold room; rw [if_pos h]

theorem w64_one (i : Nat) (h : i ≤ 100000000) : w64 ((i : Int) + 1) = ((i + 1 : Nat) : Int) := by rw [w64_id (by omega) (by omega)]; omega
theorem w64_pred (i : Nat) (h1 : 1 ≤ i) (h : i ≤ 100000000) : w64 ((i : Int) - 1) = ((i - 1 : Nat) : Int) := by rw [w64_id (by omega) (by omega)]; omega
theorem w64_dif (i j : Nat) (h1 : j ≤ i) (h : i ≤ 100000000) : w64 ((i : Int) - (j : Int)) = ((i - j : Nat) : Int) := by rw [w64_id (by omega) (by omega)]; omega
theorem w64_sum (i j : Nat) (h1 : j ≤ 100000000) (h : i ≤ 100000000) : w64 ((i : Int) + (j : Int)) = ((i + j : Nat) : Int) := by rw [w64_id (by omega) (by omega)]; omega
theorem w64_dbl (i : Nat) (h : i ≤ 100000000) : w64 (2 * (i : Int)) = ((2 * i : Nat) : Int) := by rw [w64_id (by omega) (by omega)]; omega

section sort
variable {α : Type} [Inhabited α]

/-- The element at a place. -/
def el (l : List α) (k : Nat) : α := l.getD k default
theorem el_get {l : List α} {k : Nat} (h : k < l.length) : l[k]? = some (el l k) := by
  unfold el
  rw [List.getD_eq_getElem?_getD, List.getElem?_eq_getElem h]
  rfl
theorem el_eq {l : List α} {k : Nat} (h : k < l.length) : el l k = l[k] := by
  have := el_get h
  rw [List.getElem?_eq_getElem h] at this
  exact (Option.some.inj this).symm
theorem getI_el {l : List α} {k : Nat} (h : k < l.length) : getI l (k : Int) = some (el l k) := by rw [getI_nat, el_get h]
theorem el_set {l : List α} {i k : Nat} {x : α} (h : i < l.length) : el (l.set i x) k = if k = i then x else el l k := by
  unfold el
  rw [List.getD_eq_getElem?_getD, List.getD_eq_getElem?_getD]
  by_cases c : k = i
  · subst c; simp [h]
  · rw [List.getElem?_set_ne (by omega), if_neg c]

def sw (l : List α) (i j : Nat) : List α := (l.set i (el l j)).set j (el l i)
theorem sw_len (l : List α) (i j : Nat) : (sw l i j).length = l.length := by simp [sw]
theorem sw_el {l : List α} {i j : Nat} (hi : i < l.length) (hj : j < l.length) (k : Nat) : el (sw l i j) k = if k = j then el l i else if k = i then el l j else el l k := by
  unfold sw
  rw [el_set (by simpa using hj), el_set hi]
theorem sw_perm {l : List α} {i j : Nat} (hi : i < l.length) (hj : j < l.length) : (sw l i j).Perm l := by
  unfold sw
  rw [el_eq hi, el_eq hj]
  exact List.set_set_perm hi hj

/-- The same outside of [a, b), the same elements in all, and in [a, b). -/
structure Part (l m : List α) (a b : Nat) : Prop where
  p : m.Perm l
  out : ∀ k, k < a ∨ b ≤ k → el m k = el l k
  all : ∀ Q : α → Prop, (∀ k, a ≤ k → k < b → Q (el l k)) → ∀ k, a ≤ k → k < b → Q (el m k)
theorem Part.refl (l : List α) (a b : Nat) : Part l l a b := ⟨.refl _, fun _ _ => rfl, fun _ h => h⟩
theorem Part.trans {l m n : List α} {a b : Nat} (h : Part l m a b) (k : Part m n a b) : Part l n a b :=
  ⟨k.p.trans h.p, fun x hx => (k.out x hx).trans (h.out x hx), fun Q hq => k.all Q (h.all Q hq)⟩
theorem Part.len {l m : List α} {a b : Nat} (h : Part l m a b) : m.length = l.length := h.p.length_eq
theorem Part.mono {l m : List α} {a b c d : Nat} (h : Part l m a b) (h1 : c ≤ a) (h2 : b ≤ d) : Part l m c d :=
  ⟨h.p, fun x hx => h.out x (by omega), fun Q hq k hk hd => by
    by_cases hh : k < a ∨ b ≤ k
    · rw [h.out k hh]; exact hq k hk hd
    · exact h.all Q (fun x hx hy => hq x (by omega) (by omega)) k (by omega) (by omega)⟩
theorem Part.sw {l : List α} {a b i j : Nat} (hi : i < l.length) (hj : j < l.length) (h1 : a ≤ i) (h2 : i < b) (h3 : a ≤ j) (h4 : j < b) : Part l (sw l i j) a b :=
  ⟨sw_perm hi hj, fun k hk => by rw [sw_el hi hj, if_neg (by omega), if_neg (by omega)], fun Q hq k hk hd => by
    rw [sw_el hi hj]
    by_cases c1 : k = j
    · rw [if_pos c1]; exact hq i h1 h2
    · rw [if_neg c1]
      by_cases c2 : k = i
      · rw [if_pos c2]; exact hq j h3 h4
      · rw [if_neg c2]; exact hq k hk hd⟩

/-- An order by a comparison. -/
structure Ord3 (c : α → α → Int) : Prop where
  asym : ∀ x y, c x y < 0 → ¬ c y x < 0
  tr : ∀ x y z, ¬ c y x < 0 → ¬ c z y < 0 → ¬ c z x < 0
theorem Ord3.irr {c : α → α → Int} (h : Ord3 c) (x : α) : ¬ c x x < 0 := fun k => h.asym x x k k

def srt (c : α → α → Int) (m : List α) (a b : Nat) : Prop := ∀ p q, a ≤ p → p < q → q < b → ¬ c (el m q) (el m p) < 0
/-- What stands ahead of [a, b) is not above it. -/
def hdd (c : α → α → Int) (m : List α) (a b : Nat) : Prop := 0 < a → ∀ k, a ≤ k → k < b → ¬ c (el m k) (el m (a - 1)) < 0

structure Ok (P : α → Prop) (l : List α) : Prop where
  len : l.length ≤ 60000
  all : ∀ x ∈ l, P x
theorem Ok.el {P : α → Prop} {l : List α} (h : Ok P l) {k : Nat} (hk : k < l.length) : P (el l k) := by
  rw [el_eq hk]; exact h.all _ (List.getElem_mem hk)
theorem Part.ok {P : α → Prop} {l m : List α} {a b : Nat} (h : Part l m a b) (k : Ok P l) : Ok P m :=
  ⟨by rw [h.len]; exact k.len, fun x hx => k.all x (h.p.mem_iff.1 hx)⟩
theorem srt.one {c : α → α → Int} {m : List α} {a b : Nat} (h : b ≤ a + 1) : srt c m a b := fun p q h1 h2 h3 => by omega
theorem Part.srt {c : α → α → Int} {l m : List α} {a b p q : Nat} (h : Part l m a b) (k : srt c l p q) (hd : q ≤ a ∨ b ≤ p) : srt c m p q := fun x y h1 h2 h3 => by
  rw [h.out x (by omega), h.out y (by omega)]; exact k x y h1 h2 h3
theorem Part.hdd {c : α → α → Int} {l m : List α} {a b : Nat} (h : Part l m a b) (k : hdd c l a b) : hdd c m a b := fun h0 x h1 h2 => by
  rw [h.out (a - 1) (by omega)]
  exact h.all (fun z => ¬ c z (el l (a - 1)) < 0) (fun y => k h0 y) x h1 h2
/-! ### Heaps -/
/-- Each parent is not below its children, from lo on. -/
def heap (c : α → α → Int) (l : List α) (a lo hi : Nat) : Prop := ∀ k, lo ≤ k → ∀ d, d = 2 * k + 1 ∨ d = 2 * k + 2 → d < hi → ¬ c (el l (a + k)) (el l (a + d)) < 0

/-- One step of siftDown's body, with the greater child d of r. -/
theorem heap_step {c : α → α → Int} (ho : Ord3 c) {l : List α} {a lo hi r d : Nat} (h2 : a + hi ≤ l.length) (hr : lo ≤ r) (hd : d = 2 * r + 1 ∨ d = 2 * r + 2) (hdh : d < hi)
    (hg : ∀ x, x = 2 * r + 1 ∨ x = 2 * r + 2 → x < hi → ¬ c (el l (a + d)) (el l (a + x)) < 0)
    (hx : c (el l (a + r)) (el l (a + d)) < 0)
    (h3 : ∀ k, lo ≤ k → k ≠ r → ∀ d, d = 2 * k + 1 ∨ d = 2 * k + 2 → d < hi → ¬ c (el l (a + k)) (el l (a + d)) < 0)
    (h4 : ∀ k, lo ≤ k → r = 2 * k + 1 ∨ r = 2 * k + 2 → ∀ d, d = 2 * r + 1 ∨ d = 2 * r + 2 → d < hi → ¬ c (el l (a + k)) (el l (a + d)) < 0) :
    (∀ k, lo ≤ k → k ≠ d → ∀ x, x = 2 * k + 1 ∨ x = 2 * k + 2 → x < hi → ¬ c (el (sw l (a + r) (a + d)) (a + k)) (el (sw l (a + r) (a + d)) (a + x)) < 0) ∧
    (∀ k, lo ≤ k → d = 2 * k + 1 ∨ d = 2 * k + 2 → ∀ x, x = 2 * d + 1 ∨ x = 2 * d + 2 → x < hi → ¬ c (el (sw l (a + r) (a + d)) (a + k)) (el (sw l (a + r) (a + d)) (a + x)) < 0) := by
  have i1 : a + r < l.length := by omega
  have i2 : a + d < l.length := by omega
  constructor
  · intro k hk hkd x hx1 hxh
    rw [sw_el i1 i2, sw_el i1 i2, if_neg (show ¬ (a + k = a + d) by omega)]
    by_cases ck : k = r
    · subst ck
      rw [if_pos rfl]
      by_cases cx : x = d
      · subst cx; rw [if_pos rfl]; exact ho.asym _ _ hx
      · rw [if_neg (by omega), if_neg (by omega)]; exact hg x hx1 hxh
    · rw [if_neg (show ¬ (a + k = a + r) by omega)]
      by_cases cx : x = r
      · subst cx
        rw [if_neg (by omega), if_pos rfl]; exact h4 k hk hx1 d hd hdh
      · rw [if_neg (by omega), if_neg (by omega)]; exact h3 k hk ck x hx1 hxh
  · intro k hk hkd x hx1 hxh
    obtain rfl : k = r := by omega
    rw [sw_el i1 i2, sw_el i1 i2, if_neg (show ¬ (a + k = a + d) by omega), if_pos rfl, if_neg (by omega), if_neg (by omega)]
    exact h3 d (by omega) (by omega) x hx1 hxh

theorem heap_top {c : α → α → Int} (ho : Ord3 c) {l : List α} {a hi : Nat} (h : heap c l a 0 hi) : ∀ (n k : Nat), k ≤ n → k < hi → ¬ c (el l a) (el l (a + k)) < 0 := by
  intro n
  induction n with
  | zero => intro k hk hh; obtain rfl : k = 0 := by omega
            exact ho.irr _
  | succ n ih =>
    intro k hk hh
    by_cases c0 : k = 0
    · subst c0; exact ho.irr _
    · have h1 := ih ((k - 1) / 2) (by omega) (by omega)
      have h2 := h ((k - 1) / 2) (by omega) k (by omega) hh
      exact ho.tr _ _ _ h2 h1

end sort
end Go.AV
