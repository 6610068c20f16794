/- Functions that are not walked: a contract that tells the result, and that nothing below the heap's end has turned. -/
import Derived.Test.YtgclbdndnbgnoaaDoorVr
namespace Go.AV
open Go.RowKit (Below)
set_option linter.all false
variable {P : Program} {H : HH}

theorem Step.below {C : Ctx} {S : AS} {w w' : World} (r : Rel C S w) (s : Sat S H) (h : Below w.heap.size w w') : Step C S w H C S w' H := by
  have ext : Ext C w C w' := ⟨rfl, h.mono r.B, Nat.le_refl _, fun _ _ => rfl, fun _ _ h => h, fun b j hK => by
    unfold World.cell?
    simp only [h.block b (r.Kin b j hK)], fun _ _ h => ⟨h, rfl⟩⟩
  have blk : ∀ o, S.obj o ≠ none → w'.heap[C.σ o]? = w.heap[C.σ o]? := fun o ho => by
    cases hc : S.obj o with
    | none => exact absurd hc ho
    | some c => exact h.block _ (r.blk hc)
  refine ⟨ext, ⟨r.n, Nat.le_trans r.B h.size, fun o c ho => ?_, r.inj, r.objK, fun b j hK => Nat.lt_of_lt_of_le (r.Kin b j hK) h.size, fun t b e lim hv ht => ?_, r.tipInj, r.live, fix_ext ext r.fix⟩, s, fun _ _ _ => rfl, fun o ho _ => blk o ho, fun _ _ _ => rfl, fun _ ho => .inl ho, fun _ ht => .inl ht⟩
  · obtain ⟨h1, h2, h3⟩ := r.objs o c ho
    exact ⟨h1, h2, h3.mono ext (blk o (by rw [ho]; simp))⟩
  · obtain ⟨h1, h2, ⟨cs, E, h3, h4⟩, h5, h6⟩ := r.tips t b e lim hv ht
    exact ⟨h1, h2, ⟨cs, E, by rw [h.block b (Array.getElem?_eq_some_iff.1 h3).1]; exact h3, h4⟩, h5, h6⟩

theorem ext_str {f : FuncId} {args : List VV} {s : ByteArray} (h : ∀ C S w (ra : List Value), Rel C S w → RepL C w args ra → Calls P f ra.toArray w fun e w' => e = .returned (.string s) ∧ Below w.heap.size w w') :
    VCalls P f args (hq [] []) (fun v H => .str s = v ∧ H = hq [] []) := fun C S w ra r sa ha =>
  (h C S w ra r ha).mono fun e w' ⟨he, hb⟩ => ⟨.str s, .string s, C, S, hq [] [], he, Step.below r sa hb, rfl, rfl, rfl⟩

/-- What a slice of strings holds. -/
theorem strs_of {C : Ctx} {w : World} {xs : List ByteArray} {rv : Value} {tk : Tok} (h : Rep C w (.sl tk (xs.map fun s => [.str s])) rv) :
    (xs = [] ∧ ∃ a c, rv = .slice a 0 c) ∨ ∃ b o c, rv = .slice (some ⟨b, o, none⟩) xs.length c ∧ xs.length ≤ c ∧ xs ≠ [] ∧ (∀ (j : Nat) x, xs[j]? = some x → C.K b (o + j) ∧ w.cell? ⟨b, o + j, none⟩ = some (.string x)) := by
  rcases h with ⟨h1, h2⟩ | ⟨b, off, cap, n, h1, h2, h3, _⟩
  · obtain ⟨a, h2⟩ := h2.len
    exact .inl ⟨by simpa using h1, a, 0, h2⟩
  · rw [List.length_map] at h1 h2
    cases xs with
    | nil => exact .inl ⟨rfl, _, _, h1⟩
    | cons x xs =>
      right
      have hn : n = 1 := h3.1.symm
      subst hn
      refine ⟨b, off, cap, h1, h2, by simp, fun j y hj => ?_⟩
      have hg := h3.get (i := j) (cs := [.str y]) (by rw [List.getElem?_map, hj]; rfl)
      rw [Nat.mul_one] at hg
      obtain ⟨⟨hK, r, hc, hr⟩, _⟩ := hg.2
      obtain rfl : r = .string y := hr
      exact ⟨hK, hc⟩
end Go.AV
