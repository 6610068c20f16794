/- SetOf as a statement on constraints alone. -/
import Derived.Test.YtgclbdndnbgnoaaDoorPj
namespace Go.AV
set_option linter.all false

theorem of_eq (n : Node) (hc : cnt n ≤ 400) : ∃ v x, PL.set_Of n = some (v, x) ∧ PL.ref03_Of n = some (v, x) ∧ v.length ≤ 1000000 ∧ (x = 0 → Fm n) := by
  obtain ⟨e, e1, e2, e3⟩ := checks n hc
  unfold PL.set_Of PL.ref03_Of
  rw [e1, e2]
  simp only [Option.bind_eq_bind, Option.bind_some]
  by_cases c0 : e = 0
  · obtain ⟨f, f1, f2⟩ := e3 c0
    obtain ⟨v, v1, ⟨lo, v2⟩, v3, v4, v5⟩ := value_ok f hc
    obtain ⟨m, lo', m1, m2, m3⟩ := set_ok (fm_shp f hc) (by omega)
    have hvm : v = m := v2.uniq m2 fun y => by
      rw [v5, m3]
      exact ⟨fun h => ⟨(holds_range f y h).1, (holds_range f y h).2, h⟩, fun h => h.2.2⟩
    subst hvm
    have hb : (e != 0) = false := by simp [c0]
    simp only [hb, Bool.false_eq_true, if_false, v1, m1, Option.bind_some]
    rw [told_eq]
    unfold PL.set_limited
    by_cases cl : (v.length : Int) > 100
    · rw [if_pos (decide_eq_true cl)]
      exact ⟨[], 2, rfl, rfl, by simp, fun h => by cases h⟩
    · rw [if_neg (by simpa using cl)]
      exact ⟨v, 0, rfl, rfl, by omega, fun _ => f⟩
  · have hb : (e != 0) = true := by simp [c0]
    simp only [hb, if_true]
    exact ⟨[], e, rfl, rfl, by simp, fun h => absurd h c0⟩
theorem exts_eq (n : Node) (hc : cnt n ≤ 400) : ∃ b x, PL.set_Extends n = some (b, x) ∧ PL.ref03_Extends n = some (b, x) := by
  obtain ⟨e, e1, e2, e3⟩ := checks n hc
  unfold PL.set_Extends PL.ref03_Extends
  rw [e1, e2]
  simp only [Option.bind_eq_bind, Option.bind_some]
  by_cases c0 : e = 0
  · obtain ⟨f, f1, f2⟩ := e3 c0
    obtain ⟨b, b1, b2⟩ := ext_eq f hc
    have hb : (e != 0) = false := by simp [c0]
    simp only [hb, Bool.false_eq_true, if_false, b1, b2, Option.bind_some]
    exact ⟨b, 0, rfl, rfl⟩
  · have hb : (e != 0) = true := by simp [c0]
    simp only [hb, if_true]
    exact ⟨false, e, rfl, rfl⟩
theorem root_both (n : Node) (hc : cnt n ≤ 400) : ∃ r x, PL.set_Root n = some (r, x) ∧ PL.ref03_Root n = some (r, x) ∧ cnt r ≤ 400 := by
  obtain ⟨e, e1, e2, e3⟩ := checks n hc
  unfold PL.set_Root PL.ref03_Root
  rw [e1, e2]
  simp only [Option.bind_eq_bind, Option.bind_some]
  by_cases c0 : e = 0
  · obtain ⟨f, f1, f2⟩ := e3 c0
    have hb : (e != 0) = false := by simp [c0]
    simp only [hb, Bool.false_eq_true, if_false, root_eq f hc, rroot_eq f hc, Option.bind_some]
    exact ⟨rootN n, 0, rfl, rfl, by have := (root_ok f).2.1; omega⟩
  · have hb : (e != 0) = true := by simp [c0]
    simp only [hb, if_true]
    exact ⟨⟨0, 0, 0, []⟩, e, rfl, rfl, by simp [cnt, cntL]⟩
theorem text_both (n : Node) (hc : cnt n ≤ 400) : ∃ s x, PL.set_Text n = some (s, x) ∧ PL.ref03_Text n = some (s, x) := by
  obtain ⟨e, e1, e2, e3⟩ := checks n hc
  unfold PL.set_Text PL.ref03_Text
  rw [e1, e2]
  simp only [Option.bind_eq_bind, Option.bind_some]
  by_cases c0 : e = 0
  · obtain ⟨f, f1, f2⟩ := e3 c0
    obtain ⟨t1, t2, t3⟩ := text_ok f hc
    have hb : (e != 0) = false := by simp [c0]
    simp only [hb, Bool.false_eq_true, if_false, t1, t2, Option.bind_some]
    exact ⟨_, 0, rfl, rfl⟩
  · have hb : (e != 0) = true := by simp [c0]
    simp only [hb, if_true]
    exact ⟨k_, e, rfl, rfl⟩
def plainT (t : GoType) : Prop := t.Name = ByteArray.empty ∧ t.Items = [] ∧ t.Kids = []
theorem eff_both (n : Node) (hc : cnt n ≤ 400) : ∃ t x, PL.set_Effective n = some (t, x) ∧ PL.ref03_Effective n = some (t, x) ∧ plainT t := by
  obtain ⟨v, x, o1, o2, o3, o4⟩ := of_eq n hc
  obtain ⟨⟨lo, hi, z⟩, h1, h2⟩ := hull_eq v o3
  unfold PL.set_Effective PL.ref03_Effective
  rw [o1, o2]
  simp only [Option.bind_eq_bind, Option.bind_some]
  by_cases c0 : x = 0
  · obtain ⟨b, b1, b2⟩ := ext_eq (o4 c0) hc
    have hb : (x != 0) = false := by simp [c0]
    simp only [hb, Bool.false_eq_true, if_false, h1, h2, b1, b2, Option.bind_some]
    by_cases cz : z = 0
    · have hb : (z != 0) = false := by simp [cz]
      simp only [hb, Bool.false_eq_true, if_false]
      by_cases d1 : ((v.length : Int) == 1) = true
      · simp only [d1, if_true]
        by_cases d2 : (lo == (-1000000000000000)) = true
        · simp only [d2, if_true]
          by_cases d3 : (hi == 1000000000000000) = true
          · simp only [d3, if_true]; exact ⟨_, 0, rfl, rfl, rfl, rfl, rfl⟩
          · rw [if_neg d3]; exact ⟨_, 0, rfl, rfl, rfl, rfl, rfl⟩
        · rw [if_neg d2]; exact ⟨_, 0, rfl, rfl, rfl, rfl, rfl⟩
      · rw [if_neg d1]; exact ⟨_, 0, rfl, rfl, rfl, rfl, rfl⟩
    · have hb : (z != 0) = true := by simp [cz]
      simp only [hb, if_true]
      exact ⟨_, z, rfl, rfl, rfl, rfl, rfl⟩
  · have hb : (x != 0) = true := by simp [c0]
    simp only [hb, if_true]
    exact ⟨_, x, rfl, rfl, rfl, rfl, rfl⟩
theorem scmp_self (s : ByteArray) : scmp .neq s s = false := by simp [scmp]
/-- SetOf tells true. -/
theorem pureOf (n : Node) : PL.law03_SetOf n = some true := by
  unfold PL.law03_SetOf
  rw [large_eq, sane_true]
  simp only [Option.bind_eq_bind, Option.bind_some]
  by_cases c : 400 ≤ cnt n
  · rw [if_pos (by simpa using c)]
  · have hc : cnt n ≤ 400 := by omega
    have hb : decide (400 ≤ cnt n) = false := decide_eq_false c
    obtain ⟨v, x, o1, o2, o3, o4⟩ := of_eq n hc
    obtain ⟨b, xb, b1, b2⟩ := exts_eq n hc
    obtain ⟨r, xr, r1, r2, r3⟩ := root_both n hc
    obtain ⟨s, xs, s1, s2⟩ := text_both n hc
    obtain ⟨t, xt, t1, t2, t3, t4, t5⟩ := eff_both n hc
    have k1 := back_eq r 400 (Nat.le_refl _) (by have := dep_le_cnt r; omega) r3
    have k2 := back_eq n 400 (Nat.le_refl _) (by have := dep_le_cnt n; omega) hc
    rw [show ((400 : Nat) : Int) = 400 from rfl] at k1 k2
    have q0 : scmp .neq ByteArray.empty k_ = false := by rw [show ByteArray.empty = k_ from rfl]; exact scmp_self k_
    simp only [hb, Bool.false_eq_true, if_false, node_eq n hc, Option.bind_some, o1, o2, b1, b2, r1, r2, s1, s2, t1, t2, k1, k2, same_eq r r3, same_eq n hc, bne_self_eq_false, pairs_eq v v o3, decide_true, Bool.not_true, scmp_self, t3, t4, t5, q0, List.length_nil, if_true]
    simp
end Go.AV
