/- SetMakes: whatever the two lists, the law tells true and leaves what it was given as it was. No condition. -/
import Derived.Test.YtgclbdndnbgnoaaRows
import Derived.Test.YtgclbdndnbgnoaaWk3
import Derived.Test.YtgclbdndnbgnoaaVr
import Derived.Test.YtgclbdndnbgnoaaPureMakes
import Derived.WalkKit
import Derived.ProofKit
import Derived.ShutString
namespace Go.Proofs.Ytgclbdndnbgnoaa.setMakes
open Go.ChangeShapes Go.WideShapes Go.ChangeAt Go.RowKit
open Go.AV (RdT C0 rd_int rd_slice rd_array2 arg_one arg_slice law_end Pr Rep RepL)
set_option linter.all false
theorem own : ownKnob Try.prog.godebug = none := by kernel_rfl
theorem laidOut : laidOutB Try.prog = true := by kernel_rfl

theorem rdPr (W : World) (N : Nat) : RdT Try.prog W (N + 1) 49 Pr.c (fun _ => True) :=
  (rd_array2 (k := 1) Try.underlying49 (by kernel_rfl) (by kernel_rfl) (rd_int Try.underlying3 N)).map (fun x => ⟨x.1, x.2⟩) fun _ _ => ⟨rfl, trivial⟩
theorem rdPrs (W : World) (N : Nat) : RdT Try.prog W N 22 (fun l : List Pr => [.sl .fz (l.map Pr.c)]) (fun _ => True) :=
  ((rd_slice (N := N + 1) (k := 2) (c := Pr.c) (Q := fun _ => True) Try.underlying22 (by kernel_rfl) (by decide) (fun x => rfl) (rdPr W N)).map id fun _ _ => ⟨rfl, trivial⟩).le (by omega)

set_option maxRecDepth 100000 in
theorem lifted (os : Os) (started : os.Started) (H : Type) (enc : TypeId × Value → H) :
    ReturnsInHanded {} Try.checked os 3 .any (Rows.setMakesSpec.pre6 enc Try.prog Try.f3 Rows.setMakesRow.domain false) (Rows.setMakesSpec.post enc Try.prog Try.f3 false true false false) := by
  refine returnsInHanded_of_change_sized (C := Try.checked) own started (by kernel_rfl) Try.func3
    (ChangeSpec.witness6 (enc := enc) (C := Try.checked) false ⟨#[], #[.slice none 0 0, .slice none 0 0], []⟩ 8 (by kernel_rfl) (by kernel_rfl) (by kernel_rfl) (by kernel_rfl)) ?_
  intro W base args ds gs before hval0 hW hcnd hsz0 _
  have hval : ∀ (j : Nat) t v, Try.f3.params[j]? = some t → args[j]? = some v → Value.okWide Try.prog W .any base t v := hval0
  have hW' := hW
  obtain ⟨p, q, hA0, hV, rfl, hfz, hnd⟩ := hW
  have hA : DataW.TrodAll enc Try.prog W 0 (fun _ => true) true Try.f3.params.toList args.toList ds p := hA0
  rw [Try.params3] at hA hval
  obtain ⟨v0, vs0, d0, ds0, p0, q0, hargs, rfl, rfl, h0, r0⟩ := trodAll_cons hA
  obtain ⟨v1, vs1, d1, ds1, p1, q1, rfl, rfl, rfl, h1, r1⟩ := trodAll_cons r0
  obtain ⟨rfl, rfl, rfl⟩ := trodAll_nil r1
  obtain rfl : args = #[v0, v1] := by cases args; simp_all
  obtain ⟨rfl, rfl⟩ := trodVars_none hV
  have k0 := h0
  have lt0 : ∀ x ∈ p0, x.block < W.heap.size := by obtain ⟨m, hm⟩ := k0; exact DataW.trod_lt m _ _ _ hm
  have k1 := h1
  have lt1 : ∀ x ∈ p1, x.block < W.heap.size := by obtain ⟨m, hm⟩ := k1; exact DataW.trod_lt m _ _ _ hm
  obtain ⟨m0, hm0⟩ := h0
  obtain ⟨a0, _, e0⟩ := rdPrs W m0 H enc m0 _ _ (Nat.le_refl _) hm0
  obtain ⟨m1, hm1⟩ := h1
  obtain ⟨a1, _, e1⟩ := rdPrs W m1 H enc m1 _ _ (Nat.le_refl _) hm1
  have g0 := arg_one e0 (arg_slice Try.underlying22 (hval 0 22 v0 rfl rfl))
  have g1 := arg_one e1 (arg_slice Try.underlying22 (hval 1 22 v1 rfl rfl))
  clear hA0 hval0 hsz0
  refine (law_end (Go.AV.law03_SetMakes_ok a0 a1 true (Go.AV.pureMakes a0 a1)) ⟨v0, [v1], rfl, g0, v1, [], rfl, g1, rfl⟩).mono fun e W' ⟨he, bel⟩ => ?_
  subst he
  exact ⟨_, rfl, _, _, _, [], _, [], hW', trodAll_mk1 (shut_bool Try.underlying4 _), (trodAll_cons_mk (Below.trod laidOut (by kernel_rfl) (of_decide_eq_true (by kernel_rfl)) k0 bel lt0) (trodAll_cons_mk (Below.trod laidOut (by kernel_rfl) (of_decide_eq_true (by kernel_rfl)) k1 bel lt1) trodAll_mk0)), rfl, bel.frame _, fun h => by cases h⟩

theorem over : Rows.setMakesRow.holds Try.pinned (OpenSpec.ofChange Rows.setMakesSpec) :=
  OpenClaim.holds_of_wide 3 Try.f3 rfl rfl rfl rfl rfl rfl rfl ⟨rfl, rfl, rfl, rfl, rfl⟩ rfl rfl rfl rfl rfl (by kernel_rfl) Try.func3 (by kernel_rfl)
    (of_decide_eq_true (by kernel_rfl)) (by unfold Func.isWrapper; first | (rw [if_pos (by decide +kernel)]; kernel_rfl) | (rw [if_neg (by decide +kernel)]; exact ⟨rfl, rfl⟩))
    (fun os started H enc _ => lifted os started H enc)
theorem proved : Rows.SetMakesSaid := over
#print axioms proved
end Go.Proofs.Ytgclbdndnbgnoaa.setMakes
namespace Go.Proofs.Ytgclbdndnbgnoaa
/-- The row, under a short name, for the claim. -/
theorem setMakes_holds : Rows.SetMakesSaid := setMakes.proved
end Go.Proofs.Ytgclbdndnbgnoaa
