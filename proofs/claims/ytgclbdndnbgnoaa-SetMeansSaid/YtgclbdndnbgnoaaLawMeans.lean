/- SetMeans: whatever the constraint and the number, the law tells true and leaves what it was given as it was. No condition. -/
import Derived.Test.YtgclbdndnbgnoaaRows
import Derived.Test.YtgclbdndnbgnoaaWk3
import Derived.Test.YtgclbdndnbgnoaaVr
import Derived.Test.YtgclbdndnbgnoaaPureMeans
import Derived.WalkKit
import Derived.ProofKit
import Derived.ShutString
namespace Go.Proofs.Ytgclbdndnbgnoaa.setMeans
open Go.ChangeShapes Go.WideShapes Go.ChangeAt Go.RowKit
open Go.AV (RdT RdF C0 rd_int rd_slice rd_struct rdf_cons rdf_nil arg_one arg_agg arg_slice arg_struct arg_int law_end Rep RepL)
set_option linter.all false
theorem own : ownKnob Try.prog.godebug = none := by kernel_rfl
theorem laidOut : laidOutB Try.prog = true := by kernel_rfl

theorem rdNode (W : World) : ∀ N : Nat, RdT Try.prog W N 36 Go.AV.Node.c (fun _ => True)
  | 0 => .zero
  | 1 => fun H enc fuel cs x hf hx => by
    match fuel, hf, hx with
    | 0, _, hx => simp [DataW.trod] at hx
    | 1, _, hx =>
      exfalso
      obtain ⟨xs, n, hn, _, hl, hxl, hi⟩ := DataW.trod_struct Try.underlying36 hx
      obtain rfl : n = 0 := by omega
      have := hi 0 _ rfl
      rw [DataW.trod] at this
      have h4 : xs.length = 4 := hxl
      rw [List.getElem?_eq_getElem (by omega)] at this
      cases this
  | N + 2 => (rd_struct (N := N + 1) (total := 4) Try.underlying36 (by kernel_rfl)
      (rdf_cons (n := 1) rfl (by kernel_rfl) rfl (rd_int Try.underlying3 _) (rdf_cons (n := 1) rfl (by kernel_rfl) rfl (rd_int Try.underlying3 _) (rdf_cons (n := 1) rfl (by kernel_rfl) rfl (rd_int Try.underlying3 _)
        (rdf_cons (n := 1) rfl (by kernel_rfl) rfl (rd_slice (N := N) (k := 4) (c := Go.AV.Node.c) (Q := fun _ => True) Try.underlying34 (by kernel_rfl) (by decide) (fun x => (Go.AV.Node.c_ok x).1) (rdNode W N)) rdf_nil))))).map
    (fun x => Go.AV.Node.mk x.1 x.2.1 x.2.2.1 x.2.2.2.1) fun x _ => ⟨by rw [Go.AV.Node.c_eq]; rfl, trivial⟩

set_option maxRecDepth 100000 in
theorem lifted (os : Os) (started : os.Started) (H : Type) (enc : TypeId × Value → H) :
    ReturnsInHanded {} Try.checked os 4 .any (Rows.setMeansSpec.pre6 enc Try.prog Try.f4 Rows.setMeansRow.domain false) (Rows.setMeansSpec.post enc Try.prog Try.f4 false true false false) := by
  refine returnsInHanded_of_change_sized (C := Try.checked) own started (by kernel_rfl) Try.func4
    (ChangeSpec.witness6 (enc := enc) (C := Try.checked) false ⟨#[], #[.agg #[.int .i64 0, .int .i64 0, .int .i64 0, .slice none 0 0], .int .i64 0], []⟩ 8 (by kernel_rfl) (by kernel_rfl) (by kernel_rfl) (by kernel_rfl)) ?_
  intro W base args ds gs before hval0 hW hcnd hsz0 _
  have hval : ∀ (j : Nat) t v, Try.f4.params[j]? = some t → args[j]? = some v → Value.okWide Try.prog W .any base t v := hval0
  have hW' := hW
  obtain ⟨p, q, hA0, hV, rfl, hfz, hnd⟩ := hW
  have hA : DataW.TrodAll enc Try.prog W 0 (fun _ => true) true Try.f4.params.toList args.toList ds p := hA0
  rw [Try.params4] at hA hval
  obtain ⟨v0, vs0, d0, ds0, p0, q0, hargs, rfl, rfl, h0, r0⟩ := trodAll_cons hA
  obtain ⟨v1, vs1, d1, ds1, p1, q1, rfl, rfl, rfl, h1, r1⟩ := trodAll_cons r0
  obtain ⟨rfl, rfl, rfl⟩ := trodAll_nil r1
  obtain rfl : args = #[v0, v1] := by cases args; simp_all
  obtain ⟨rfl, rfl⟩ := trodVars_none hV
  have k0 := h0
  have lt0 : ∀ x ∈ p0, x.block < W.heap.size := by obtain ⟨m, hm⟩ := k0; exact DataW.trod_lt m _ _ _ hm
  have k1 := h1
  have lt1 : ∀ x ∈ p1, x.block < W.heap.size := by obtain ⟨m, hm⟩ := k1; exact DataW.trod_lt m _ _ _ hm
  obtain ⟨m0, hm0⟩ := h0
  obtain ⟨a0, _, e0⟩ := rdNode W m0 H enc m0 _ _ (Nat.le_refl _) hm0
  obtain ⟨m1, hm1⟩ := h1
  obtain ⟨a1, _, e1⟩ := rd_int (W := W) Try.underlying3 m1 H enc m1 _ _ (Nat.le_refl _) hm1
  have g0 := arg_agg e0 (arg_struct Try.underlying36 (hval 0 36 v0 rfl rfl))
  have g1 := arg_one e1 (arg_int Try.underlying3 (hval 1 3 v1 rfl rfl))
  rw [Go.AV.Node.c_eq] at g0
  clear hA0 hval0 hsz0
  refine (law_end (Go.AV.law03_SetMeans_ok a0 a1 true (Go.AV.pureMeans a0 a1)) ⟨v0, [v1], rfl, g0, v1, [], rfl, g1, rfl⟩).mono fun e W' ⟨he, bel⟩ => ?_
  subst he
  exact ⟨_, rfl, _, _, _, [], _, [], hW', trodAll_mk1 (shut_bool Try.underlying4 _), (trodAll_cons_mk (Below.trod laidOut (by kernel_rfl) (of_decide_eq_true (by kernel_rfl)) k0 bel lt0) (trodAll_cons_mk (Below.trod laidOut (by kernel_rfl) (of_decide_eq_true (by kernel_rfl)) k1 bel lt1) trodAll_mk0)), rfl, bel.frame _, fun h => by cases h⟩

theorem over : Rows.setMeansRow.holds Try.pinned (OpenSpec.ofChange Rows.setMeansSpec) :=
  OpenClaim.holds_of_wide 4 Try.f4 rfl rfl rfl rfl rfl rfl rfl ⟨rfl, rfl, rfl, rfl, rfl⟩ rfl rfl rfl rfl rfl (by kernel_rfl) Try.func4 (by kernel_rfl)
    (of_decide_eq_true (by kernel_rfl)) (by unfold Func.isWrapper; first | (rw [if_pos (by decide +kernel)]; kernel_rfl) | (rw [if_neg (by decide +kernel)]; exact ⟨rfl, rfl⟩))
    (fun os started H enc _ => lifted os started H enc)
theorem proved : Rows.SetMeansSaid := over
#print axioms proved
end Go.Proofs.Ytgclbdndnbgnoaa.setMeans
namespace Go.Proofs.Ytgclbdndnbgnoaa
/-- The row, under a short name, for the claim. -/
theorem setMeans_holds : Rows.SetMeansSaid := setMeans.proved
end Go.Proofs.Ytgclbdndnbgnoaa
