/- SetOf: whatever the constraint, where the library's tables are as their own text lays them, the law tells true and leaves what it was given as it was. -/
import Derived.Test.YtgclbdndnbgnoaaDoorRows
import Derived.Test.YtgclbdndnbgnoaaDoorWk2
import Derived.Test.YtgclbdndnbgnoaaDoorVr
import Derived.Test.YtgclbdndnbgnoaaDoorPk
import Derived.Test.YtgclbdndnbgnoaaDoorTie
import Derived.Test.YtgclbdndnbgnoaaDoorCards
import Derived.WalkKit
import Derived.ProofKit
import Derived.ShutString
import Derived.LaidMore
import Derived.OpenShut
import Derived.Stop.Joined
import Derived.Stop.LaidErr
import Derived.Lib.LaidTab
import Derived.SevenTiedAt
namespace Go.Proofs.YtgclbdndnbgnoaaDoor.setOf
open Go.ChangeShapes Go.WideShapes Go.ChangeAt Go.RowKit
open Go.AV (RdT RdF C0 rd_int rd_slice rd_struct rdf_cons rdf_nil arg_one arg_agg arg_slice arg_struct arg_int law_end Rep RepL fixTab)
set_option linter.all false
theorem own : ownKnob Tryd.prog.godebug = none := by kernel_rfl
theorem laidOut : laidOutB Tryd.prog = true := by kernel_rfl
theorem gTab : Tryd.prog.globalNamed "internal/strconv.uint64pow10" = some 0 := by kernel_rfl
theorem gTabType : (Tryd.prog.globals[0]?).map (·.type) = some 137 := by kernel_rfl

set_option maxRecDepth 100000 in
theorem rdNode (W : World) : ∀ N : Nat, RdT Tryd.prog W N 24 Go.AV.Node.c (fun _ => True)
  | 0 => .zero
  | 1 => fun H enc fuel cs x hf hx => by
    match fuel, hf, hx with
    | 0, _, hx => simp [DataW.trod] at hx
    | 1, _, hx =>
      exfalso
      obtain ⟨xs, n, hn, _, hl, hxl, hi⟩ := DataW.trod_struct Tryd.underlying24 hx
      obtain rfl : n = 0 := by omega
      have := hi 0 _ rfl
      rw [DataW.trod] at this
      have h4 : xs.length = 4 := hxl
      rw [List.getElem?_eq_getElem (by omega)] at this
      cases this
  | N + 2 => (rd_struct (N := N + 1) (total := 4) Tryd.underlying24 (by kernel_rfl)
      (rdf_cons (n := 1) rfl (by kernel_rfl) rfl (rd_int Tryd.underlying3 _) (rdf_cons (n := 1) rfl (by kernel_rfl) rfl (rd_int Tryd.underlying3 _) (rdf_cons (n := 1) rfl (by kernel_rfl) rfl (rd_int Tryd.underlying3 _)
        (rdf_cons (n := 1) rfl (by kernel_rfl) rfl (rd_slice (N := N) (k := 4) (c := Go.AV.Node.c) (Q := fun _ => True) Tryd.underlying22 (by kernel_rfl) (by decide) (fun x => (Go.AV.Node.c_ok x).1) (rdNode W N)) rdf_nil))))).map
    (fun x => Go.AV.Node.mk x.1 x.2.1 x.2.2.1 x.2.2.2.1) fun x _ => ⟨by rw [Go.AV.Node.c_eq]; rfl, trivial⟩

/-- The door's own heap meets the condition. -/
theorem door_met (os : Os) (args : Array Value) : laidMetH Tryd.prog Rows.setOfRow.laid ((World.doorLaid Tryd.prog 400 os).forCall (fun _ _ => 0) ⟨#[], args, []⟩).memory :=
  laidMetH_of_parts3 (fuel := 8) (laidMet_of_run' 8 (by kernel_rfl) (by kernel_rfl)) (by kernel_rfl) (by kernel_rfl)

set_option maxRecDepth 100000 in
/-- What the condition gives: the table of powers of ten. -/
theorem of_laid {W : World} (h : laidMetH Tryd.prog Rows.setOfRow.laid W) : ∀ b cs, fixTab b = some cs → ∃ t f, W.heap[b]? = some (.cells cs.toArray t f) := by
  rw [MakeChecks.laidMetH_plain _ _ _ (by kernel_rfl)] at h
  have hT : Lib.TabIs Tryd.prog W "internal/strconv.uint64pow10" .u64 Lib.pow10Tab := Lib.tabIs_of_head gTab gTabType Tryd.underlying137 Tryd.underlying121 (by kernel_rfl) (by kernel_rfl) h.tail.tail
  unfold Lib.TabIs World.var? at hT
  rw [gTab] at hT
  intro b cs hb
  unfold fixTab at hb
  split at hb
  · rename_i e
    subst e
    cases hb
    cases hh : W.heap[0]? with
    | none => simp [hh] at hT
    | some o =>
      cases o with
      | cells c t f =>
        simp only [Option.bind_some, hh, Option.some.injEq] at hT
        refine ⟨t, f, ?_⟩
        rw [hT]
        rfl
      | _ => simp [hh] at hT
  · cases hb

set_option maxRecDepth 100000 in
theorem lifted (os : Os) (started : os.Started) (H : Type) (enc : TypeId × Value → H) :
    ReturnsInHanded {} Tryd.checked os 3 .any (fun w args => (Rows.setOfSpec.pre enc Tryd.prog Tryd.f3 [] false w args ∧ laidMetH Tryd.prog Rows.setOfRow.laid w) ∧ sizedMet enc Tryd.prog Tryd.f3 (OpenSpec.ofChange Rows.setOfSpec) false w args)
      (Rows.setOfSpec.post enc Tryd.prog Tryd.f3 false true false false) := by
  refine returnsInHanded_of_change_and (C := Tryd.checked) (X := fun w _ => laidMetH Tryd.prog Rows.setOfRow.laid w) (fun _ _ _ hh h => h.of_heap hh) own started (by kernel_rfl) Tryd.func3
    (ChangeSpec.witness_shaped (enc := enc) (C := Tryd.checked) (os := os) (X := fun w _ => laidMetH Tryd.prog Rows.setOfRow.laid w) false (World.doorLaid Tryd.prog 400 os) #[.agg #[.int .i64 0, .int .i64 0, .int .i64 0, .slice none 0 0]] 8 rfl (World.shaped_of_RefB (by kernel_rfl) (by kernel_rfl)) (by kernel_rfl) (by kernel_rfl) (by kernel_rfl) (door_met os _)) ?_
  intro W base args ds gs before hval0 hW _ _ hL _
  have hval : ∀ (j : Nat) t v, Tryd.f3.params[j]? = some t → args[j]? = some v → Value.okWide Tryd.prog W .any base t v := hval0
  have hW' := hW
  obtain ⟨p, q, hA0, hV, rfl, hfz, hnd⟩ := hW
  have hA : DataW.TrodAll enc Tryd.prog W 0 (fun _ => true) true Tryd.f3.params.toList args.toList ds p := hA0
  rw [Tryd.params3] at hA hval
  obtain ⟨v0, vs0, d0, ds0, p0, q0, hargs, rfl, rfl, h0, r0⟩ := trodAll_cons hA
  obtain ⟨rfl, rfl, rfl⟩ := trodAll_nil r0
  obtain rfl : args = #[v0] := by cases args; simp_all
  obtain ⟨rfl, rfl⟩ := trodVars_none hV
  have k0 := h0
  have lt0 : ∀ x ∈ p0, x.block < W.heap.size := by obtain ⟨m, hm⟩ := k0; exact DataW.trod_lt m _ _ _ hm
  obtain ⟨m0, hm0⟩ := h0
  obtain ⟨a0, _, e0⟩ := rdNode W m0 H enc m0 _ _ (Nat.le_refl _) hm0
  have g0 := arg_agg e0 (arg_struct Tryd.underlying24 (hval 0 24 v0 rfl rfl))
  rw [Go.AV.Node.c_eq] at g0
  clear hA0 hval0
  refine (law_end (Go.AV.law03_SetOf_ok a0 true (Go.AV.pureOf a0)) ⟨v0, [], rfl, g0, rfl⟩ (of_laid hL)).mono fun e W' ⟨he, bel⟩ => ?_
  subst he
  exact ⟨_, rfl, _, _, _, [], _, [], hW', trodAll_mk1 (shut_bool Tryd.underlying4 _), (trodAll_cons_mk (Below.trod laidOut (by kernel_rfl) (of_decide_eq_true (by kernel_rfl)) k0 bel lt0) trodAll_mk0), rfl, bel.frame _, fun h => by cases h⟩

theorem over : Rows.setOfRow.holds Tryd.pinned (OpenSpec.ofChange Rows.setOfSpec) :=
  OpenClaim.holds_of_wide 3 Tryd.f3 rfl rfl rfl rfl rfl rfl rfl ⟨rfl, rfl, rfl, rfl, rfl⟩ rfl rfl rfl rfl rfl (by kernel_rfl) Tryd.func3 (by kernel_rfl)
    (of_decide_eq_true (by kernel_rfl)) (by unfold Func.isWrapper; first | (rw [if_pos (by decide +kernel)]; kernel_rfl) | (rw [if_neg (by decide +kernel)]; exact ⟨rfl, rfl⟩))
    (fun os started H enc _ => lifted os started H enc)
theorem proved : Rows.SetOfSaid := over

theorem card_holds : Rows.SetOfCardSaid :=
  Claim7.holds_tied_plain_at .later [] [.data, .data, .data] true (true, "454b83d39bdd77666004883404a70373dfd7bd25673d3acb02a9444b0b98fac4") false
    proved (fun _ h => by cases h) (by kernel_rfl) (fun _ h => by cases h) setOf_row_tie rfl ⟨rfl, rfl⟩ (by kernel_rfl) rfl
    (fun f fn hf hfn => by
      obtain rfl : f = 3 := Option.some.inj ((show Tryd.prog.funcNamed "heptad/heptadlaw03.SetOf" = some 3 by kernel_rfl).symm.trans hf) |>.symm
      obtain rfl : fn = Tryd.f3 := (Option.some.inj (Tryd.func3.symm.trans hfn)).symm
      exact ⟨by kernel_rfl, fun j t ht => by
        rw [Tryd.params3] at ht
        have hm : t ∈ [24] := by simpa using Array.mem_of_getElem? ht
        have hall : ([24].all fun u => !Tryd.prog.wantsStandIn u) = true := by kernel_rfl
        exact (show Tryd.prog.wantsStandIn t = false by simpa using List.all_eq_true.1 hall t hm)⟩)
    (by kernel_rfl)
#print axioms card_holds
end Go.Proofs.YtgclbdndnbgnoaaDoor.setOf
namespace Go.Proofs.YtgclbdndnbgnoaaDoor
/-- The card, under a short name, for the claim. -/
theorem setOf_holds : Rows.SetOfCardSaid := setOf.card_holds
end Go.Proofs.YtgclbdndnbgnoaaDoor
