/- What is met by a contract: Itoa, Join; and joint. -/
import Derived.Test.YtgclbdndnbgnoaaDoorXp
import Derived.Test.YtgclbdndnbgnoaaDoorVy
import Derived.Test.YtgclbdndnbgnoaaDoorSh
import Derived.Test.YtgclbdndnbgnoaaDoorChecked
import Derived.WalkKit
namespace Go.AV
open Go.Proofs
open Go.RowKit (Below)
open Go.Sort (grow)
set_option maxRecDepth 100000
set_option linter.all false

theorem below_grow {w : World} {k : Nat} {os : Array Obj} : Below w.heap.size w (grow (w.drewN k) os) := by
  have hd : ∀ (k : Nat) (w : World), (w.drewN k).heap = w.heap ∧ (w.drewN k).os = w.os ∧ (w.drewN k).tape = w.tape ∧ (w.drewN k).output = w.output := by
    intro k w
    exact ⟨rfl, rfl, rfl, rfl⟩
  obtain ⟨h1, h2, h3, h4⟩ := hd k w
  refine ⟨h2, h3, h4, ?_, fun i hi => ?_⟩
  · show w.heap.size ≤ ((w.drewN k).heap ++ os).size
    rw [h1]; simp
  · show ((w.drewN k).heap ++ os)[i]? = _
    rw [h1, Array.getElem?_append_left hi]

theorem strconv_Itoa_ok (a0 : Int) (r : ByteArray) (h : PL.strconv_Itoa a0 = some r) : VCalls Tryd.prog 50 [.int .i64 a0] (hq [] []) (fun v H => .str r = v ∧ H = hq [] []) := by
  unfold PL.strconv_Itoa at h
  obtain ⟨⟨h0, h1⟩, h2⟩ := ite_some h
  cases h2
  refine ext_str fun C S w ra rr ha => ?_
  obtain ⟨r0, rest, rfl, rfl, rfl⟩ := ha
  obtain ⟨_, t, f, hf⟩ := rr.fix 0 _ rfl
  have htab : Lib.TabIs Tryd.prog w "internal/strconv.uint64pow10" .u64 Lib.pow10Tab := by
    have hg : Tryd.prog.globalNamed "internal/strconv.uint64pow10" = some 0 := by kernel_rfl
    unfold Lib.TabIs World.var?
    rw [hg]
    show (match w.heap[0]? with | some (.cells cs _ _) => some cs | _ => none) = _
    rw [hf]
    rfl
  exact (Tryd.strconv_Itoa a0 h0 h1 w htab).mono fun e w' ⟨he, k, os, hw⟩ => ⟨he, by rw [hw]; exact below_grow⟩

theorem strings_Join_ok (a0 : List ByteArray) (a1 : ByteArray) (r : ByteArray) (h : PL.strings_Join a0 a1 = some r) : VCalls Tryd.prog 51 [.sl .fz (a0.map cStr), .str a1] (hq [] []) (fun v H => .str r = v ∧ H = hq [] []) := by
  unfold PL.strings_Join at h
  obtain ⟨⟨h0, h1⟩, h2⟩ := ite_some h
  cases h2
  refine ext_str fun C S w ra rr ha => ?_
  obtain ⟨r0, rest, rfl, hr, r1, rest1, rfl, rfl, rfl⟩ := ha
  rcases strs_of hr with ⟨rfl, a, c, rfl⟩ | ⟨b, o, c, rfl, hc, hne, hcell⟩
  · exact (Tryd.strings_Join_none a c a1 w).mono fun e w' ⟨he, hw⟩ => ⟨he, by rw [hw]; exact Below.refl _ _⟩
  · have hb : b < w.heap.size := by
      cases a0 with
      | nil => exact absurd rfl hne
      | cons x xs => exact rr.Kin _ _ (hcell 0 x rfl).1
    exact (Tryd.strings_Join b o c a0 a1 w (fun j x hj => (hcell j x hj).2) hb h0 hc h1)

def jm1 : List (Int × ByteArray) := mput [] 1 ⟨#[32, 124, 32]⟩
def jm2 : List (Int × ByteArray) := mput jm1 2 ⟨#[32, 94, 32]⟩
def jm3 : List (Int × ByteArray) := mput jm2 3 ⟨#[32, 45, 32]⟩
def jent (x : Int × ByteArray) : VV × VV := (.int .i64 x.1, .str x.2)
theorem jzero (C : Ctx) (w : World) : ∃ rv, (zeroValue 9).run Tryd.prog w = .ok rv w ∧ Rep C w (.str ⟨#[]⟩) rv := ⟨.string ⟨#[]⟩, by
  have := Tryd.zeroValue9 w
  exact this, rfl⟩
theorem set_joint_ok (a0 : Int) (r : ByteArray) (h : PL.set_joint a0 = some r) : VCalls Tryd.prog 52 [.int .i64 a0] (hq [] []) (fun v H => .str r = v ∧ H = hq [] []) := by
  unfold PL.set_joint at h
  cases h
  refine VCalls.of_body 7 [2] Tryd.func52 rfl rfl rfl (Nat.le_of_ble_eq_true rfl) ?_
  refine VW.seq (VW.region (VO.t (v := .str ⟨#[]⟩) (t_assign rfl (fun _ _ => rfl)) rfl rfl (VO.nil (thenQ_normal (VW.seq (VW.region ?_))))))
  refine VO.w (fun v H' => ∃ ob, .map ob = v ∧ H' = hq [[(ob, .map (([] : List (Int × ByteArray)).map jent))]] []) (w_makeMap rfl (fun ob => ⟨ob, rfl, rfl⟩)) rfl rfl ?_
  rintro _ _ ⟨ob, rfl, rfl⟩
  refine VO.w (fun v H' => .any = v ∧ H' = hq [[(ob, .map (jm1.map jent))]] []) (w_mapPut (i := 0) (ke := fun n : Int => .int .i64 n) (ve := VV.str) (k := (1 : Int)) (.inr rfl) Tryd.underlying103 (keyInt Tryd.underlying3) rfl (fun _ _ => rfl) (fun _ _ => rfl) rfl ⟨rfl, rfl⟩) rfl rfl ?_
  rintro _ _ ⟨rfl, rfl⟩
  refine VO.w (fun v H' => .any = v ∧ H' = hq [[(ob, .map ((jm2).map jent))]] []) (w_mapPut (i := 0) (ke := fun n : Int => .int .i64 n) (ve := VV.str) (k := (2 : Int)) (.inr rfl) Tryd.underlying103 (keyInt Tryd.underlying3) rfl (fun _ _ => rfl) (fun _ _ => rfl) rfl ⟨rfl, rfl⟩) rfl rfl ?_
  rintro _ _ ⟨rfl, rfl⟩
  refine VO.w (fun v H' => .any = v ∧ H' = hq [[(ob, .map ((jm3).map jent))]] []) (w_mapPut (i := 0) (ke := fun n : Int => .int .i64 n) (ve := VV.str) (k := (3 : Int)) (.inr rfl) Tryd.underlying103 (keyInt Tryd.underlying3) rfl (fun _ _ => rfl) (fun _ _ => rfl) rfl ⟨rfl, rfl⟩) rfl rfl ?_
  rintro _ _ ⟨rfl, rfl⟩
  refine VO.t (v := .map ob) (t_move rfl rfl) rfl rfl (VO.t (v := .int .i64 a0) (t_move rfl rfl) rfl rfl ?_)
  refine VO.r (v := .str ((mget jm3 a0).getD ⟨#[]⟩)) (r_lookup (i := 0) (ke := fun n : Int => .int .i64 n) (ve := VV.str) (z := ⟨#[]⟩) rfl Tryd.underlying103 (keyInt Tryd.underlying3) rfl rfl jzero rfl) rfl rfl ?_
  refine VO.t (v := .str ((mget jm3 a0).getD ⟨#[]⟩)) (t_assign rfl rfl) rfl rfl (VO.nil (thenQ_normal (VW.ret ?_)))
  have e : (mget jm3 a0).getD ⟨#[]⟩ = jointB a0 := by
    unfold jointB
    by_cases c1 : a0 = 1
    · subst c1; rfl
    · by_cases c2 : a0 = 2
      · subst c2; rfl
      · by_cases c3 : a0 = 3
        · subst c3; rfl
        · rw [if_neg c1, if_neg c2, if_neg c3]
          simp [jm3, jm2, jm1, mput, mget, Ne.symm c1, Ne.symm c2, Ne.symm c3]
  rw [e]
  exact ⟨.inr rfl, rfl, _, .str (jointB a0), hq [] [], rfl, VLe.refl _, hq_sub (.cons _ .slnil) .slnil, rfl, rfl⟩
end Go.AV
