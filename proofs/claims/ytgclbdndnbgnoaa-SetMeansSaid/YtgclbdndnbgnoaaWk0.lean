/- The walks: each printed theorem says what a function of the program does. -/
import Derived.Test.YtgclbdndnbgnoaaPl
import Derived.Test.YtgclbdndnbgnoaaProg
namespace Go.AV
open Go.Proofs
set_option maxRecDepth 100000
set_option linter.all false

def Pr.c (x : Pr) : List VV := [.int .i64 x.x0, .int .i64 x.x1]
theorem Pr.c_eq (x : Pr) : Pr.c x = [.int .i64 x.x0, .int .i64 x.x1] := rfl
theorem Pr.c_ok (x : Pr) : (Pr.c x).length = 2 ∧ (Pr.c x).all isScalar = true := by rw [Pr.c_eq]; exact ⟨rfl, rfl⟩

mutual
def Node.c : Node → List VV
  | ⟨a0, a1, a2, a3⟩ => [.int .i64 a0, .int .i64 a1, .int .i64 a2, .sl .fz (Node.cs a3)]
def Node.cs : List Node → List (List VV)
  | [] => []
  | k :: ks => Node.c k :: Node.cs ks
end
theorem Node.cs_eq : ∀ ks, Node.cs ks = ks.map Node.c
  | [] => by simp [Node.cs]
  | k :: ks => by simp [Node.cs, Node.cs_eq ks]
theorem Node.c_eq (x : Node) : Node.c x = [.int .i64 x.Op, .int .i64 x.Lo, .int .i64 x.Hi, .sl .fz (x.Kids.map Node.c)] := by
  cases x; simp [Node.c, Node.cs_eq]
theorem Node.c_ok (x : Node) : (Node.c x).length = 4 ∧ (Node.c x).all isScalar = true := by rw [Node.c_eq]; exact ⟨rfl, rfl⟩

theorem sl22 : SliceTy Try.prog 22 49 2 := SliceTy.of Try.underlying22 (by kernel_rfl)
theorem sz49 : SizeTy Try.prog 49 2 true := SizeTy.of Try.underlying49 (by kernel_rfl) rfl
theorem sz3 : SizeTy Try.prog 3 1 false := SizeTy.of Try.underlying3 (by kernel_rfl) rfl
theorem ae49 : AeqTy Try.prog 49 := AeqTy.of Try.underlying49 Try.underlying3 sz3 (by kernel_rfl)
theorem mix : Try.prog.follows .mixedOrders = true := by kernel_rfl
theorem zt49 : ZeroTy Try.prog 49 [.int .i64 0, .int .i64 0] := ZeroTy.of (vs := [.int .i64 0, .int .i64 0]) (by kernel_rfl) (fun _ _ => ⟨_, _, rfl, rfl, _, _, rfl, rfl, rfl⟩)
theorem ar49 : ArrTy Try.prog 49 2 3 1 := ArrTy.of Try.underlying49 (by kernel_rfl)
theorem fn18 : FnOK Try.prog 18 := FnOK.of Try.func18 (by kernel_rfl) (by kernel_rfl)
theorem sz40 : SizeTy Try.prog 40 1 false := SizeTy.of Try.underlying40 (by kernel_rfl) rfl
theorem fi42_3 : FieldTy Try.prog 42 3 3 1 false := FieldTy.of Try.underlying42 rfl sz40 (Nat.le_of_ble_eq_true rfl)
theorem sl40 : SliceTy Try.prog 40 42 4 := SliceTy.of Try.underlying40 (by kernel_rfl)
theorem sz42 : SizeTy Try.prog 42 4 true := SizeTy.of Try.underlying42 (by kernel_rfl) rfl
theorem zt42 : ZeroTy Try.prog 42 [.int .i64 0, .int .i64 0, .int .i64 0, .sl .nl []] := ZeroTy.of (vs := [.int .i64 0, .int .i64 0, .int .i64 0, .slice none 0 0]) (by kernel_rfl) (fun _ _ => ⟨_, _, rfl, rfl, _, _, rfl, rfl, _, _, rfl, rfl, _, _, rfl, .inl ⟨rfl, .inl rfl⟩, rfl⟩)
theorem fn51 : FnOK Try.prog 51 := FnOK.of Try.func51 (by kernel_rfl) (by kernel_rfl)
theorem fn52 : FnOK Try.prog 52 := FnOK.of Try.func52 (by kernel_rfl) (by kernel_rfl)
theorem fn60 : FnOK Try.prog 60 := FnOK.of Try.func60 (by kernel_rfl) (by kernel_rfl)
theorem fn71 : FnOK Try.prog 71 := FnOK.of Try.func71 (by kernel_rfl) (by kernel_rfl)
theorem fi42_0 : FieldTy Try.prog 42 0 0 1 false := FieldTy.of Try.underlying42 rfl sz3 (Nat.le_of_ble_eq_true rfl)
theorem fn59 : FnOK Try.prog 59 := FnOK.of Try.func59 (by kernel_rfl) (by kernel_rfl)
theorem fi42_1 : FieldTy Try.prog 42 1 1 1 false := FieldTy.of Try.underlying42 rfl sz3 (Nat.le_of_ble_eq_true rfl)
theorem fi42_2 : FieldTy Try.prog 42 2 2 1 false := FieldTy.of Try.underlying42 rfl sz3 (Nat.le_of_ble_eq_true rfl)
theorem fn72 : FnOK Try.prog 72 := FnOK.of Try.func72 (by kernel_rfl) (by kernel_rfl)
theorem fn70 : FnOK Try.prog 70 := FnOK.of Try.func70 (by kernel_rfl) (by kernel_rfl)
theorem fn55 : FnOK Try.prog 55 := FnOK.of Try.func55 (by kernel_rfl) (by kernel_rfl)
theorem sz94 : SizeTy Try.prog 94 1 false := SizeTy.of Try.underlying94 (by kernel_rfl) rfl
theorem zt94 : ZeroTy Try.prog 94 [.int .u64 0] := ZeroTy.of (vs := [.int .u64 0]) (by kernel_rfl) (fun _ _ => ⟨_, _, rfl, rfl, rfl⟩)
theorem fn73 : FnOK Try.prog 73 := FnOK.of Try.func73 (by kernel_rfl) (by kernel_rfl)
theorem fn74 : FnOK Try.prog 74 := FnOK.of Try.func74 (by kernel_rfl) (by kernel_rfl)
theorem fn77 : FnOK Try.prog 77 := FnOK.of Try.func77 (by kernel_rfl) (by kernel_rfl)
theorem fn76 : FnOK Try.prog 76 := FnOK.of Try.func76 (by kernel_rfl) (by kernel_rfl)
theorem zt3 : ZeroTy Try.prog 3 [.int .i64 0] := ZeroTy.of (vs := [.int .i64 0]) (by kernel_rfl) (fun _ _ => ⟨_, _, rfl, rfl, rfl⟩)
theorem fn75 : FnOK Try.prog 75 := FnOK.of Try.func75 (by kernel_rfl) (by kernel_rfl)
theorem fn61 : FnOK Try.prog 61 := FnOK.of Try.func61 (by kernel_rfl) (by kernel_rfl)
theorem fn62 : FnOK Try.prog 62 := FnOK.of Try.func62 (by kernel_rfl) (by kernel_rfl)
theorem fn64 : FnOK Try.prog 64 := FnOK.of Try.func64 (by kernel_rfl) (by kernel_rfl)
theorem fn67 : FnOK Try.prog 67 := FnOK.of Try.func67 (by kernel_rfl) (by kernel_rfl)
theorem fn68 : FnOK Try.prog 68 := FnOK.of Try.func68 (by kernel_rfl) (by kernel_rfl)
theorem fn54 : FnOK Try.prog 54 := FnOK.of Try.func54 (by kernel_rfl) (by kernel_rfl)
theorem fn66 : FnOK Try.prog 66 := FnOK.of Try.func66 (by kernel_rfl) (by kernel_rfl)
theorem fn65 : FnOK Try.prog 65 := FnOK.of Try.func65 (by kernel_rfl) (by kernel_rfl)
theorem fn63 : FnOK Try.prog 63 := FnOK.of Try.func63 (by kernel_rfl) (by kernel_rfl)
theorem fn56 : FnOK Try.prog 56 := FnOK.of Try.func56 (by kernel_rfl) (by kernel_rfl)
theorem fn46 : FnOK Try.prog 46 := FnOK.of Try.func46 (by kernel_rfl) (by kernel_rfl)
theorem fn45 : FnOK Try.prog 45 := FnOK.of Try.func45 (by kernel_rfl) (by kernel_rfl)
theorem fn44 : FnOK Try.prog 44 := FnOK.of Try.func44 (by kernel_rfl) (by kernel_rfl)
theorem el22 : ElemTy Try.prog 22 49 2 16 := ElemTy.of Try.underlying22 (by kernel_rfl) (Nat.le_of_ble_eq_true rfl)
theorem mk22 : MakeTy Try.prog 22 49 2 16 [.int .i64 0, .int .i64 0] := MakeTy.of (vs := [.int .i64 0, .int .i64 0]) Try.underlying22 (by kernel_rfl) rfl (Nat.le_of_ble_eq_true rfl) (fun _ _ => ⟨_, _, rfl, rfl, _, _, rfl, rfl, rfl⟩)
theorem sl66 : SliceTy Try.prog 66 22 1 := SliceTy.of Try.underlying66 (by kernel_rfl)
theorem sz22 : SizeTy Try.prog 22 1 false := SizeTy.of Try.underlying22 (by kernel_rfl) rfl
theorem fn47 : FnOK Try.prog 47 := FnOK.of Try.func47 (by kernel_rfl) (by kernel_rfl)
theorem av49 : ArrValTy Try.prog 49 2 1 [.int .i64 0, .int .i64 0] := ArrValTy.of 2 (vs := [.int .i64 0, .int .i64 0]) Try.underlying49 (by kernel_rfl) (by kernel_rfl) (fun _ _ => ⟨_, _, rfl, rfl, _, _, rfl, rfl, rfl⟩)
theorem fn40 : FnOK Try.prog 40 := FnOK.of Try.func40 (by kernel_rfl) (by kernel_rfl)
theorem el66 : ElemTy Try.prog 66 22 1 24 := ElemTy.of Try.underlying66 (by kernel_rfl) (Nat.le_of_ble_eq_true rfl)
theorem fn30 : FnOK Try.prog 30 := FnOK.of Try.func30 (by kernel_rfl) (by kernel_rfl)
theorem fn29 : FnOK Try.prog 29 := FnOK.of Try.func29 (by kernel_rfl) (by kernel_rfl)
theorem fn32 : FnOK Try.prog 32 := FnOK.of Try.func32 (by kernel_rfl) (by kernel_rfl)
theorem fn34 : FnOK Try.prog 34 := FnOK.of Try.func34 (by kernel_rfl) (by kernel_rfl)
theorem fn38 : FnOK Try.prog 38 := FnOK.of Try.func38 (by kernel_rfl) (by kernel_rfl)
theorem fn39 : FnOK Try.prog 39 := FnOK.of Try.func39 (by kernel_rfl) (by kernel_rfl)
theorem st42 : StructTy Try.prog 42 [(0, 1), (1, 1), (2, 1), (3, 1)] [.int .i64 0, .int .i64 0, .int .i64 0, .sl .nl []] := StructTy.of 4 (vs := [.int .i64 0, .int .i64 0, .int .i64 0, .slice none 0 0]) Try.underlying42 (by kernel_rfl) (by kernel_rfl) (fun _ _ => ⟨_, _, rfl, rfl, _, _, rfl, rfl, _, _, rfl, rfl, _, _, rfl, .inl ⟨rfl, .inl rfl⟩, rfl⟩)
theorem el40 : ElemTy Try.prog 40 42 4 48 := ElemTy.of Try.underlying40 (by kernel_rfl) (Nat.le_of_ble_eq_true rfl)
theorem fn22 : FnOK Try.prog 22 := FnOK.of Try.func22 (by kernel_rfl) (by kernel_rfl)
theorem fn14 : FnOK Try.prog 14 := FnOK.of Try.func14 (by kernel_rfl) (by kernel_rfl)
theorem fn9 : FnOK Try.prog 9 := FnOK.of Try.func9 (by kernel_rfl) (by kernel_rfl)
theorem fn28 : FnOK Try.prog 28 := FnOK.of Try.func28 (by kernel_rfl) (by kernel_rfl)
theorem fn27 : FnOK Try.prog 27 := FnOK.of Try.func27 (by kernel_rfl) (by kernel_rfl)
theorem fi36_0 : FieldTy Try.prog 36 0 0 1 false := FieldTy.of Try.underlying36 rfl sz3 (Nat.le_of_ble_eq_true rfl)
theorem fi36_1 : FieldTy Try.prog 36 1 1 1 false := FieldTy.of Try.underlying36 rfl sz3 (Nat.le_of_ble_eq_true rfl)
theorem fi36_2 : FieldTy Try.prog 36 2 2 1 false := FieldTy.of Try.underlying36 rfl sz3 (Nat.le_of_ble_eq_true rfl)
theorem sz34 : SizeTy Try.prog 34 1 false := SizeTy.of Try.underlying34 (by kernel_rfl) rfl
theorem fi36_3 : FieldTy Try.prog 36 3 3 1 false := FieldTy.of Try.underlying36 rfl sz34 (Nat.le_of_ble_eq_true rfl)
theorem sl34 : SliceTy Try.prog 34 36 4 := SliceTy.of Try.underlying34 (by kernel_rfl)
theorem sz36 : SizeTy Try.prog 36 4 true := SizeTy.of Try.underlying36 (by kernel_rfl) rfl
theorem fn25 : FnOK Try.prog 25 := FnOK.of Try.func25 (by kernel_rfl) (by kernel_rfl)
theorem sl77 : SliceTy Try.prog 77 3 1 := SliceTy.of Try.underlying77 (by kernel_rfl)
theorem el77 : ElemTy Try.prog 77 3 1 8 := ElemTy.of Try.underlying77 (by kernel_rfl) (Nat.le_of_ble_eq_true rfl)
theorem fn58 : FnOK Try.prog 58 := FnOK.of Try.func58 (by kernel_rfl) (by kernel_rfl)
theorem fn57 : FnOK Try.prog 57 := FnOK.of Try.func57 (by kernel_rfl) (by kernel_rfl)
theorem zt36 : ZeroTy Try.prog 36 [.int .i64 0, .int .i64 0, .int .i64 0, .sl .nl []] := ZeroTy.of (vs := [.int .i64 0, .int .i64 0, .int .i64 0, .slice none 0 0]) (by kernel_rfl) (fun _ _ => ⟨_, _, rfl, rfl, _, _, rfl, rfl, _, _, rfl, rfl, _, _, rfl, .inl ⟨rfl, .inl rfl⟩, rfl⟩)
theorem st36 : StructTy Try.prog 36 [(0, 1), (1, 1), (2, 1), (3, 1)] [.int .i64 0, .int .i64 0, .int .i64 0, .sl .nl []] := StructTy.of 4 (vs := [.int .i64 0, .int .i64 0, .int .i64 0, .slice none 0 0]) Try.underlying36 (by kernel_rfl) (by kernel_rfl) (fun _ _ => ⟨_, _, rfl, rfl, _, _, rfl, rfl, _, _, rfl, rfl, _, _, rfl, .inl ⟨rfl, .inl rfl⟩, rfl⟩)
theorem el34 : ElemTy Try.prog 34 36 4 48 := ElemTy.of Try.underlying34 (by kernel_rfl) (Nat.le_of_ble_eq_true rfl)
theorem fn19 : FnOK Try.prog 19 := FnOK.of Try.func19 (by kernel_rfl) (by kernel_rfl)
theorem fn50 : FnOK Try.prog 50 := FnOK.of Try.func50 (by kernel_rfl) (by kernel_rfl)
theorem fn49 : FnOK Try.prog 49 := FnOK.of Try.func49 (by kernel_rfl) (by kernel_rfl)
theorem fn48 : FnOK Try.prog 48 := FnOK.of Try.func48 (by kernel_rfl) (by kernel_rfl)
theorem fn31 : FnOK Try.prog 31 := FnOK.of Try.func31 (by kernel_rfl) (by kernel_rfl)
theorem fn33 : FnOK Try.prog 33 := FnOK.of Try.func33 (by kernel_rfl) (by kernel_rfl)
theorem fn5 : FnOK Try.prog 5 := FnOK.of Try.func5 (by kernel_rfl) (by kernel_rfl)
theorem fn6 : FnOK Try.prog 6 := FnOK.of Try.func6 (by kernel_rfl) (by kernel_rfl)
theorem fn7 : FnOK Try.prog 7 := FnOK.of Try.func7 (by kernel_rfl) (by kernel_rfl)
theorem fn8 : FnOK Try.prog 8 := FnOK.of Try.func8 (by kernel_rfl) (by kernel_rfl)
theorem fn10 : FnOK Try.prog 10 := FnOK.of Try.func10 (by kernel_rfl) (by kernel_rfl)
theorem fn11 : FnOK Try.prog 11 := FnOK.of Try.func11 (by kernel_rfl) (by kernel_rfl)
theorem fn12 : FnOK Try.prog 12 := FnOK.of Try.func12 (by kernel_rfl) (by kernel_rfl)
theorem fn13 : FnOK Try.prog 13 := FnOK.of Try.func13 (by kernel_rfl) (by kernel_rfl)
theorem fn15 : FnOK Try.prog 15 := FnOK.of Try.func15 (by kernel_rfl) (by kernel_rfl)
theorem fn16 : FnOK Try.prog 16 := FnOK.of Try.func16 (by kernel_rfl) (by kernel_rfl)
theorem fn17 : FnOK Try.prog 17 := FnOK.of Try.func17 (by kernel_rfl) (by kernel_rfl)
theorem fn35 : FnOK Try.prog 35 := FnOK.of Try.func35 (by kernel_rfl) (by kernel_rfl)
theorem fn36 : FnOK Try.prog 36 := FnOK.of Try.func36 (by kernel_rfl) (by kernel_rfl)
theorem fn37 : FnOK Try.prog 37 := FnOK.of Try.func37 (by kernel_rfl) (by kernel_rfl)
theorem fn23 : FnOK Try.prog 23 := FnOK.of Try.func23 (by kernel_rfl) (by kernel_rfl)
theorem fn53 : FnOK Try.prog 53 := FnOK.of Try.func53 (by kernel_rfl) (by kernel_rfl)
theorem fn42 : FnOK Try.prog 42 := FnOK.of Try.func42 (by kernel_rfl) (by kernel_rfl)
theorem fn41 : FnOK Try.prog 41 := FnOK.of Try.func41 (by kernel_rfl) (by kernel_rfl)
theorem fn43 : FnOK Try.prog 43 := FnOK.of Try.func43 (by kernel_rfl) (by kernel_rfl)
theorem fn20 : FnOK Try.prog 20 := FnOK.of Try.func20 (by kernel_rfl) (by kernel_rfl)
theorem fn21 : FnOK Try.prog 21 := FnOK.of Try.func21 (by kernel_rfl) (by kernel_rfl)
theorem fn24 : FnOK Try.prog 24 := FnOK.of Try.func24 (by kernel_rfl) (by kernel_rfl)
theorem fn26 : FnOK Try.prog 26 := FnOK.of Try.func26 (by kernel_rfl) (by kernel_rfl)

theorem ref01_Pairs.l0_ok (a0 : List Pr) (a1 : List Pr) {Q : Exit → Env → HH → Prop} :
    ∀ (i_21 : Int) (o : Unit ⊕ Unit), PL.ref01_Pairs.l0 a0 a1 i_21 = some o →
    ∀ (hx0 : Sum.inl () = o → Q (.exit 0) ⟨[], []⟩ (hq [] [])) (hx1 : Sum.inr () = o → Q .ret ⟨[(4, .bool false)], []⟩ (hq [] [])), VW Try.prog 26 (codeAt [1, 1, 0, 1, 0, 0] (bodyOf Try.f9)) (thenQ (VL Try.prog 26 (codeAt [1, 1, 0, 1, 0, 0] (bodyOf Try.f9)) Q) Q) ⟨[(0, .sl .fz (a0.map Pr.c)), (1, .sl .fz (a1.map Pr.c)), (5, .int .i64 i_21)], []⟩ (hq [] []) := by
  refine PL.ref01_Pairs.l0.partial_correctness a0 a1 (motive := fun i_21 o => ∀ (hx0 : Sum.inl () = o → Q (.exit 0) ⟨[], []⟩ (hq [] [])) (hx1 : Sum.inr () = o → Q .ret ⟨[(4, .bool false)], []⟩ (hq [] [])), VW Try.prog 26 (codeAt [1, 1, 0, 1, 0, 0] (bodyOf Try.f9)) (thenQ (VL Try.prog 26 (codeAt [1, 1, 0, 1, 0, 0] (bodyOf Try.f9)) Q) Q) ⟨[(0, .sl .fz (a0.map Pr.c)), (1, .sl .fz (a1.map Pr.c)), (5, .int .i64 i_21)], []⟩ (hq [] [])) ?_
  intro _ ih i_21 o h hx0 hx1
  refine VW.seq (VW.seq (VW.region (VO.t (t_move rfl rfl) rfl rfl (VO.t (t_move rfl rfl) rfl rfl (VO.t (v := .int .i64 (a0.length : Int)) (t_len rfl ⟨_, Try.underlying22⟩ rfl (by rw [List.length_map])) rfl rfl (VO.t (v := .bool (decide (i_21 < (a0.length : Int)))) (t_cmp rfl rfl rfl rfl rfl) rfl rfl (VO.nil (thenQ_normal (VW.subK (.c 0 rfl (.c 1 rfl (.c 5 rfl (.c 14 rfl .n)))) rfl ?_)))))))))
  refine VW.cond (b := (decide (i_21 < (a0.length : Int)))) rfl (fun hc_26 => ?_) (fun hc_26 => ?_)
  · replace h := iteT h hc_26
    refine VW.skip (thenQ_normal (VW.subK (.c 0 rfl (.c 1 rfl (.c 5 rfl .n))) rfl (VW.seq (VW.block (VW.seq (VW.draw 9 mix rfl (VA.phase (g := 0) [0, 1, 2, 3, 4, 5, 6, 7, 8] 9 (VP.take (i := 0) rfl (TOp.r (t_move rfl rfl)) (.inl rfl) (by kernel_rfl) (VP.take (i := 1) rfl (TOp.r (t_move rfl rfl)) (.inl rfl) (by kernel_rfl) ?_)))))))))
    obtain ⟨c_27, hc_27, h⟩ := obind h
    refine VP.take (i := 2) (v := .vptr [.int .i64 c_27.x0, .int .i64 c_27.x1]) rfl (TOp.r (t_indexAddr rfl sl22 rfl rfl (getI_some hc_27).1 (map_get (getI_some hc_27).2 (Pr.c_eq c_27)) rfl)) (.inl rfl) (by kernel_rfl) (VP.take (i := 3) (v := .agg [.int .i64 c_27.x0, .int .i64 c_27.x1]) rfl (r_load_v rfl sz49 rfl rfl) (.inl rfl) (by kernel_rfl) (VP.take (i := 4) rfl (TOp.r (t_move rfl rfl)) (.inl rfl) (by kernel_rfl) (VP.take (i := 5) rfl (TOp.r (t_move rfl rfl)) (.inl rfl) (by kernel_rfl) ?_)))
    obtain ⟨c_28, hc_28, h⟩ := obind h
    refine VP.take (i := 6) (v := .vptr [.int .i64 c_28.x0, .int .i64 c_28.x1]) rfl (TOp.r (t_indexAddr rfl sl22 rfl rfl (getI_some hc_28).1 (map_get (getI_some hc_28).2 (Pr.c_eq c_28)) rfl)) (.inl rfl) (by kernel_rfl) (VP.take (i := 7) (v := .agg [.int .i64 c_28.x0, .int .i64 c_28.x1]) rfl (r_load_v rfl sz49 rfl rfl) (.inl rfl) (by kernel_rfl) (VP.take (i := 8) (v := .bool (!(c_27.x0 == c_28.x0 && c_27.x1 == c_28.x1))) rfl (TOp.r (t_ane rfl ae49 rfl rfl rfl)) (.inl rfl) (by kernel_rfl) (VP.done (by kernel_rfl) (VA.done (by kernel_rfl) (thenQ_normal (VW.subK (.c 0 rfl (.c 1 rfl (.c 5 rfl (.c 25 rfl .n)))) rfl ?_))))))
    refine VW.cond (b := (!(c_27.x0 == c_28.x0 && c_27.x1 == c_28.x1))) rfl (fun hc_29 => ?_) (fun hc_29 => ?_)
    · replace h := iteT h hc_29
      refine VW.seq (VW.region (VO.t (v := .bool false) (t_assign rfl (fun _ _ => rfl)) rfl rfl (VO.nil (thenQ_normal (VW.subK (.c 4 rfl .n) rfl (VW.subK (.c 4 rfl .n) rfl (VW.ret (blockQ_ret (thenQ_ret ?_)))))))))
      refine thenQ_ret ?_
      have h := Option.some.inj h
      subst h
      exact hx1  rfl
    · replace h := iteF h hc_29
      refine VW.skip (blockQ_normal (thenQ_normal (VW.subK (.c 0 rfl (.c 1 rfl (.c 5 rfl .n))) rfl (VW.region (VO.t (t_move rfl rfl) rfl rfl (VO.t (v := .int .i64 (w64 (i_21 + 1))) (t_add rfl rfl (fun _ _ => rfl) rfl) rfl rfl (VO.t (v := .int .i64 (w64 (i_21 + 1))) (t_assign rfl rfl) rfl rfl (VO.nil (thenQ_normal (VL.round ?_))))))))))
      refine VW.subK (.c 0 rfl (.c 1 rfl (.c 5 rfl .n))) rfl ?_
      exact ih _ _ h hx0 hx1
  · replace h := iteF h hc_26
    refine VW.subN (t' := []) trivial rfl (VW.exit (thenQ_exit (thenQ_exit ?_)))
    have h := Option.some.inj h
    subst h
    exact hx0  rfl

theorem ref01_Pairs_ok (a0 : List Pr) (a1 : List Pr) (r : Bool) (h : PL.ref01_Pairs a0 a1 = some r) :
    VCalls Try.prog 9 [.sl .fz (a0.map Pr.c), .sl .fz (a1.map Pr.c)] (hq [] []) (fun v H => .bool r = v ∧ H = hq [] []) := by
  unfold PL.ref01_Pairs at h
  refine VCalls.of_body 26 [4] Try.func9 rfl rfl rfl (Nat.le_of_ble_eq_true rfl) (VW.subK (.c 0 rfl (.c 1 rfl .n)) rfl (VW.seq (VW.region (VO.t (v := .bool false) (t_assign rfl (fun _ _ => rfl)) rfl rfl (VO.nil (thenQ_normal (VW.subK (.c 0 rfl (.c 1 rfl .n)) rfl (VW.seq (VW.seq ?_)))))))))
  refine VW.region (VO.t (t_move rfl rfl) rfl rfl (VO.t (v := .int .i64 (a0.length : Int)) (t_len rfl ⟨_, Try.underlying22⟩ rfl (by rw [List.length_map])) rfl rfl (VO.t (t_move rfl rfl) rfl rfl (VO.t (v := .int .i64 (a1.length : Int)) (t_len rfl ⟨_, Try.underlying22⟩ rfl (by rw [List.length_map])) rfl rfl (VO.t (v := .bool ((a0.length : Int) != (a1.length : Int))) (t_cmp rfl rfl rfl rfl rfl) rfl rfl (VO.nil (thenQ_normal (VW.subK (.c 0 rfl (.c 1 rfl (.c 10 rfl .n))) rfl ?_))))))))
  refine VW.cond (b := ((a0.length : Int) != (a1.length : Int))) rfl (fun hc_1 => ?_) (fun hc_1 => ?_)
  · replace h := iteT h hc_1
    refine VW.seq (VW.region (VO.t (v := .bool false) (t_assign rfl (fun _ _ => rfl)) rfl rfl (VO.nil (thenQ_normal (VW.subK (.c 4 rfl .n) rfl (VW.ret (thenQ_ret ?_)))))))
    have h := Option.some.inj h
    subst h
    exact ⟨.inr rfl, rfl, _, .bool false, hq [] [], rfl, VLe.refl _, hq_sub .slnil .slnil, rfl, rfl⟩
  · replace h := iteF h hc_1
    refine VW.skip (thenQ_normal (VW.subK (.c 0 rfl (.c 1 rfl .n)) rfl (VW.seq (VW.seq (VW.region (VO.t (v := .int .i64 0) (t_assign rfl (fun _ _ => rfl)) rfl rfl (VO.nil (thenQ_normal (VW.block ?_)))))))))
    refine VW.subK (.c 0 rfl (.c 1 rfl (.c 5 rfl .n))) rfl ?_
    obtain ⟨o_30, hx_31, h⟩ := obind h
    refine VW.loopL (ref01_Pairs.l0_ok a0 a1 _ _ hx_31 ?_ ?_)
    · intro ho_
      subst ho_
      try dsimp only at h
      refine blockQ_hit (thenQ_normal (VW.seq (VW.region (VO.t (v := .bool true) (t_assign rfl (fun _ _ => rfl)) rfl rfl (VO.nil (thenQ_normal (VW.ret ?_)))))))
      have h := Option.some.inj h
      subst h
      exact ⟨.inr rfl, rfl, _, .bool true, hq [] [], rfl, VLe.refl _, hq_sub .slnil .slnil, rfl, rfl⟩
    · intro ho_
      subst ho_
      try dsimp only at h
      refine blockQ_ret (thenQ_ret ?_)
      have h := Option.some.inj h
      subst h
      exact ⟨.inr rfl, rfl, _, .bool false, hq [] [], rfl, VLe.refl _, hq_sub .slnil .slnil, rfl, rfl⟩

theorem set_Valid.l0_ok (a0 : List Pr) {Q : Exit → Env → HH → Prop} :
    ∀ (x_65 : Int) (o : Unit ⊕ Unit), PL.set_Valid.l0 a0 x_65 = some o →
    ∀ (hx0 : Sum.inl () = o → Q (.exit 0) ⟨[(0, .sl .fz (a0.map Pr.c))], []⟩ (hq [] [])) (hx1 : Sum.inr () = o → Q .ret ⟨[(2, .bool false)], []⟩ (hq [] [])), VW Try.prog 47 (codeAt [1, 0, 1, 0, 0] (bodyOf Try.f18)) (thenQ (VL Try.prog 47 (codeAt [1, 0, 1, 0, 0] (bodyOf Try.f18)) Q) Q) ⟨[(0, .sl .fz (a0.map Pr.c)), (5, .sl .fz (a0.map Pr.c)), (6, .int .i64 (a0.length : Int)), (7, .int .i64 x_65)], []⟩ (hq [] []) := by
  refine PL.set_Valid.l0.partial_correctness a0 (motive := fun x_65 o => ∀ (hx0 : Sum.inl () = o → Q (.exit 0) ⟨[(0, .sl .fz (a0.map Pr.c))], []⟩ (hq [] [])) (hx1 : Sum.inr () = o → Q .ret ⟨[(2, .bool false)], []⟩ (hq [] [])), VW Try.prog 47 (codeAt [1, 0, 1, 0, 0] (bodyOf Try.f18)) (thenQ (VL Try.prog 47 (codeAt [1, 0, 1, 0, 0] (bodyOf Try.f18)) Q) Q) ⟨[(0, .sl .fz (a0.map Pr.c)), (5, .sl .fz (a0.map Pr.c)), (6, .int .i64 (a0.length : Int)), (7, .int .i64 x_65)], []⟩ (hq [] [])) ?_
  intro _ ih x_65 o h hx0 hx1
  refine VW.seq (VW.region (VO.t (v := .bool (decide (x_65 < (a0.length : Int)))) (t_cmp rfl rfl rfl rfl rfl) rfl rfl (VO.nil (thenQ_normal (VW.seq ?_)))))
  refine VW.cond (b := (decide (x_65 < (a0.length : Int)))) rfl (fun hc_75 => ?_) (fun hc_75 => ?_)
  · replace h := iteT h hc_75
    refine VW.skip (thenQ_normal (VW.subK (.c 0 rfl (.c 5 rfl (.c 6 rfl (.c 7 rfl .n)))) rfl (VW.seq (VW.block (VW.seq (VW.region (VO.t (t_move rfl rfl) rfl rfl ?_)))))))
    obtain ⟨c_76, hc_76, h⟩ := obind h
    refine VO.t (v := .vptr [.int .i64 c_76.x0, .int .i64 c_76.x1]) (t_indexAddr rfl sl22 rfl rfl (getI_some hc_76).1 (map_get (getI_some hc_76).2 (Pr.c_eq c_76)) rfl) rfl rfl (VO.r (v := .agg [.int .i64 c_76.x0, .int .i64 c_76.x1]) (r_load_v rfl sz49 rfl rfl) rfl rfl (VO.w (fun v H' => ∃ ob_77, .ptr ob_77 0 = v ∧ H' = hq ([[(ob_77, .cells [.int .i64 0, .int .i64 0])]]) []) (w_alloc_q rfl zt49 (fun ob => ⟨ob, rfl, rfl⟩)) rfl rfl ?_))
    rintro _ _ ⟨ob_77, rfl, rfl⟩
    refine VO.t (v := .int .i64 x_65) (t_assign rfl rfl) rfl rfl (VO.w (fun v H' => .any = v ∧ H' = hq ([[(ob_77, .cells [.int .i64 c_76.x0, .int .i64 c_76.x1])]]) []) (w_store_q (i := 0) rfl sz49 rfl rfl rfl rfl rfl (Nat.le_of_ble_eq_true rfl) ⟨rfl, rfl⟩) rfl rfl ?_)
    rintro _ _ ⟨rfl, rfl⟩
    refine VO.nil (thenQ_normal (VW.subK (.c 0 rfl (.c 5 rfl (.c 6 rfl (.c 7 rfl (.c 4 rfl (.c 3 rfl .n)))))) rfl (VW.seq (VW.draw 31 mix rfl (VA.phase (g := 25) [0, 1, 2, 3, 4, 5] 6 (VP.take (i := 0) (v := .ptr ob_77 0) rfl (TOp.r (t_indexAddr_parr rfl ar49 rfl (fun _ _ => rfl) (by decide) (by decide) rfl)) (.inl rfl) (by kernel_rfl) (VP.take (i := 1) (v := .int .i64 c_76.x0) rfl (r_load_q (i := 0) rfl sz3 rfl rfl rfl) (.inl rfl) (by kernel_rfl) (VP.take (i := 2) (v := .ptr ob_77 1) rfl (TOp.r (t_indexAddr_parr rfl ar49 rfl (fun _ _ => rfl) (by decide) (by decide) rfl)) (.inl rfl) (by kernel_rfl) (VP.take (i := 3) (v := .int .i64 c_76.x1) rfl (r_load_q (i := 0) rfl sz3 rfl rfl rfl) (.inl rfl) (by kernel_rfl) ?_)))))))))
    refine VP.take (i := 4) (v := .bool (decide (c_76.x0 > c_76.x1))) rfl (TOp.r (t_cmp rfl rfl rfl rfl rfl)) (.inl rfl) (by kernel_rfl) (VP.take (i := 5) rfl (TOp.r (t_move rfl rfl)) (.inl rfl) (by kernel_rfl) (VP.done (by kernel_rfl) ?_))
    refine VA.caseB (d := 17) (b := (decide (c_76.x0 > c_76.x1))) rfl (fun hc_78 => ?_) (fun hc_78 => ?_)
    · replace h := iteT h hc_78
      refine VA.skip (i := 6) rfl rfl rfl rfl rfl (by kernel_rfl) (VA.skip (i := 7) rfl rfl rfl rfl rfl (by kernel_rfl) (VA.skip (i := 8) rfl rfl rfl rfl rfl (by kernel_rfl) (VA.t (i := 9) (v := .bool true) rfl (t_pick (b := true) rfl rfl (fun _ => (fun _ _ => rfl)) (fun h => by cases h)) (.inl rfl) (by kernel_rfl) (VA.t (i := 10) rfl (t_move rfl rfl) (.inl rfl) (by kernel_rfl) (VA.skip (i := 11) rfl rfl rfl rfl rfl (by kernel_rfl) (VA.skip (i := 12) rfl rfl rfl rfl rfl (by kernel_rfl) (VA.skip (i := 13) rfl rfl rfl rfl rfl (by kernel_rfl) (VA.t (i := 14) (v := .bool true) rfl (t_pick (b := true) rfl rfl (fun _ => (fun _ _ => rfl)) (fun h => by cases h)) (.inl rfl) (by kernel_rfl) (VA.t (i := 15) rfl (t_move rfl rfl) (.inl rfl) (by kernel_rfl) ?_)))))))))
      refine VA.skip (i := 16) rfl rfl rfl rfl rfl (by kernel_rfl) (VA.skip (i := 17) rfl rfl rfl rfl rfl (by kernel_rfl) (VA.skip (i := 18) rfl rfl rfl rfl rfl (by kernel_rfl) (VA.skip (i := 19) rfl rfl rfl rfl rfl (by kernel_rfl) (VA.skip (i := 20) rfl rfl rfl rfl rfl (by kernel_rfl) (VA.skip (i := 21) rfl rfl rfl rfl rfl (by kernel_rfl) (VA.skip (i := 22) rfl rfl rfl rfl rfl (by kernel_rfl) (VA.skip (i := 23) rfl rfl rfl rfl rfl (by kernel_rfl) (VA.skip (i := 24) rfl rfl rfl rfl rfl (by kernel_rfl) (VA.skip (i := 25) rfl rfl rfl rfl rfl (by kernel_rfl) ?_)))))))))
      refine VA.skip (i := 26) rfl rfl rfl rfl rfl (by kernel_rfl) (VA.skip (i := 27) rfl rfl rfl rfl rfl (by kernel_rfl) (VA.skip (i := 28) rfl rfl rfl rfl rfl (by kernel_rfl) (VA.skip (i := 29) rfl rfl rfl rfl rfl (by kernel_rfl) (VA.t (i := 30) (v := .bool true) rfl (t_pick (b := true) rfl rfl (fun _ => (fun _ _ => rfl)) (fun h => by cases h)) (.inl rfl) (by kernel_rfl) (VA.done (by kernel_rfl) (thenQ_normal (VW.subK (.c 0 rfl (.c 5 rfl (.c 6 rfl (.c 7 rfl (.c 18 rfl (.c 19 rfl (.c 20 rfl (.c 23 rfl (.c 24 rfl (.c 25 rfl (.c 28 rfl (.c 29 rfl (.c 30 rfl (.c 31 rfl (.c 32 rfl (.c 33 rfl (.c 34 rfl (.c 35 rfl (.c 36 rfl (.c 37 rfl (.c 38 rfl (.c 39 rfl (.c 40 rfl (.c 41 rfl (.c 42 rfl .n))))))))))))))))))))))))) rfl (VW.hsub (A := hq [] []) (hq_sub (.cons _ .slnil) .slnil) (VW.condT rfl ?_)))))))))
      refine VW.seq (VW.region (VO.t (v := .bool false) (t_assign rfl (fun _ _ => rfl)) rfl rfl (VO.nil (thenQ_normal (VW.subK (.c 2 rfl .n) rfl (VW.subK (.c 2 rfl .n) rfl (VW.ret (blockQ_ret (thenQ_ret ?_)))))))))
      refine thenQ_ret ?_
      have h := Option.some.inj h
      subst h
      exact hx1  rfl
    · replace h := iteF h hc_78
      refine VA.phase (g := 20) [6, 7, 8, 9, 10] 5 (VP.take (i := 6) (v := .ptr ob_77 0) rfl (TOp.r (t_indexAddr_parr rfl ar49 rfl (fun _ _ => rfl) (by decide) (by decide) rfl)) (.inr ⟨_, _, _, rfl, rfl, rfl⟩) (by kernel_rfl) (VP.take (i := 7) (v := .int .i64 c_76.x0) rfl (r_load_q (i := 0) rfl sz3 rfl rfl rfl) (.inr ⟨_, _, _, rfl, rfl, rfl⟩) (by kernel_rfl) (VP.take (i := 8) (v := .bool (decide (c_76.x0 < (-1000000000000000)))) rfl (TOp.r (t_cmp rfl rfl rfl (fun _ _ => rfl) rfl)) (.inr ⟨_, _, _, rfl, rfl, rfl⟩) (by kernel_rfl) (VP.take (i := 9) (v := .bool (decide (c_76.x0 < (-1000000000000000)))) rfl (TOp.r (t_pick (b := false) rfl rfl (fun h => by cases h) (fun _ => rfl))) (.inl rfl) (by kernel_rfl) (VP.take (i := 10) rfl (TOp.r (t_move rfl rfl)) (.inl rfl) (by kernel_rfl) (VP.done (by kernel_rfl) ?_))))))
      refine VA.caseB (d := 22) (b := (decide (c_76.x0 < (-1000000000000000)))) rfl (fun hc_79 => ?_) (fun hc_79 => ?_)
      · replace h := iteT h hc_79
        refine VA.skip (i := 11) rfl rfl rfl rfl rfl (by kernel_rfl) (VA.skip (i := 12) rfl rfl rfl rfl rfl (by kernel_rfl) (VA.skip (i := 13) rfl rfl rfl rfl rfl (by kernel_rfl) (VA.t (i := 14) (v := .bool true) rfl (t_pick (b := true) rfl rfl (fun _ => (fun _ _ => rfl)) (fun h => by cases h)) (.inl rfl) (by kernel_rfl) (VA.t (i := 15) rfl (t_move rfl rfl) (.inl rfl) (by kernel_rfl) (VA.skip (i := 16) rfl rfl rfl rfl rfl (by kernel_rfl) (VA.skip (i := 17) rfl rfl rfl rfl rfl (by kernel_rfl) (VA.skip (i := 18) rfl rfl rfl rfl rfl (by kernel_rfl) (VA.skip (i := 19) rfl rfl rfl rfl rfl (by kernel_rfl) (VA.skip (i := 20) rfl rfl rfl rfl rfl (by kernel_rfl) ?_)))))))))
        refine VA.skip (i := 21) rfl rfl rfl rfl rfl (by kernel_rfl) (VA.skip (i := 22) rfl rfl rfl rfl rfl (by kernel_rfl) (VA.skip (i := 23) rfl rfl rfl rfl rfl (by kernel_rfl) (VA.skip (i := 24) rfl rfl rfl rfl rfl (by kernel_rfl) (VA.skip (i := 25) rfl rfl rfl rfl rfl (by kernel_rfl) (VA.skip (i := 26) rfl rfl rfl rfl rfl (by kernel_rfl) (VA.skip (i := 27) rfl rfl rfl rfl rfl (by kernel_rfl) (VA.skip (i := 28) rfl rfl rfl rfl rfl (by kernel_rfl) (VA.skip (i := 29) rfl rfl rfl rfl rfl (by kernel_rfl) (VA.t (i := 30) (v := .bool true) rfl (t_pick (b := true) rfl rfl (fun _ => (fun _ _ => rfl)) (fun h => by cases h)) (.inl rfl) (by kernel_rfl) ?_)))))))))
        refine VA.done (by kernel_rfl) (thenQ_normal (VW.subK (.c 0 rfl (.c 5 rfl (.c 6 rfl (.c 7 rfl (.c 18 rfl (.c 19 rfl (.c 20 rfl (.c 23 rfl (.c 24 rfl (.c 25 rfl (.c 28 rfl (.c 29 rfl (.c 30 rfl (.c 31 rfl (.c 32 rfl (.c 33 rfl (.c 34 rfl (.c 35 rfl (.c 36 rfl (.c 37 rfl (.c 38 rfl (.c 39 rfl (.c 40 rfl (.c 41 rfl (.c 42 rfl .n))))))))))))))))))))))))) rfl (VW.condT rfl (VW.seq (VW.region (VO.t (v := .bool false) (t_assign rfl (fun _ _ => rfl)) rfl rfl (VO.nil (thenQ_normal (VW.subK (.c 2 rfl .n) rfl ?_)))))))))
        refine VW.hsub (A := hq [] []) (hq_sub (.cons _ .slnil) .slnil) (VW.subK (.c 2 rfl .n) rfl (VW.ret (blockQ_ret (thenQ_ret (thenQ_ret ?_)))))
        have h := Option.some.inj h
        subst h
        exact hx1  rfl
      · replace h := iteF h hc_79
        refine VA.phase (g := 15) [11, 12, 13, 14, 15] 5 (VP.take (i := 11) (v := .ptr ob_77 1) rfl (TOp.r (t_indexAddr_parr rfl ar49 rfl (fun _ _ => rfl) (by decide) (by decide) rfl)) (.inr ⟨_, _, _, rfl, rfl, rfl⟩) (by kernel_rfl) (VP.take (i := 12) (v := .int .i64 c_76.x1) rfl (r_load_q (i := 0) rfl sz3 rfl rfl rfl) (.inr ⟨_, _, _, rfl, rfl, rfl⟩) (by kernel_rfl) (VP.take (i := 13) (v := .bool (decide (c_76.x1 > 1000000000000000))) rfl (TOp.r (t_cmp rfl rfl rfl (fun _ _ => rfl) rfl)) (.inr ⟨_, _, _, rfl, rfl, rfl⟩) (by kernel_rfl) (VP.take (i := 14) (v := .bool (decide (c_76.x1 > 1000000000000000))) rfl (TOp.r (t_pick (b := false) rfl rfl (fun h => by cases h) (fun _ => rfl))) (.inl rfl) (by kernel_rfl) (VP.take (i := 15) rfl (TOp.r (t_move rfl rfl)) (.inl rfl) (by kernel_rfl) (VP.done (by kernel_rfl) ?_))))))
        refine VA.caseB (d := 27) (b := (decide (c_76.x1 > 1000000000000000))) rfl (fun hc_80 => ?_) (fun hc_80 => ?_)
        · replace h := iteT h hc_80
          refine VA.skip (i := 16) rfl rfl rfl rfl rfl (by kernel_rfl) (VA.skip (i := 17) rfl rfl rfl rfl rfl (by kernel_rfl) (VA.skip (i := 18) rfl rfl rfl rfl rfl (by kernel_rfl) (VA.skip (i := 19) rfl rfl rfl rfl rfl (by kernel_rfl) (VA.skip (i := 20) rfl rfl rfl rfl rfl (by kernel_rfl) (VA.skip (i := 21) rfl rfl rfl rfl rfl (by kernel_rfl) (VA.skip (i := 22) rfl rfl rfl rfl rfl (by kernel_rfl) (VA.skip (i := 23) rfl rfl rfl rfl rfl (by kernel_rfl) (VA.skip (i := 24) rfl rfl rfl rfl rfl (by kernel_rfl) (VA.skip (i := 25) rfl rfl rfl rfl rfl (by kernel_rfl) ?_)))))))))
          refine VA.skip (i := 26) rfl rfl rfl rfl rfl (by kernel_rfl) (VA.skip (i := 27) rfl rfl rfl rfl rfl (by kernel_rfl) (VA.skip (i := 28) rfl rfl rfl rfl rfl (by kernel_rfl) (VA.skip (i := 29) rfl rfl rfl rfl rfl (by kernel_rfl) (VA.t (i := 30) (v := .bool true) rfl (t_pick (b := true) rfl rfl (fun _ => (fun _ _ => rfl)) (fun h => by cases h)) (.inl rfl) (by kernel_rfl) (VA.done (by kernel_rfl) (thenQ_normal (VW.subK (.c 0 rfl (.c 5 rfl (.c 6 rfl (.c 7 rfl (.c 18 rfl (.c 19 rfl (.c 20 rfl (.c 23 rfl (.c 24 rfl (.c 25 rfl (.c 28 rfl (.c 29 rfl (.c 30 rfl (.c 31 rfl (.c 32 rfl (.c 33 rfl (.c 34 rfl (.c 35 rfl (.c 36 rfl (.c 37 rfl (.c 38 rfl (.c 39 rfl (.c 40 rfl (.c 41 rfl (.c 42 rfl .n))))))))))))))))))))))))) rfl (VW.condT rfl (VW.seq ?_)))))))))
          refine VW.region (VO.t (v := .bool false) (t_assign rfl (fun _ _ => rfl)) rfl rfl (VO.nil (thenQ_normal (VW.subK (.c 2 rfl .n) rfl (VW.hsub (A := hq [] []) (hq_sub (.cons _ .slnil) .slnil) (VW.subK (.c 2 rfl .n) rfl (VW.ret (blockQ_ret (thenQ_ret ?_)))))))))
          refine thenQ_ret ?_
          have h := Option.some.inj h
          subst h
          exact hx1  rfl
        · replace h := iteF h hc_80
          refine VA.t (i := 16) rfl (t_move rfl rfl) (.inr ⟨_, _, _, rfl, rfl, rfl⟩) (by kernel_rfl) (VA.t (i := 17) (v := .bool (decide (x_65 > 0))) rfl (t_cmp rfl rfl rfl (fun _ _ => rfl) rfl) (.inr ⟨_, _, _, rfl, rfl, rfl⟩) (by kernel_rfl) (VA.t (i := 18) rfl (t_move rfl rfl) (.inr ⟨_, _, _, rfl, rfl, rfl⟩) (by kernel_rfl) ?_))
          refine VA.caseB (d := 30) (b := (decide (x_65 > 0))) rfl (fun hc_81 => ?_) (fun hc_81 => ?_)
          · replace h := iteT h hc_81
            refine VA.phase (g := 0) [19, 20, 21, 22, 23, 24, 25, 26, 27, 28, 29, 30] 12 (VP.take (i := 19) (v := .ptr ob_77 0) rfl (TOp.r (t_indexAddr_parr rfl ar49 rfl (fun _ _ => rfl) (by decide) (by decide) rfl)) (.inr ⟨_, _, _, rfl, rfl, rfl⟩) (by kernel_rfl) (VP.take (i := 20) (v := .int .i64 c_76.x0) rfl (r_load_q (i := 0) rfl sz3 rfl rfl rfl) (.inr ⟨_, _, _, rfl, rfl, rfl⟩) (by kernel_rfl) (VP.take (i := 21) rfl (TOp.r (t_move rfl rfl)) (.inr ⟨_, _, _, rfl, rfl, rfl⟩) (by kernel_rfl) (VP.take (i := 22) rfl (TOp.r (t_move rfl rfl)) (.inr ⟨_, _, _, rfl, rfl, rfl⟩) (by kernel_rfl) (VP.take (i := 23) (v := .int .i64 (w64 (x_65 - 1))) rfl (TOp.r (t_sub rfl rfl (fun _ _ => rfl) rfl)) (.inr ⟨_, _, _, rfl, rfl, rfl⟩) (by kernel_rfl) ?_)))))
            obtain ⟨c_82, hc_82, h⟩ := obind h
            refine VP.take (i := 24) (v := .vptr [.int .i64 c_82.x0, .int .i64 c_82.x1]) rfl (TOp.r (t_indexAddr rfl sl22 rfl rfl (getI_some hc_82).1 (map_get (getI_some hc_82).2 (Pr.c_eq c_82)) rfl)) (.inr ⟨_, _, _, rfl, rfl, rfl⟩) (by kernel_rfl) (VP.take (i := 25) (v := .vptr [.int .i64 c_82.x1]) rfl (TOp.r (t_indexAddr_arr rfl ar49 rfl (fun _ _ => rfl) (by decide) (by decide) rfl)) (.inr ⟨_, _, _, rfl, rfl, rfl⟩) (by kernel_rfl) (VP.take (i := 26) (v := .int .i64 c_82.x1) rfl (r_load_v rfl sz3 rfl rfl) (.inr ⟨_, _, _, rfl, rfl, rfl⟩) (by kernel_rfl) (VP.take (i := 27) (v := .int .i64 (w64 (c_76.x0 - c_82.x1))) rfl (TOp.r (t_sub rfl rfl rfl rfl)) (.inr ⟨_, _, _, rfl, rfl, rfl⟩) (by kernel_rfl) (VP.take (i := 28) (v := .bool (decide ((w64 (c_76.x0 - c_82.x1)) < 2))) rfl (TOp.r (t_cmp rfl rfl rfl (fun _ _ => rfl) rfl)) (.inr ⟨_, _, _, rfl, rfl, rfl⟩) (by kernel_rfl) (VP.take (i := 29) (v := .bool (decide ((w64 (c_76.x0 - c_82.x1)) < 2))) rfl (TOp.r (t_pick (b := true) rfl rfl (fun _ => rfl) (fun h => by cases h))) (.inr ⟨_, _, _, rfl, rfl, rfl⟩) (by kernel_rfl) (VP.take (i := 30) (v := .bool (decide ((w64 (c_76.x0 - c_82.x1)) < 2))) rfl (TOp.r (t_pick (b := false) rfl rfl (fun h => by cases h) (fun _ => rfl))) (.inl rfl) (by kernel_rfl) (VP.done (by kernel_rfl) (VA.done (by kernel_rfl) (thenQ_normal ?_)))))))))
            refine VW.subK (.c 0 rfl (.c 5 rfl (.c 6 rfl (.c 7 rfl (.c 18 rfl (.c 19 rfl (.c 20 rfl (.c 23 rfl (.c 24 rfl (.c 25 rfl (.c 28 rfl (.c 29 rfl (.c 30 rfl (.c 31 rfl (.c 32 rfl (.c 33 rfl (.c 34 rfl (.c 35 rfl (.c 36 rfl (.c 37 rfl (.c 38 rfl (.c 39 rfl (.c 40 rfl (.c 41 rfl (.c 42 rfl .n))))))))))))))))))))))))) rfl ?_
            refine VW.cond (b := (decide ((w64 (c_76.x0 - c_82.x1)) < 2))) rfl (fun hc_83 => ?_) (fun hc_83 => ?_)
            · replace h := iteT h hc_83
              refine VW.seq (VW.region (VO.t (v := .bool false) (t_assign rfl (fun _ _ => rfl)) rfl rfl (VO.nil (thenQ_normal (VW.subK (.c 2 rfl .n) rfl (VW.hsub (A := hq [] []) (hq_sub (.cons _ .slnil) .slnil) (VW.subK (.c 2 rfl .n) rfl (VW.ret (blockQ_ret ?_)))))))))
              refine thenQ_ret (thenQ_ret ?_)
              have h := Option.some.inj h
              subst h
              exact hx1  rfl
            · replace h := iteF h hc_83
              refine VW.skip (blockQ_normal (thenQ_normal (VW.subK (.c 0 rfl (.c 5 rfl (.c 6 rfl (.c 7 rfl (.c 18 rfl (.c 19 rfl (.c 20 rfl (.c 23 rfl (.c 24 rfl (.c 25 rfl (.c 28 rfl (.c 29 rfl (.c 30 rfl (.c 31 rfl (.c 32 rfl (.c 33 rfl (.c 34 rfl (.c 35 rfl (.c 36 rfl (.c 37 rfl (.c 38 rfl (.c 39 rfl (.c 40 rfl (.c 41 rfl .n)))))))))))))))))))))))) rfl (VW.region (VO.t (v := .int .i64 (w64 (x_65 + 1))) (t_add rfl rfl (fun _ _ => rfl) rfl) rfl rfl (VO.t (t_move rfl rfl) rfl rfl (VO.nil (thenQ_normal (VL.round ?_)))))))))
              refine VW.subK (.c 0 rfl (.c 5 rfl (.c 6 rfl (.c 7 rfl .n)))) rfl (VW.hsub (A := hq [] []) (hq_sub (.cons _ .slnil) .slnil) ?_)
              exact ih _ _ h hx0 hx1
          · replace h := iteF h hc_81
            refine VA.skip (i := 19) rfl rfl rfl rfl rfl (by kernel_rfl) (VA.skip (i := 20) rfl rfl rfl rfl rfl (by kernel_rfl) (VA.skip (i := 21) rfl rfl rfl rfl rfl (by kernel_rfl) (VA.skip (i := 22) rfl rfl rfl rfl rfl (by kernel_rfl) (VA.skip (i := 23) rfl rfl rfl rfl rfl (by kernel_rfl) (VA.skip (i := 24) rfl rfl rfl rfl rfl (by kernel_rfl) (VA.skip (i := 25) rfl rfl rfl rfl rfl (by kernel_rfl) (VA.skip (i := 26) rfl rfl rfl rfl rfl (by kernel_rfl) (VA.skip (i := 27) rfl rfl rfl rfl rfl (by kernel_rfl) (VA.skip (i := 28) rfl rfl rfl rfl rfl (by kernel_rfl) ?_)))))))))
            refine VA.t (i := 29) (v := .bool false) rfl (t_pick (b := false) rfl rfl (fun h => by cases h) (fun _ => (fun _ _ => rfl))) (.inr ⟨_, _, _, rfl, rfl, rfl⟩) (by kernel_rfl) (VA.t (i := 30) (v := .bool false) rfl (t_pick (b := false) rfl rfl (fun h => by cases h) (fun _ => rfl)) (.inl rfl) (by kernel_rfl) (VA.done (by kernel_rfl) (thenQ_normal (VW.subK (.c 0 rfl (.c 5 rfl (.c 6 rfl (.c 7 rfl (.c 18 rfl (.c 19 rfl (.c 20 rfl (.c 23 rfl (.c 24 rfl (.c 25 rfl (.c 28 rfl (.c 29 rfl (.c 30 rfl (.c 31 rfl (.c 32 rfl (.c 33 rfl (.c 34 rfl (.c 35 rfl (.c 36 rfl (.c 37 rfl (.c 38 rfl (.c 39 rfl (.c 40 rfl (.c 41 rfl (.c 42 rfl .n))))))))))))))))))))))))) rfl (VW.condF rfl (VW.skip (blockQ_normal (thenQ_normal (VW.subK (.c 0 rfl (.c 5 rfl (.c 6 rfl (.c 7 rfl (.c 18 rfl (.c 19 rfl (.c 20 rfl (.c 23 rfl (.c 24 rfl (.c 25 rfl (.c 28 rfl (.c 29 rfl (.c 30 rfl (.c 31 rfl (.c 32 rfl (.c 33 rfl (.c 34 rfl (.c 35 rfl (.c 36 rfl (.c 37 rfl (.c 38 rfl (.c 39 rfl (.c 40 rfl (.c 41 rfl .n)))))))))))))))))))))))) rfl ?_)))))))))
            refine VW.region (VO.t (v := .int .i64 (w64 (x_65 + 1))) (t_add rfl rfl (fun _ _ => rfl) rfl) rfl rfl (VO.t (t_move rfl rfl) rfl rfl (VO.nil (thenQ_normal (VL.round ?_)))))
            refine VW.subK (.c 0 rfl (.c 5 rfl (.c 6 rfl (.c 7 rfl .n)))) rfl (VW.hsub (A := hq [] []) (hq_sub (.cons _ .slnil) .slnil) ?_)
            exact ih _ _ h hx0 hx1
  · replace h := iteF h hc_75
    refine VW.subK (.c 0 rfl .n) rfl (VW.exit (thenQ_exit (thenQ_exit ?_)))
    have h := Option.some.inj h
    subst h
    exact hx0  rfl

theorem set_Valid_ok (a0 : List Pr) (r : Bool) (h : PL.set_Valid a0 = some r) :
    VCalls Try.prog 18 [.sl .fz (a0.map Pr.c)] (hq [] []) (fun v H => .bool r = v ∧ H = hq [] []) := by
  unfold PL.set_Valid at h
  refine VCalls.of_body 47 [2] Try.func18 rfl rfl rfl (Nat.le_of_ble_eq_true rfl) (VW.subK (.c 0 rfl .n) rfl (VW.seq (VW.region (VO.t (v := .bool false) (t_assign rfl (fun _ _ => rfl)) rfl rfl (VO.nil (thenQ_normal (VW.subK (.c 0 rfl .n) rfl (VW.seq (VW.seq ?_)))))))))
  refine VW.region (VO.t (t_move rfl rfl) rfl rfl (VO.t (v := .int .i64 (a0.length : Int)) (t_len rfl ⟨_, Try.underlying22⟩ rfl (by rw [List.length_map])) rfl rfl (VO.t (v := .int .i64 0) (t_move rfl (fun _ _ => rfl)) rfl rfl (VO.nil (thenQ_normal (VW.block (VW.subK (.c 0 rfl (.c 5 rfl (.c 6 rfl (.c 7 rfl .n)))) rfl ?_)))))))
  obtain ⟨o_84, hx_85, h⟩ := obind h
  refine VW.loopL (set_Valid.l0_ok a0 _ _ hx_85 ?_ ?_)
  · intro ho_
    subst ho_
    try dsimp only at h
    refine blockQ_hit (thenQ_normal (VW.seq (VW.region (VO.t (t_move rfl rfl) rfl rfl (VO.t (v := .int .i64 (a0.length : Int)) (t_len rfl ⟨_, Try.underlying22⟩ rfl (by rw [List.length_map])) rfl rfl (VO.t (v := .bool (decide ((a0.length : Int) ≤ 100))) (t_cmp rfl rfl rfl (fun _ _ => rfl) rfl) rfl rfl (VO.t (v := .bool (decide ((a0.length : Int) ≤ 100))) (t_assign rfl rfl) rfl rfl (VO.nil (thenQ_normal ?_)))))))))
    refine VW.subK (.c 2 rfl .n) rfl (VW.ret ?_)
    have h := Option.some.inj h
    subst h
    exact ⟨.inr rfl, rfl, _, .bool (decide ((a0.length : Int) ≤ 100)), hq [] [], rfl, VLe.refl _, hq_sub .slnil .slnil, rfl, rfl⟩
  · intro ho_
    subst ho_
    try dsimp only at h
    refine blockQ_ret (thenQ_ret ?_)
    have h := Option.some.inj h
    subst h
    exact ⟨.inr rfl, rfl, _, .bool false, hq [] [], rfl, VLe.refl _, hq_sub .slnil .slnil, rfl, rfl⟩

theorem set_Size.l0_ok (a0 : List Pr) {Q : Exit → Env → HH → Prop} :
    ∀ (n_116 : Int) (x_117 : Int) (o : Int), PL.set_Size.l0 a0 n_116 x_117 = some o →
    ∀ (hx0 : ∀ (n_121 : Int), n_121 = o → Q (.exit 0) ⟨[(4, .int .i64 n_121)], []⟩ (hq [] [])), VW Try.prog 26 (codeAt [1, 1, 1, 0, 1, 0, 0] (bodyOf Try.f14)) (thenQ (VL Try.prog 26 (codeAt [1, 1, 1, 0, 1, 0, 0] (bodyOf Try.f14)) Q) Q) ⟨[(4, .int .i64 n_116), (10, .sl .fz (a0.map Pr.c)), (11, .int .i64 (a0.length : Int)), (12, .int .i64 x_117)], []⟩ (hq [] []) := by
  refine PL.set_Size.l0.partial_correctness a0 (motive := fun n_116 x_117 o => ∀ (hx0 : ∀ (n_121 : Int), n_121 = o → Q (.exit 0) ⟨[(4, .int .i64 n_121)], []⟩ (hq [] [])), VW Try.prog 26 (codeAt [1, 1, 1, 0, 1, 0, 0] (bodyOf Try.f14)) (thenQ (VL Try.prog 26 (codeAt [1, 1, 1, 0, 1, 0, 0] (bodyOf Try.f14)) Q) Q) ⟨[(4, .int .i64 n_116), (10, .sl .fz (a0.map Pr.c)), (11, .int .i64 (a0.length : Int)), (12, .int .i64 x_117)], []⟩ (hq [] [])) ?_
  intro _ ih n_116 x_117 o h hx0
  refine VW.seq (VW.region (VO.t (v := .bool (decide (x_117 < (a0.length : Int)))) (t_cmp rfl rfl rfl rfl rfl) rfl rfl (VO.nil (thenQ_normal (VW.seq ?_)))))
  refine VW.cond (b := (decide (x_117 < (a0.length : Int)))) rfl (fun hc_122 => ?_) (fun hc_122 => ?_)
  · replace h := iteT h hc_122
    refine VW.skip (thenQ_normal (VW.subK (.c 4 rfl (.c 10 rfl (.c 11 rfl (.c 12 rfl .n)))) rfl (VW.seq (VW.block (VW.seq (VW.region ?_))))))
    obtain ⟨c_123, hc_123, h⟩ := obind h
    refine VO.t (v := .vptr [.int .i64 c_123.x0, .int .i64 c_123.x1]) (t_indexAddr rfl sl22 rfl rfl (getI_some hc_123).1 (map_get (getI_some hc_123).2 (Pr.c_eq c_123)) rfl) rfl rfl (VO.r (v := .agg [.int .i64 c_123.x0, .int .i64 c_123.x1]) (r_load_v rfl sz49 rfl rfl) rfl rfl (VO.w (fun v H' => ∃ ob_124, .ptr ob_124 0 = v ∧ H' = hq ([[(ob_124, .cells [.int .i64 0, .int .i64 0])]]) []) (w_alloc_q rfl zt49 (fun ob => ⟨ob, rfl, rfl⟩)) rfl rfl ?_))
    rintro _ _ ⟨ob_124, rfl, rfl⟩
    refine VO.w (fun v H' => .any = v ∧ H' = hq ([[(ob_124, .cells [.int .i64 c_123.x0, .int .i64 c_123.x1])]]) []) (w_store_q (i := 0) rfl sz49 rfl rfl rfl rfl rfl (Nat.le_of_ble_eq_true rfl) ⟨rfl, rfl⟩) rfl rfl ?_
    rintro _ _ ⟨rfl, rfl⟩
    refine VO.nil (thenQ_normal (VW.subK (.c 4 rfl (.c 10 rfl (.c 11 rfl (.c 12 rfl (.c 6 rfl .n))))) rfl (VW.region (VO.t (t_move rfl rfl) rfl rfl (VO.t (v := .ptr ob_124 1) (t_indexAddr_parr rfl ar49 rfl (fun _ _ => rfl) (by decide) (by decide) rfl) rfl rfl (VO.r (v := .int .i64 c_123.x1) (r_load_q (i := 0) rfl sz3 rfl rfl rfl) rfl rfl (VO.t (v := .ptr ob_124 0) (t_indexAddr_parr rfl ar49 rfl (fun _ _ => rfl) (by decide) (by decide) rfl) rfl rfl (VO.r (v := .int .i64 c_123.x0) (r_load_q (i := 0) rfl sz3 rfl rfl rfl) rfl rfl (VO.t (v := .int .i64 (w64 (c_123.x1 - c_123.x0))) (t_sub rfl rfl rfl rfl) rfl rfl ?_)))))))))
    refine VO.t (v := .int .i64 (w64 ((w64 (c_123.x1 - c_123.x0)) + 1))) (t_add rfl rfl (fun _ _ => rfl) rfl) rfl rfl (VO.t (v := .int .i64 (w64 (n_116 + (w64 ((w64 (c_123.x1 - c_123.x0)) + 1))))) (t_add rfl rfl rfl rfl) rfl rfl (VO.t (v := .int .i64 (w64 (n_116 + (w64 ((w64 (c_123.x1 - c_123.x0)) + 1))))) (t_assign rfl rfl) rfl rfl (VO.nil (blockQ_normal (thenQ_normal (VW.subK (.c 10 rfl (.c 11 rfl (.c 12 rfl (.c 4 rfl .n)))) rfl (VW.hsub (A := hq [] []) (hq_sub (.cons _ .slnil) .slnil) (VW.region (VO.t (v := .int .i64 (w64 (x_117 + 1))) (t_add rfl rfl (fun _ _ => rfl) rfl) rfl rfl ?_)))))))))
    refine VO.t (t_move rfl rfl) rfl rfl (VO.nil (thenQ_normal (VL.round ?_)))
    refine VW.subK (.c 4 rfl (.c 10 rfl (.c 11 rfl (.c 12 rfl .n)))) rfl ?_
    exact ih _ _ _ h hx0
  · replace h := iteF h hc_122
    refine VW.subK (.c 4 rfl .n) rfl (VW.exit (thenQ_exit (thenQ_exit ?_)))
    have h := Option.some.inj h
    subst h
    exact hx0 _ rfl

theorem set_Size_ok (a0 : List Pr) (r : Int × Int) (h : PL.set_Size a0 = some r) :
    VCalls Try.prog 14 [.sl .fz (a0.map Pr.c)] (hq [] []) (fun v H => .tup [.int .i64 r.1, .int .i64 r.2] = v ∧ H = hq [] []) := by
  unfold PL.set_Size at h
  refine VCalls.of_body 26 [2, 3] Try.func14 rfl rfl rfl (Nat.le_of_ble_eq_true rfl) (VW.subK (.c 0 rfl .n) rfl (VW.seq (VW.region (VO.t (v := .int .i64 0) (t_assign rfl (fun _ _ => rfl)) rfl rfl (VO.t (v := .int .i64 0) (t_assign rfl (fun _ _ => rfl)) rfl rfl (VO.nil (thenQ_normal (VW.subK (.c 0 rfl .n) rfl (VW.seq ?_)))))))))
  refine VW.seq (VW.region (VO.t (t_move rfl rfl) rfl rfl ?_))
  obtain ⟨rv_86, hx_87, h⟩ := obind h
  refine VO.w (fun v H' => .bool rv_86 = v ∧ H' = hq [] []) (w_call_q (sa := []) (sg := []) (tks := []) rfl fn18 rfl ⟨_, _, rfl, rfl, rfl⟩ (set_Valid_ok _ _ hx_87) (by rintro v H' ⟨rfl, rfl⟩; exact ⟨[], rfl, rfl, rfl⟩)) rfl rfl ?_
  rintro _ _ ⟨rfl, rfl⟩
  refine VO.t (v := .bool (!rv_86)) (t_not rfl rfl rfl) rfl rfl (VO.nil (thenQ_normal (VW.subK (.c 0 rfl (.c 9 rfl .n)) rfl ?_)))
  refine VW.cond (b := (!rv_86)) rfl (fun hc_88 => ?_) (fun hc_88 => ?_)
  · replace h := iteT h hc_88
    refine VW.seq (VW.region (VO.t (v := .int .i64 0) (t_assign rfl (fun _ _ => rfl)) rfl rfl (VO.t (v := .int .i64 1) (t_assign rfl (fun _ _ => rfl)) rfl rfl (VO.nil (thenQ_normal (VW.subK (.c 2 rfl (.c 3 rfl .n)) rfl (VW.ret (thenQ_ret ?_))))))))
    have h := Option.some.inj h
    subst h
    exact ⟨.inr rfl, rfl, _, .tup [.int .i64 0, .int .i64 1], hq [] [], ⟨_, _, rfl, rfl, rfl⟩, VLe.tup ⟨VLe.refl _, VLe.refl _, trivial⟩, hq_sub .slnil .slnil, rfl, rfl⟩
  · replace h := iteF h hc_88
    refine VW.skip (thenQ_normal (VW.subK (.c 0 rfl .n) rfl (VW.seq (VW.region (VO.t (v := .int .i64 0) (t_assign rfl (fun _ _ => rfl)) rfl rfl (VO.nil (thenQ_normal (VW.seq (VW.seq ?_)))))))))
    refine VW.region (VO.t (t_move rfl rfl) rfl rfl (VO.t (v := .int .i64 (a0.length : Int)) (t_len rfl ⟨_, Try.underlying22⟩ rfl (by rw [List.length_map])) rfl rfl (VO.t (v := .int .i64 0) (t_move rfl (fun _ _ => rfl)) rfl rfl (VO.nil (thenQ_normal (VW.subK (.c 4 rfl (.c 10 rfl (.c 11 rfl (.c 12 rfl .n)))) rfl (VW.block (VW.subK (.c 4 rfl (.c 10 rfl (.c 11 rfl (.c 12 rfl .n)))) rfl ?_))))))))
    obtain ⟨o_125, hx_126, h⟩ := obind h
    refine VW.loopL (set_Size.l0_ok a0 _ _ _ hx_126 ?_)
    · intro n_121 ho_
      subst ho_
      try dsimp only at h
      refine blockQ_hit (thenQ_normal (VW.seq (VW.region (VO.t (t_move rfl rfl) rfl rfl (VO.t (v := .int .i64 n_121) (t_assign rfl rfl) rfl rfl (VO.t (v := .int .i64 0) (t_assign rfl (fun _ _ => rfl)) rfl rfl (VO.nil (thenQ_normal (VW.subK (.c 2 rfl (.c 3 rfl .n)) rfl ?_)))))))))
      refine VW.ret ?_
      have h := Option.some.inj h
      subst h
      exact ⟨.inr rfl, rfl, _, .tup [.int .i64 n_121, .int .i64 0], hq [] [], ⟨_, _, rfl, rfl, rfl⟩, VLe.tup ⟨VLe.refl _, VLe.refl _, trivial⟩, hq_sub .slnil .slnil, rfl, rfl⟩

theorem set_size_ok (a0 : Node) (r : Int × Int) (h : PL.set_size a0 = some r) :
    VCalls Try.prog 51 [.agg [.int .i64 a0.Op, .int .i64 a0.Lo, .int .i64 a0.Hi, .sl .fz (a0.Kids.map Node.c)]] (hq [] []) (fun v H => .tup [.int .i64 r.1, .int .i64 r.2] = v ∧ H = hq [] []) := by
  revert h
  refine (PL.set_size.l0.mutual_partial_correctness (motive_1 := fun a0 deep_177 nodes_178 x_179 o => ∀ (Q : Exit → Env → HH → Prop) (hx0 : ∀ (deep_186 : Int) (nodes_187 : Int), (deep_186, nodes_187) = o → Q (.exit 0) ⟨[(3, .int .i64 deep_186), (2, .int .i64 nodes_187)], []⟩ (hq [] [])), VW Try.prog 30 (codeAt [1, 1, 0, 1, 0, 0] (bodyOf Try.f51)) (thenQ (VL Try.prog 30 (codeAt [1, 1, 0, 1, 0, 0] (bodyOf Try.f51)) Q) Q) ⟨[(3, .int .i64 deep_177), (2, .int .i64 nodes_178), (9, .sl .fz (a0.Kids.map Node.c)), (10, .int .i64 (a0.Kids.length : Int)), (11, .int .i64 x_179)], []⟩ (hq [] [])) (motive_2 := fun a0 r => VCalls Try.prog 51 [.agg [.int .i64 a0.Op, .int .i64 a0.Lo, .int .i64 a0.Hi, .sl .fz (a0.Kids.map Node.c)]] (hq [] []) (fun v H => .tup [.int .i64 r.1, .int .i64 r.2] = v ∧ H = hq [] [])) ?_ ?_).2 a0 r
  · intro _ _ ih_set_size_l0 ih_set_size a0 deep_177 nodes_178 x_179 o h Q hx0
    refine VW.seq (VW.region (VO.t (v := .bool (decide (x_179 < (a0.Kids.length : Int)))) (t_cmp rfl rfl rfl rfl rfl) rfl rfl (VO.nil (thenQ_normal (VW.seq ?_)))))
    refine VW.cond (b := (decide (x_179 < (a0.Kids.length : Int)))) rfl (fun hc_188 => ?_) (fun hc_188 => ?_)
    · replace h := iteT h hc_188
      refine VW.skip (thenQ_normal (VW.subK (.c 3 rfl (.c 2 rfl (.c 9 rfl (.c 10 rfl (.c 11 rfl .n))))) rfl (VW.seq (VW.block (VW.seq (VW.region ?_))))))
      obtain ⟨c_189, hc_189, h⟩ := obind h
      refine VO.t (v := .vptr [.int .i64 c_189.Op, .int .i64 c_189.Lo, .int .i64 c_189.Hi, .sl .fz (c_189.Kids.map Node.c)]) (t_indexAddr rfl sl40 rfl rfl (getI_some hc_189).1 (map_get (getI_some hc_189).2 (Node.c_eq c_189)) rfl) rfl rfl (VO.r (v := .agg [.int .i64 c_189.Op, .int .i64 c_189.Lo, .int .i64 c_189.Hi, .sl .fz (c_189.Kids.map Node.c)]) (r_load_v rfl sz42 rfl rfl) rfl rfl (VO.w (fun v H' => ∃ ob_190, .ptr ob_190 0 = v ∧ H' = hq ([[(ob_190, .cells [.int .i64 0, .int .i64 0, .int .i64 0, .sl .nl []])]]) []) (w_alloc_q rfl zt42 (fun ob => ⟨ob, rfl, rfl⟩)) rfl rfl ?_))
      rintro _ _ ⟨ob_190, rfl, rfl⟩
      refine VO.w (fun v H' => .any = v ∧ H' = hq ([[(ob_190, .cells [.int .i64 c_189.Op, .int .i64 c_189.Lo, .int .i64 c_189.Hi, .sl .fz (c_189.Kids.map Node.c)])]]) []) (w_store_q (i := 0) rfl sz42 rfl rfl rfl rfl rfl (Nat.le_of_ble_eq_true rfl) ⟨rfl, rfl⟩) rfl rfl ?_
      rintro _ _ ⟨rfl, rfl⟩
      refine VO.nil (thenQ_normal (VW.subK (.c 3 rfl (.c 2 rfl (.c 9 rfl (.c 10 rfl (.c 11 rfl (.c 5 rfl .n)))))) rfl (VW.seq (VW.region (VO.r (v := .agg [.int .i64 c_189.Op, .int .i64 c_189.Lo, .int .i64 c_189.Hi, .sl .fz (c_189.Kids.map Node.c)]) (r_load_q (i := 0) rfl sz42 rfl rfl rfl) rfl rfl ?_)))))
      obtain ⟨⟨rv_191, rv_192⟩, hx_193, h⟩ := obind h
      try dsimp only at h
      refine VO.w (fun v H' => .tup [.int .i64 rv_191, .int .i64 rv_192] = v ∧ H' = hq ([[(ob_190, .cells [.int .i64 c_189.Op, .int .i64 c_189.Lo, .int .i64 c_189.Hi, .sl .fz (c_189.Kids.map Node.c)])]]) []) (w_call_q (sa := []) (sg := [[(ob_190, .cells [.int .i64 c_189.Op, .int .i64 c_189.Lo, .int .i64 c_189.Hi, .sl .fz (c_189.Kids.map Node.c)])]]) (tks := []) rfl fn51 rfl ⟨_, _, rfl, rfl, rfl⟩ (ih_set_size _ _ hx_193) (by rintro v H' ⟨rfl, rfl⟩; exact ⟨[], rfl, rfl, rfl⟩)) rfl rfl ?_
      rintro _ _ ⟨rfl, rfl⟩
      refine VO.t (t_move rfl rfl) rfl rfl (VO.t (v := .int .i64 rv_191) (t_extract rfl rfl rfl) rfl rfl (VO.t (v := .int .i64 rv_192) (t_extract rfl rfl rfl) rfl rfl (VO.t (v := .int .i64 rv_191) (t_assign rfl rfl) rfl rfl (VO.t (v := .int .i64 rv_192) (t_assign rfl rfl) rfl rfl (VO.nil (thenQ_normal (VW.subK (.c 3 rfl (.c 2 rfl (.c 9 rfl (.c 10 rfl (.c 11 rfl (.c 6 rfl (.c 7 rfl .n))))))) rfl (VW.hsub (A := hq [] []) (hq_sub (.cons _ .slnil) .slnil) (VW.seq ?_)))))))))
      refine VW.region (VO.t (t_move rfl rfl) rfl rfl (VO.t (t_move rfl rfl) rfl rfl (VO.t (v := .int .i64 (w64 (nodes_178 + rv_191))) (t_add rfl rfl rfl rfl) rfl rfl (VO.t (v := .int .i64 (w64 (nodes_178 + rv_191))) (t_assign rfl rfl) rfl rfl (VO.nil (thenQ_normal (VW.subK (.c 3 rfl (.c 9 rfl (.c 10 rfl (.c 11 rfl (.c 7 rfl (.c 2 rfl .n)))))) rfl (VW.region (VO.t (t_move rfl rfl) rfl rfl ?_)))))))))
      refine VO.t (t_move rfl rfl) rfl rfl (VO.t (v := .int .i64 (max deep_177 rv_192)) (t_max rfl rfl rfl rfl) rfl rfl (VO.t (v := .int .i64 (max deep_177 rv_192)) (t_assign rfl rfl) rfl rfl (VO.nil (blockQ_normal (thenQ_normal (VW.subK (.c 9 rfl (.c 10 rfl (.c 11 rfl (.c 2 rfl (.c 3 rfl .n))))) rfl (VW.region (VO.t (v := .int .i64 (w64 (x_179 + 1))) (t_add rfl rfl (fun _ _ => rfl) rfl) rfl rfl (VO.t (t_move rfl rfl) rfl rfl ?_)))))))))
      refine VO.nil (thenQ_normal (VL.round ?_))
      refine VW.subK (.c 3 rfl (.c 2 rfl (.c 9 rfl (.c 10 rfl (.c 11 rfl .n))))) rfl ?_
      exact ih_set_size_l0 _ _ _ _ _ h _ hx0
    · replace h := iteF h hc_188
      refine VW.subK (.c 3 rfl (.c 2 rfl .n)) rfl (VW.exit (thenQ_exit (thenQ_exit ?_)))
      have h := Option.some.inj h
      subst h
      exact hx0 _ _ rfl
  · intro _ ih_set_size_l0 a0 r h 
    refine VCalls.of_body 30 [2, 3] Try.func51 rfl rfl rfl (Nat.le_of_ble_eq_true rfl) (VW.subK (.c 0 rfl .n) rfl (VW.seq (VW.region (VO.w (fun v H' => ∃ ob_127, .ptr ob_127 0 = v ∧ H' = hq ([[(ob_127, .cells [.int .i64 a0.Op, .int .i64 a0.Lo, .int .i64 a0.Hi, .sl .fz (a0.Kids.map Node.c)])]]) []) (w_box_q rfl rfl rfl (fun ob => ⟨ob, rfl, rfl⟩)) rfl rfl ?_))))
    rintro _ _ ⟨ob_127, rfl, rfl⟩
    refine VO.t (v := .int .i64 0) (t_assign rfl (fun _ _ => rfl)) rfl rfl (VO.t (v := .int .i64 0) (t_assign rfl (fun _ _ => rfl)) rfl rfl (VO.nil (thenQ_normal (VW.subK (.c 1 rfl (.c 3 rfl .n)) rfl (VW.seq (VW.region (VO.t (v := .int .i64 1) (t_assign rfl (fun _ _ => rfl)) rfl rfl (VO.nil (thenQ_normal ?_)))))))))
    refine VW.seq (VW.seq (VW.region (VO.t (v := .ptr ob_127 3) (t_fieldAddr_ptr rfl fi42_3 rfl rfl) rfl rfl (VO.r (v := .sl .fz (a0.Kids.map Node.c)) (r_load_q (i := 0) rfl sz40 rfl rfl rfl) rfl rfl (VO.t (v := .int .i64 (a0.Kids.length : Int)) (t_len rfl ⟨_, Try.underlying40⟩ rfl (by rw [List.length_map])) rfl rfl (VO.t (v := .int .i64 0) (t_move rfl (fun _ _ => rfl)) rfl rfl (VO.nil (thenQ_normal (VW.subK (.c 3 rfl (.c 2 rfl (.c 9 rfl (.c 10 rfl (.c 11 rfl .n))))) rfl ?_)))))))))
    refine VW.hsub (A := hq [] []) (hq_sub (.cons _ .slnil) .slnil) (VW.block (VW.subK (.c 3 rfl (.c 2 rfl (.c 9 rfl (.c 10 rfl (.c 11 rfl .n))))) rfl ?_))
    obtain ⟨o_194, hx_195, h⟩ := obind h
    refine VW.loopL (ih_set_size_l0 _ _ _ _ _ hx_195 _ ?_)
    · intro deep_186 nodes_187 ho_
      subst ho_
      try dsimp only at h
      refine blockQ_hit (thenQ_normal (VW.seq (VW.region (VO.t (t_move rfl rfl) rfl rfl (VO.t (t_move rfl rfl) rfl rfl (VO.t (v := .int .i64 (w64 (deep_186 + 1))) (t_add rfl rfl (fun _ _ => rfl) rfl) rfl rfl (VO.t (v := .int .i64 nodes_187) (t_assign rfl rfl) rfl rfl (VO.t (v := .int .i64 (w64 (deep_186 + 1))) (t_assign rfl rfl) rfl rfl (VO.nil ?_)))))))))
      refine thenQ_normal (VW.subK (.c 2 rfl (.c 3 rfl .n)) rfl (VW.ret ?_))
      have h := Option.some.inj h
      subst h
      exact ⟨.inr rfl, rfl, _, .tup [.int .i64 nodes_187, .int .i64 (w64 (deep_186 + 1))], hq [] [], ⟨_, _, rfl, rfl, rfl⟩, VLe.tup ⟨VLe.refl _, VLe.refl _, trivial⟩, hq_sub .slnil .slnil, rfl, rfl⟩

theorem set_formed_ok (a0 : Node) (r : Bool) (h : PL.set_formed a0 = some r) :
    VCalls Try.prog 52 [.agg [.int .i64 a0.Op, .int .i64 a0.Lo, .int .i64 a0.Hi, .sl .fz (a0.Kids.map Node.c)]] (hq [] []) (fun v H => .bool r = v ∧ H = hq [] []) := by
  revert h
  refine (PL.set_formed_1.mutual_partial_correctness (motive_1 := fun a0 r => VCalls Try.prog 60 [.agg [.int .i64 a0.Op, .int .i64 a0.Lo, .int .i64 a0.Hi, .sl .fz (a0.Kids.map Node.c)]] (hq [] []) (fun v H => .bool r = v ∧ H = hq [] [])) (motive_2 := fun a0 r => VCalls Try.prog 52 [.agg [.int .i64 a0.Op, .int .i64 a0.Lo, .int .i64 a0.Hi, .sl .fz (a0.Kids.map Node.c)]] (hq [] []) (fun v H => .bool r = v ∧ H = hq [] [])) (motive_3 := fun a0 r => VCalls Try.prog 59 [.sl .fz (a0.map Node.c), .func (.func 60) [] []] (hq [] []) (fun v H => .bool r = v ∧ H = hq [] [])) (motive_4 := fun a0 r => VCalls Try.prog 71 [.sl .fz (a0.map Node.c), .func (.func 60) [] []] (hq [] []) (fun v H => .int .i64 r = v ∧ H = hq [] [])) (motive_5 := fun a0 x_223 o => ∀ (Q : Exit → Env → HH → Prop) (hx0 : Sum.inl () = o → Q (.exit 0) ⟨[], []⟩ (hq [] [])) (hx1 : ∀ (x_229 : Int), Sum.inr x_229 = o → Q .ret ⟨[(4, .int .i64 x_229)], []⟩ (hq [] [])), VW Try.prog 19 (codeAt [1, 0, 1, 0, 0] (bodyOf Try.f71)) (thenQ (VL Try.prog 19 (codeAt [1, 0, 1, 0, 0] (bodyOf Try.f71)) Q) Q) ⟨[(0, .sl .fz (a0.map Node.c)), (1, .func (.func 60) [] []), (7, .int .i64 (a0.length : Int)), (8, .int .i64 x_223)], []⟩ (hq [] [])) ?_ ?_ ?_ ?_ ?_).2.1 a0 r
  · intro _ ih_set_formed a0 r h 
    refine VCalls.of_body 6 [2] Try.func60 rfl rfl rfl (Nat.le_of_ble_eq_true rfl) (VW.subK (.c 0 rfl .n) rfl (VW.seq (VW.region (VO.w (fun v H' => ∃ ob_196, .ptr ob_196 0 = v ∧ H' = hq ([[(ob_196, .cells [.int .i64 a0.Op, .int .i64 a0.Lo, .int .i64 a0.Hi, .sl .fz (a0.Kids.map Node.c)])]]) []) (w_box_q rfl rfl rfl (fun ob => ⟨ob, rfl, rfl⟩)) rfl rfl ?_))))
    rintro _ _ ⟨ob_196, rfl, rfl⟩
    refine VO.t (v := .bool false) (t_assign rfl (fun _ _ => rfl)) rfl rfl (VO.nil (thenQ_normal (VW.subK (.c 1 rfl .n) rfl (VW.seq (VW.region (VO.r (v := .agg [.int .i64 a0.Op, .int .i64 a0.Lo, .int .i64 a0.Hi, .sl .fz (a0.Kids.map Node.c)]) (r_load_q (i := 0) rfl sz42 rfl rfl rfl) rfl rfl ?_))))))
    obtain ⟨rv_197, hx_198, h⟩ := obind h
    refine VO.w (fun v H' => .bool rv_197 = v ∧ H' = hq ([[(ob_196, .cells [.int .i64 a0.Op, .int .i64 a0.Lo, .int .i64 a0.Hi, .sl .fz (a0.Kids.map Node.c)])]]) []) (w_call_q (sa := []) (sg := [[(ob_196, .cells [.int .i64 a0.Op, .int .i64 a0.Lo, .int .i64 a0.Hi, .sl .fz (a0.Kids.map Node.c)])]]) (tks := []) rfl fn52 rfl ⟨_, _, rfl, rfl, rfl⟩ (ih_set_formed _ _ hx_198) (by rintro v H' ⟨rfl, rfl⟩; exact ⟨[], rfl, rfl, rfl⟩)) rfl rfl ?_
    rintro _ _ ⟨rfl, rfl⟩
    refine VO.t (v := .bool (!rv_197)) (t_not rfl rfl rfl) rfl rfl (VO.t (v := .bool (!rv_197)) (t_assign rfl rfl) rfl rfl (VO.nil (thenQ_normal (VW.subK (.c 2 rfl .n) rfl (VW.hsub (A := hq [] []) (hq_sub (.cons _ .slnil) .slnil) (VW.ret ?_))))))
    have h := Option.some.inj h
    subst h
    exact ⟨.inr rfl, rfl, _, .bool (!rv_197), hq [] [], rfl, VLe.refl _, hq_sub .slnil .slnil, rfl, rfl⟩
  · intro _ ih_slices_ContainsFunc_of_set_formed_1 a0 r h 
    refine VCalls.of_body 81 [2] Try.func52 rfl rfl rfl (Nat.le_of_ble_eq_true rfl) (VW.subK (.c 0 rfl .n) rfl (VW.seq (VW.region (VO.w (fun v H' => ∃ ob_239, .ptr ob_239 0 = v ∧ H' = hq ([[(ob_239, .cells [.int .i64 a0.Op, .int .i64 a0.Lo, .int .i64 a0.Hi, .sl .fz (a0.Kids.map Node.c)])]]) []) (w_box_q rfl rfl rfl (fun ob => ⟨ob, rfl, rfl⟩)) rfl rfl ?_))))
    rintro _ _ ⟨ob_239, rfl, rfl⟩
    refine VO.t (v := .bool false) (t_assign rfl (fun _ _ => rfl)) rfl rfl (VO.nil (thenQ_normal (VW.subK (.c 1 rfl .n) rfl (VW.seq ?_))))
    obtain ⟨o_244, h, hx_242⟩ := obind h
    refine VW.joinQ (E := Bool) (I := fun ok_241 => ok_241 = o_244 ∧ True) (env' := fun ok_241 => ⟨[(1, .ptr ob_239 0), (3, .bool ok_241)], []⟩) (H' := fun ok_241 => hq ([[(ob_239, .cells [.int .i64 a0.Op, .int .i64 a0.Lo, .int .i64 a0.Hi, .sl .fz (a0.Kids.map Node.c)])]]) []) ?_ (fun J_243 => ?_)
    · rintro ok_241 ⟨ho_, _⟩
      subst ho_
      replace h := hx_242
      clear hx_242
      try dsimp only at h
      show VW _ _ _ _ ⟨[(1, .ptr ob_239 0), (3, .bool ok_241)], []⟩ (hq ([[(ob_239, .cells [.int .i64 a0.Op, .int .i64 a0.Lo, .int .i64 a0.Hi, .sl .fz (a0.Kids.map Node.c)])]]) [])
      refine VW.seq (VW.seq (VW.region (VO.t (v := .ptr ob_239 0) (t_fieldAddr_ptr rfl fi42_0 rfl rfl) rfl rfl (VO.r (v := .int .i64 a0.Op) (r_load_q (i := 0) rfl sz3 rfl rfl rfl) rfl rfl (VO.nil (thenQ_normal (VW.subK (.c 1 rfl (.c 3 rfl (.c 13 rfl .n))) rfl ?_)))))))
      obtain ⟨o_266, h, hx_264⟩ := obind h
      refine VW.joinQ (E := Bool) (I := fun ok_263 => Sum.inl ok_263 = o_266 ∧ True) (env' := fun ok_263 => ⟨[(1, .ptr ob_239 0), (3, .bool ok_263)], []⟩) (H' := fun ok_263 => hq ([[(ob_239, .cells [.int .i64 a0.Op, .int .i64 a0.Lo, .int .i64 a0.Hi, .sl .fz (a0.Kids.map Node.c)])]]) []) ?_ (fun J_265 => ?_)
      · rintro ok_263 ⟨ho_, _⟩
        subst ho_
        replace h := hx_264
        clear hx_264
        try dsimp only at h
        show VW _ _ _ _ ⟨[(1, .ptr ob_239 0), (3, .bool ok_263)], []⟩ (hq ([[(ob_239, .cells [.int .i64 a0.Op, .int .i64 a0.Lo, .int .i64 a0.Hi, .sl .fz (a0.Kids.map Node.c)])]]) [])
        refine VW.seq (VW.region (VO.t (t_move rfl rfl) rfl rfl (VO.t (t_move rfl rfl) rfl rfl ?_)))
        refine VO.caseB (d := 75) (b := ok_263) rfl (fun hc_267 => ?_) (fun hc_267 => ?_)
        · replace h := iteT h hc_267
          refine VO.gt (v := .ptr ob_239 3) (t_fieldAddr_ptr rfl fi42_3 rfl rfl) rfl rfl rfl rfl (VO.gr (v := .sl .fz (a0.Kids.map Node.c)) (r_load_q (i := 0) rfl sz40 rfl rfl rfl) rfl rfl rfl rfl ?_)
          obtain ⟨rv_268, hx_269, h⟩ := obind h
          refine VO.gw (fun v H' => .bool rv_268 = v ∧ H' = hq ([[(ob_239, .cells [.int .i64 a0.Op, .int .i64 a0.Lo, .int .i64 a0.Hi, .sl .fz (a0.Kids.map Node.c)])]]) []) (w_call_q (sa := []) (sg := [[(ob_239, .cells [.int .i64 a0.Op, .int .i64 a0.Lo, .int .i64 a0.Hi, .sl .fz (a0.Kids.map Node.c)])]]) (tks := []) rfl fn59 rfl ⟨_, _, rfl, rfl, _, _, rfl, rfl, rfl⟩ (ih_slices_ContainsFunc_of_set_formed_1 _ _ hx_269) (by rintro v H' ⟨rfl, rfl⟩; exact ⟨[], rfl, rfl, rfl⟩)) rfl rfl rfl rfl ?_
          rintro _ _ ⟨rfl, rfl⟩
          refine VO.gt (v := .bool (!rv_268)) (t_not rfl rfl rfl) rfl rfl rfl rfl (VO.t (v := .bool (!rv_268)) (t_pick (b := true) rfl rfl (fun _ => rfl) (fun h => by cases h)) rfl rfl (VO.t (v := .bool (!rv_268)) (t_assign rfl rfl) rfl rfl (VO.nil (thenQ_normal (VW.subK (.c 2 rfl .n) rfl (VW.hsub (A := hq [] []) (hq_sub (.cons _ .slnil) .slnil) (VW.ret ?_)))))))
          have h := Option.some.inj h
          subst h
          exact ⟨.inr rfl, rfl, _, .bool (!rv_268), hq [] [], rfl, VLe.refl _, hq_sub .slnil .slnil, rfl, rfl⟩
        · replace h := iteF h hc_267
          refine VO.gskip rfl rfl rfl rfl rfl (VO.gskip rfl rfl rfl rfl rfl (VO.gskip rfl rfl rfl rfl rfl (VO.gskip rfl rfl rfl rfl rfl (VO.t (v := .bool false) (t_pick (b := false) rfl rfl (fun h => by cases h) (fun _ => (fun _ _ => rfl))) rfl rfl (VO.t (v := .bool false) (t_assign rfl rfl) rfl rfl (VO.nil (thenQ_normal (VW.subK (.c 2 rfl .n) rfl (VW.hsub (A := hq [] []) (hq_sub (.cons _ .slnil) .slnil) ?_)))))))))
          refine VW.ret ?_
          have h := Option.some.inj h
          subst h
          exact ⟨.inr rfl, rfl, _, .bool false, hq [] [], rfl, VLe.refl _, hq_sub .slnil .slnil, rfl, rfl⟩
      · refine VW.block (VW.seq (VW.region (VO.t (v := .bool (a0.Op == 0)) (t_cmp rfl rfl rfl (fun _ _ => rfl) rfl) rfl rfl (VO.t (v := .bool (a0.Op == 0)) (t_assign rfl rfl) rfl rfl (VO.nil (thenQ_normal (VW.subK (.c 1 rfl (.c 3 rfl (.c 13 rfl (.c 14 rfl .n)))) rfl ?_)))))))
        refine VW.cond (b := (a0.Op == 0)) rfl (fun hc_270 => ?_) (fun hc_270 => ?_)
        · replace h := iteT h hc_270
          refine VW.seq (VW.region (VO.t (v := .ptr ob_239 3) (t_fieldAddr_ptr rfl fi42_3 rfl rfl) rfl rfl (VO.r (v := .sl .fz (a0.Kids.map Node.c)) (r_load_q (i := 0) rfl sz40 rfl rfl rfl) rfl rfl (VO.t (v := .int .i64 (a0.Kids.length : Int)) (t_len rfl ⟨_, Try.underlying40⟩ rfl (by rw [List.length_map])) rfl rfl (VO.t (v := .bool ((a0.Kids.length : Int) == 0)) (t_cmp rfl rfl rfl (fun _ _ => rfl) rfl) rfl rfl (VO.t (t_move rfl rfl) rfl rfl ?_))))))
          refine VO.caseB (d := 20) (b := ((a0.Kids.length : Int) == 0)) rfl (fun hc_271 => ?_) (fun hc_271 => ?_)
          · replace h := iteT h hc_271
            refine VO.gt (v := .ptr ob_239 1) (t_fieldAddr_ptr rfl fi42_1 rfl rfl) rfl rfl rfl rfl (VO.gr (v := .int .i64 a0.Lo) (r_load_q (i := 0) rfl sz3 rfl rfl rfl) rfl rfl rfl rfl (VO.gt (v := .ptr ob_239 2) (t_fieldAddr_ptr rfl fi42_2 rfl rfl) rfl rfl rfl rfl (VO.gr (v := .int .i64 a0.Hi) (r_load_q (i := 0) rfl sz3 rfl rfl rfl) rfl rfl rfl rfl (VO.gt (v := .bool (decide (a0.Lo ≤ a0.Hi))) (t_cmp rfl rfl rfl rfl rfl) rfl rfl rfl rfl (VO.t (v := .bool (decide (a0.Lo ≤ a0.Hi))) (t_pick (b := true) rfl rfl (fun _ => rfl) (fun h => by cases h)) rfl rfl (VO.t (t_move rfl rfl) rfl rfl ?_))))))
            refine VO.caseB (d := 27) (b := (decide (a0.Lo ≤ a0.Hi))) rfl (fun hc_272 => ?_) (fun hc_272 => ?_)
            · replace h := iteT h hc_272
              refine VO.gt (v := .ptr ob_239 1) (t_fieldAddr_ptr rfl fi42_1 rfl rfl) rfl rfl rfl rfl (VO.gr (v := .int .i64 a0.Lo) (r_load_q (i := 0) rfl sz3 rfl rfl rfl) rfl rfl rfl rfl (VO.gt (v := .bool (decide (a0.Lo ≥ (-1000000000000000)))) (t_cmp rfl rfl rfl (fun _ _ => rfl) rfl) rfl rfl rfl rfl (VO.t (v := .bool (decide (a0.Lo ≥ (-1000000000000000)))) (t_pick (b := true) rfl rfl (fun _ => rfl) (fun h => by cases h)) rfl rfl (VO.t (t_move rfl rfl) rfl rfl ?_))))
              refine VO.caseB (d := 32) (b := (decide (a0.Lo ≥ (-1000000000000000)))) rfl (fun hc_273 => ?_) (fun hc_273 => ?_)
              · replace h := iteT h hc_273
                refine VO.gt (v := .ptr ob_239 2) (t_fieldAddr_ptr rfl fi42_2 rfl rfl) rfl rfl rfl rfl (VO.gr (v := .int .i64 a0.Hi) (r_load_q (i := 0) rfl sz3 rfl rfl rfl) rfl rfl rfl rfl (VO.gt (v := .bool (decide (a0.Hi ≤ 1000000000000000))) (t_cmp rfl rfl rfl (fun _ _ => rfl) rfl) rfl rfl rfl rfl (VO.t (v := .bool (decide (a0.Hi ≤ 1000000000000000))) (t_pick (b := true) rfl rfl (fun _ => rfl) (fun h => by cases h)) rfl rfl (VO.t (v := .bool (decide (a0.Hi ≤ 1000000000000000))) (t_assign rfl rfl) rfl rfl (VO.nil (thenQ_normal (VW.subK (.c 2 rfl .n) rfl (VW.hsub (A := hq [] []) (hq_sub (.cons _ .slnil) .slnil) (VW.ret ?_)))))))))
                refine blockQ_ret ?_
                obtain ⟨z_274, hz_275, h⟩ := obind h
                have h := Option.some.inj h
                subst h
                try dsimp only at hx_264
                have hx_264 := Option.some.inj hx_264
                subst hx_264
                have h := hz_275
                refine thenQ_ret ?_
                have h := Option.some.inj h
                subst h
                exact ⟨.inr rfl, rfl, _, .bool (decide (a0.Hi ≤ 1000000000000000)), hq [] [], rfl, VLe.refl _, hq_sub .slnil .slnil, rfl, rfl⟩
              · replace h := iteF h hc_273
                refine VO.gskip rfl rfl rfl rfl rfl (VO.gskip rfl rfl rfl rfl rfl (VO.gskip rfl rfl rfl rfl rfl (VO.t (v := .bool false) (t_pick (b := false) rfl rfl (fun h => by cases h) (fun _ => (fun _ _ => rfl))) rfl rfl (VO.t (v := .bool false) (t_assign rfl rfl) rfl rfl (VO.nil (thenQ_normal (VW.subK (.c 2 rfl .n) rfl (VW.hsub (A := hq [] []) (hq_sub (.cons _ .slnil) .slnil) (VW.ret ?_)))))))))
                refine blockQ_ret ?_
                obtain ⟨z_276, hz_277, h⟩ := obind h
                have h := Option.some.inj h
                subst h
                try dsimp only at hx_264
                have hx_264 := Option.some.inj hx_264
                subst hx_264
                have h := hz_277
                refine thenQ_ret ?_
                have h := Option.some.inj h
                subst h
                exact ⟨.inr rfl, rfl, _, .bool false, hq [] [], rfl, VLe.refl _, hq_sub .slnil .slnil, rfl, rfl⟩
            · replace h := iteF h hc_272
              refine VO.gskip rfl rfl rfl rfl rfl (VO.gskip rfl rfl rfl rfl rfl (VO.gskip rfl rfl rfl rfl rfl (VO.t (v := .bool false) (t_pick (b := false) rfl rfl (fun h => by cases h) (fun _ => (fun _ _ => rfl))) rfl rfl (VO.t (t_move rfl rfl) rfl rfl (VO.gskip rfl rfl rfl rfl rfl (VO.gskip rfl rfl rfl rfl rfl (VO.gskip rfl rfl rfl rfl rfl (VO.t (v := .bool false) (t_pick (b := false) rfl rfl (fun h => by cases h) (fun _ => (fun _ _ => rfl))) rfl rfl (VO.t (v := .bool false) (t_assign rfl rfl) rfl rfl ?_)))))))))
              refine VO.nil (thenQ_normal (VW.subK (.c 2 rfl .n) rfl (VW.hsub (A := hq [] []) (hq_sub (.cons _ .slnil) .slnil) (VW.ret (blockQ_ret ?_)))))
              obtain ⟨z_278, hz_279, h⟩ := obind h
              have h := Option.some.inj h
              subst h
              try dsimp only at hx_264
              have hx_264 := Option.some.inj hx_264
              subst hx_264
              have h := hz_279
              refine thenQ_ret ?_
              have h := Option.some.inj h
              subst h
              exact ⟨.inr rfl, rfl, _, .bool false, hq [] [], rfl, VLe.refl _, hq_sub .slnil .slnil, rfl, rfl⟩
          · replace h := iteF h hc_271
            refine VO.gskip rfl rfl rfl rfl rfl (VO.gskip rfl rfl rfl rfl rfl (VO.gskip rfl rfl rfl rfl rfl (VO.gskip rfl rfl rfl rfl rfl (VO.gskip rfl rfl rfl rfl rfl (VO.t (v := .bool false) (t_pick (b := false) rfl rfl (fun h => by cases h) (fun _ => (fun _ _ => rfl))) rfl rfl (VO.t (t_move rfl rfl) rfl rfl (VO.gskip rfl rfl rfl rfl rfl (VO.gskip rfl rfl rfl rfl rfl (VO.gskip rfl rfl rfl rfl rfl ?_)))))))))
            refine VO.t (v := .bool false) (t_pick (b := false) rfl rfl (fun h => by cases h) (fun _ => (fun _ _ => rfl))) rfl rfl (VO.t (t_move rfl rfl) rfl rfl (VO.gskip rfl rfl rfl rfl rfl (VO.gskip rfl rfl rfl rfl rfl (VO.gskip rfl rfl rfl rfl rfl (VO.t (v := .bool false) (t_pick (b := false) rfl rfl (fun h => by cases h) (fun _ => (fun _ _ => rfl))) rfl rfl (VO.t (v := .bool false) (t_assign rfl rfl) rfl rfl (VO.nil (thenQ_normal (VW.subK (.c 2 rfl .n) rfl ?_)))))))))
            refine VW.hsub (A := hq [] []) (hq_sub (.cons _ .slnil) .slnil) (VW.ret (blockQ_ret ?_))
            obtain ⟨z_280, hz_281, h⟩ := obind h
            have h := Option.some.inj h
            subst h
            try dsimp only at hx_264
            have hx_264 := Option.some.inj hx_264
            subst hx_264
            have h := hz_281
            refine thenQ_ret ?_
            have h := Option.some.inj h
            subst h
            exact ⟨.inr rfl, rfl, _, .bool false, hq [] [], rfl, VLe.refl _, hq_sub .slnil .slnil, rfl, rfl⟩
        · replace h := iteF h hc_270
          refine VW.seq (VW.seq (VW.region (VO.t (v := .bool (a0.Op == 1)) (t_cmp rfl rfl rfl (fun _ _ => rfl) rfl) rfl rfl (VO.t (v := .bool (a0.Op == 1)) (t_assign rfl rfl) rfl rfl (VO.nil (thenQ_normal (VW.subK (.c 1 rfl (.c 3 rfl (.c 13 rfl (.c 37 rfl .n)))) rfl ?_)))))))
          obtain ⟨o_286, h, hx_284⟩ := obind h
          refine VW.joinQ (E := Bool) (I := fun x_283 => x_283 = o_286 ∧ True) (env' := fun x_283 => ⟨[(1, .ptr ob_239 0), (3, .bool ok_241), (13, .int .i64 a0.Op), (37, .bool x_283)], []⟩) (H' := fun x_283 => hq ([[(ob_239, .cells [.int .i64 a0.Op, .int .i64 a0.Lo, .int .i64 a0.Hi, .sl .fz (a0.Kids.map Node.c)])]]) []) ?_ (fun J_285 => ?_)
          · rintro x_283 ⟨ho_, _⟩
            subst ho_
            replace h := hx_284
            clear hx_284
            try dsimp only at h
            show VW _ _ _ _ ⟨[(1, .ptr ob_239 0), (3, .bool ok_241), (13, .int .i64 a0.Op), (37, .bool x_283)], []⟩ (hq ([[(ob_239, .cells [.int .i64 a0.Op, .int .i64 a0.Lo, .int .i64 a0.Hi, .sl .fz (a0.Kids.map Node.c)])]]) [])
            refine VW.cond (b := x_283) rfl (fun hc_287 => ?_) (fun hc_287 => ?_)
            · replace h := iteT h hc_287
              refine VW.region (VO.t (t_move rfl rfl) rfl rfl (VO.t (t_move rfl rfl) rfl rfl ?_))
              refine VO.caseB (d := 41) (b := ok_241) rfl (fun hc_288 => ?_) (fun hc_288 => ?_)
              · replace h := iteT h hc_288
                refine VO.gt (v := .ptr ob_239 3) (t_fieldAddr_ptr rfl fi42_3 rfl rfl) rfl rfl rfl rfl (VO.gr (v := .sl .fz (a0.Kids.map Node.c)) (r_load_q (i := 0) rfl sz40 rfl rfl rfl) rfl rfl rfl rfl (VO.gt (v := .int .i64 (a0.Kids.length : Int)) (t_len rfl ⟨_, Try.underlying40⟩ rfl (by rw [List.length_map])) rfl rfl rfl rfl (VO.gt (v := .bool (decide ((a0.Kids.length : Int) ≥ 2))) (t_cmp rfl rfl rfl (fun _ _ => rfl) rfl) rfl rfl rfl rfl (VO.t (v := .bool (decide ((a0.Kids.length : Int) ≥ 2))) (t_pick (b := true) rfl rfl (fun _ => rfl) (fun h => by cases h)) rfl rfl (VO.t (v := .bool (decide ((a0.Kids.length : Int) ≥ 2))) (t_assign rfl rfl) rfl rfl (VO.subK (.c 1 rfl (.c 3 rfl .n)) rfl (VO.nil (blockQ_normal ?_))))))))
                exact thenQ_normal (J_265 (decide ((a0.Kids.length : Int) ≥ 2)) ⟨Option.some.inj h, trivial⟩)
              · replace h := iteF h hc_288
                refine VO.gskip rfl rfl rfl rfl rfl (VO.gskip rfl rfl rfl rfl rfl (VO.gskip rfl rfl rfl rfl rfl (VO.gskip rfl rfl rfl rfl rfl (VO.t (v := .bool false) (t_pick (b := false) rfl rfl (fun h => by cases h) (fun _ => (fun _ _ => rfl))) rfl rfl (VO.t (v := .bool false) (t_assign rfl rfl) rfl rfl (VO.subK (.c 1 rfl (.c 3 rfl .n)) rfl (VO.nil (blockQ_normal ?_))))))))
                exact thenQ_normal (J_265 false ⟨Option.some.inj h, trivial⟩)
            · replace h := iteF h hc_287
              refine VW.seq (VW.region (VO.t (v := .bool (a0.Op == 3)) (t_cmp rfl rfl rfl (fun _ _ => rfl) rfl) rfl rfl (VO.t (v := .bool (a0.Op == 3)) (t_assign rfl rfl) rfl rfl (VO.nil (thenQ_normal (VW.subK (.c 1 rfl (.c 3 rfl (.c 13 rfl (.c 47 rfl .n)))) rfl ?_))))))
              refine VW.cond (b := (a0.Op == 3)) rfl (fun hc_289 => ?_) (fun hc_289 => ?_)
              · replace h := iteT h hc_289
                refine VW.region (VO.t (t_move rfl rfl) rfl rfl (VO.t (t_move rfl rfl) rfl rfl ?_))
                refine VO.caseB (d := 50) (b := ok_241) rfl (fun hc_290 => ?_) (fun hc_290 => ?_)
                · replace h := iteT h hc_290
                  refine VO.gt (v := .ptr ob_239 3) (t_fieldAddr_ptr rfl fi42_3 rfl rfl) rfl rfl rfl rfl (VO.gr (v := .sl .fz (a0.Kids.map Node.c)) (r_load_q (i := 0) rfl sz40 rfl rfl rfl) rfl rfl rfl rfl (VO.gt (v := .int .i64 (a0.Kids.length : Int)) (t_len rfl ⟨_, Try.underlying40⟩ rfl (by rw [List.length_map])) rfl rfl rfl rfl (VO.gt (v := .bool ((a0.Kids.length : Int) == 2)) (t_cmp rfl rfl rfl (fun _ _ => rfl) rfl) rfl rfl rfl rfl (VO.t (v := .bool ((a0.Kids.length : Int) == 2)) (t_pick (b := true) rfl rfl (fun _ => rfl) (fun h => by cases h)) rfl rfl (VO.t (v := .bool ((a0.Kids.length : Int) == 2)) (t_assign rfl rfl) rfl rfl (VO.subK (.c 1 rfl (.c 3 rfl .n)) rfl (VO.nil (blockQ_normal ?_))))))))
                  exact thenQ_normal (J_265 ((a0.Kids.length : Int) == 2) ⟨Option.some.inj h, trivial⟩)
                · replace h := iteF h hc_290
                  refine VO.gskip rfl rfl rfl rfl rfl (VO.gskip rfl rfl rfl rfl rfl (VO.gskip rfl rfl rfl rfl rfl (VO.gskip rfl rfl rfl rfl rfl (VO.t (v := .bool false) (t_pick (b := false) rfl rfl (fun h => by cases h) (fun _ => (fun _ _ => rfl))) rfl rfl (VO.t (v := .bool false) (t_assign rfl rfl) rfl rfl (VO.subK (.c 1 rfl (.c 3 rfl .n)) rfl (VO.nil (blockQ_normal ?_))))))))
                  exact thenQ_normal (J_265 false ⟨Option.some.inj h, trivial⟩)
              · replace h := iteF h hc_289
                refine VW.seq (VW.region (VO.t (v := .bool (a0.Op == 4)) (t_cmp rfl rfl rfl (fun _ _ => rfl) rfl) rfl rfl (VO.t (v := .bool (a0.Op == 4)) (t_assign rfl rfl) rfl rfl (VO.nil (thenQ_normal (VW.subK (.c 1 rfl (.c 3 rfl (.c 13 rfl (.c 56 rfl .n)))) rfl ?_))))))
                refine VW.cond (b := (a0.Op == 4)) rfl (fun hc_291 => ?_) (fun hc_291 => ?_)
                · replace h := iteT h hc_291
                  refine VW.region (VO.t (t_move rfl rfl) rfl rfl (VO.t (t_move rfl rfl) rfl rfl ?_))
                  refine VO.caseB (d := 59) (b := ok_241) rfl (fun hc_292 => ?_) (fun hc_292 => ?_)
                  · replace h := iteT h hc_292
                    refine VO.gt (v := .ptr ob_239 3) (t_fieldAddr_ptr rfl fi42_3 rfl rfl) rfl rfl rfl rfl (VO.gr (v := .sl .fz (a0.Kids.map Node.c)) (r_load_q (i := 0) rfl sz40 rfl rfl rfl) rfl rfl rfl rfl (VO.gt (v := .int .i64 (a0.Kids.length : Int)) (t_len rfl ⟨_, Try.underlying40⟩ rfl (by rw [List.length_map])) rfl rfl rfl rfl (VO.gt (v := .bool ((a0.Kids.length : Int) == 0)) (t_cmp rfl rfl rfl (fun _ _ => rfl) rfl) rfl rfl rfl rfl (VO.t (v := .bool ((a0.Kids.length : Int) == 0)) (t_pick (b := true) rfl rfl (fun _ => rfl) (fun h => by cases h)) rfl rfl (VO.t (v := .bool ((a0.Kids.length : Int) == 0)) (t_assign rfl rfl) rfl rfl (VO.subK (.c 1 rfl (.c 3 rfl .n)) rfl (VO.nil (blockQ_normal ?_))))))))
                    exact thenQ_normal (J_265 ((a0.Kids.length : Int) == 0) ⟨Option.some.inj h, trivial⟩)
                  · replace h := iteF h hc_292
                    refine VO.gskip rfl rfl rfl rfl rfl (VO.gskip rfl rfl rfl rfl rfl (VO.gskip rfl rfl rfl rfl rfl (VO.gskip rfl rfl rfl rfl rfl (VO.t (v := .bool false) (t_pick (b := false) rfl rfl (fun h => by cases h) (fun _ => (fun _ _ => rfl))) rfl rfl (VO.t (v := .bool false) (t_assign rfl rfl) rfl rfl (VO.subK (.c 1 rfl (.c 3 rfl .n)) rfl (VO.nil (blockQ_normal ?_))))))))
                    exact thenQ_normal (J_265 false ⟨Option.some.inj h, trivial⟩)
                · replace h := iteF h hc_291
                  refine VW.seq (VW.region (VO.t (v := .bool (a0.Op == 5)) (t_cmp rfl rfl rfl (fun _ _ => rfl) rfl) rfl rfl (VO.t (v := .bool (a0.Op == 5)) (t_assign rfl rfl) rfl rfl (VO.nil (thenQ_normal (VW.subK (.c 1 rfl (.c 3 rfl (.c 65 rfl .n))) rfl ?_))))))
                  refine VW.cond (b := (a0.Op == 5)) rfl (fun hc_293 => ?_) (fun hc_293 => ?_)
                  · replace h := iteT h hc_293
                    refine VW.region (VO.t (t_move rfl rfl) rfl rfl (VO.t (t_move rfl rfl) rfl rfl ?_))
                    refine VO.caseB (d := 68) (b := ok_241) rfl (fun hc_294 => ?_) (fun hc_294 => ?_)
                    · replace h := iteT h hc_294
                      refine VO.gt (v := .ptr ob_239 3) (t_fieldAddr_ptr rfl fi42_3 rfl rfl) rfl rfl rfl rfl (VO.gr (v := .sl .fz (a0.Kids.map Node.c)) (r_load_q (i := 0) rfl sz40 rfl rfl rfl) rfl rfl rfl rfl (VO.gt (v := .int .i64 (a0.Kids.length : Int)) (t_len rfl ⟨_, Try.underlying40⟩ rfl (by rw [List.length_map])) rfl rfl rfl rfl (VO.gt (v := .bool ((a0.Kids.length : Int) == 1)) (t_cmp rfl rfl rfl (fun _ _ => rfl) rfl) rfl rfl rfl rfl (VO.t (v := .bool ((a0.Kids.length : Int) == 1)) (t_pick (b := true) rfl rfl (fun _ => rfl) (fun h => by cases h)) rfl rfl (VO.t (v := .bool ((a0.Kids.length : Int) == 1)) (t_assign rfl rfl) rfl rfl (VO.subK (.c 1 rfl (.c 3 rfl .n)) rfl (VO.nil (blockQ_normal ?_))))))))
                      exact thenQ_normal (J_265 ((a0.Kids.length : Int) == 1) ⟨Option.some.inj h, trivial⟩)
                    · replace h := iteF h hc_294
                      refine VO.gskip rfl rfl rfl rfl rfl (VO.gskip rfl rfl rfl rfl rfl (VO.gskip rfl rfl rfl rfl rfl (VO.gskip rfl rfl rfl rfl rfl (VO.t (v := .bool false) (t_pick (b := false) rfl rfl (fun h => by cases h) (fun _ => (fun _ _ => rfl))) rfl rfl (VO.t (v := .bool false) (t_assign rfl rfl) rfl rfl (VO.subK (.c 1 rfl (.c 3 rfl .n)) rfl (VO.nil (blockQ_normal ?_))))))))
                      exact thenQ_normal (J_265 false ⟨Option.some.inj h, trivial⟩)
                  · replace h := iteF h hc_293
                    refine VW.seq (VW.region (VO.t (v := .bool false) (t_assign rfl (fun _ _ => rfl)) rfl rfl (VO.nil (thenQ_normal (VW.subK (.c 2 rfl .n) rfl (VW.hsub (A := hq [] []) (hq_sub (.cons _ .slnil) .slnil) (VW.ret (blockQ_ret ?_))))))))
                    obtain ⟨z_295, hz_296, h⟩ := obind h
                    have h := Option.some.inj h
                    subst h
                    try dsimp only at hx_264
                    have hx_264 := Option.some.inj hx_264
                    subst hx_264
                    have h := hz_296
                    refine thenQ_ret ?_
                    have h := Option.some.inj h
                    subst h
                    exact ⟨.inr rfl, rfl, _, .bool false, hq [] [], rfl, VLe.refl _, hq_sub .slnil .slnil, rfl, rfl⟩
          · refine VW.cond (b := (a0.Op == 1)) rfl (fun hc_297 => ?_) (fun hc_297 => ?_)
            · replace h := iteT h hc_297
              refine VW.subK (.c 1 rfl (.c 3 rfl (.c 13 rfl (.c 37 rfl .n)))) rfl (VW.skip ?_)
              exact thenQ_normal (J_285 (a0.Op == 1) ⟨Option.some.inj h, trivial⟩)
            · replace h := iteF h hc_297
              refine VW.region (VO.t (v := .bool (a0.Op == 2)) (t_cmp rfl rfl rfl (fun _ _ => rfl) rfl) rfl rfl (VO.t (v := .bool (a0.Op == 2)) (t_assign rfl rfl) rfl rfl (VO.subK (.c 1 rfl (.c 3 rfl (.c 13 rfl (.c 37 rfl .n)))) rfl (VO.nil ?_))))
              exact thenQ_normal (J_285 (a0.Op == 2) ⟨Option.some.inj h, trivial⟩)
    · refine VW.region (VO.t (v := .ptr ob_239 1) (t_fieldAddr_ptr rfl fi42_1 rfl rfl) rfl rfl (VO.r (v := .int .i64 a0.Lo) (r_load_q (i := 0) rfl sz3 rfl rfl rfl) rfl rfl (VO.t (v := .bool (a0.Lo == 0)) (t_cmp rfl rfl rfl (fun _ _ => rfl) rfl) rfl rfl (VO.t (t_move rfl rfl) rfl rfl ?_))))
      refine VO.caseB (d := 7) (b := (a0.Lo == 0)) rfl (fun hc_298 => ?_) (fun hc_298 => ?_)
      · replace h := iteT h hc_298
        refine VO.gt (v := .ptr ob_239 2) (t_fieldAddr_ptr rfl fi42_2 rfl rfl) rfl rfl rfl rfl (VO.gr (v := .int .i64 a0.Hi) (r_load_q (i := 0) rfl sz3 rfl rfl rfl) rfl rfl rfl rfl (VO.gt (v := .bool (a0.Hi == 0)) (t_cmp rfl rfl rfl (fun _ _ => rfl) rfl) rfl rfl rfl rfl (VO.t (v := .bool (a0.Hi == 0)) (t_pick (b := true) rfl rfl (fun _ => rfl) (fun h => by cases h)) rfl rfl (VO.t (v := .bool (a0.Hi == 0)) (t_assign rfl rfl) rfl rfl (VO.subK (.c 1 rfl (.c 3 rfl .n)) rfl (VO.nil ?_))))))
        exact thenQ_normal (J_243 (a0.Hi == 0) ⟨Option.some.inj h, trivial⟩)
      · replace h := iteF h hc_298
        refine VO.gskip rfl rfl rfl rfl rfl (VO.gskip rfl rfl rfl rfl rfl (VO.gskip rfl rfl rfl rfl rfl (VO.t (v := .bool false) (t_pick (b := false) rfl rfl (fun h => by cases h) (fun _ => (fun _ _ => rfl))) rfl rfl (VO.t (v := .bool false) (t_assign rfl rfl) rfl rfl (VO.subK (.c 1 rfl (.c 3 rfl .n)) rfl (VO.nil ?_))))))
        exact thenQ_normal (J_243 false ⟨Option.some.inj h, trivial⟩)
  · intro _ ih_slices_IndexFunc_of_set_formed_1 a0 r h 
    refine VCalls.of_body 9 [4] Try.func59 rfl rfl rfl (Nat.le_of_ble_eq_true rfl) (VW.subK (.c 0 rfl (.c 1 rfl .n)) rfl (VW.seq (VW.region (VO.t (v := .bool false) (t_assign rfl (fun _ _ => rfl)) rfl rfl (VO.nil (thenQ_normal (VW.subK (.c 0 rfl (.c 1 rfl .n)) rfl (VW.seq (VW.region ?_)))))))))
    refine VO.t (t_move rfl rfl) rfl rfl (VO.t (t_move rfl rfl) rfl rfl ?_)
    obtain ⟨rv_237, hx_238, h⟩ := obind h
    refine VO.w (fun v H' => .int .i64 rv_237 = v ∧ H' = hq [] []) (w_call_q (sa := []) (sg := []) (tks := []) rfl fn71 rfl ⟨_, _, rfl, rfl, _, _, rfl, rfl, rfl⟩ (ih_slices_IndexFunc_of_set_formed_1 _ _ hx_238) (by rintro v H' ⟨rfl, rfl⟩; exact ⟨[], rfl, rfl, rfl⟩)) rfl rfl ?_
    rintro _ _ ⟨rfl, rfl⟩
    refine VO.t (v := .bool (decide (rv_237 ≥ 0))) (t_cmp rfl rfl rfl (fun _ _ => rfl) rfl) rfl rfl (VO.t (v := .bool (decide (rv_237 ≥ 0))) (t_assign rfl rfl) rfl rfl (VO.nil (thenQ_normal (VW.subK (.c 4 rfl .n) rfl (VW.ret ?_)))))
    have h := Option.some.inj h
    subst h
    exact ⟨.inr rfl, rfl, _, .bool (decide (rv_237 ≥ 0)), hq [] [], rfl, VLe.refl _, hq_sub .slnil .slnil, rfl, rfl⟩
  · intro _ ih_slices_IndexFunc_of_set_formed_1_l0 a0 r h 
    refine VCalls.of_body 19 [4] Try.func71 rfl rfl rfl (Nat.le_of_ble_eq_true rfl) (VW.subK (.c 0 rfl (.c 1 rfl .n)) rfl (VW.seq (VW.region (VO.t (v := .int .i64 0) (t_assign rfl (fun _ _ => rfl)) rfl rfl (VO.nil (thenQ_normal (VW.subK (.c 0 rfl (.c 1 rfl .n)) rfl (VW.seq (VW.seq ?_)))))))))
    refine VW.region (VO.t (t_move rfl rfl) rfl rfl (VO.t (v := .int .i64 (a0.length : Int)) (t_len rfl ⟨_, Try.underlying40⟩ rfl (by rw [List.length_map])) rfl rfl (VO.t (v := .int .i64 0) (t_move rfl (fun _ _ => rfl)) rfl rfl (VO.nil (thenQ_normal (VW.subK (.c 0 rfl (.c 1 rfl (.c 7 rfl (.c 8 rfl .n)))) rfl (VW.block (VW.subK (.c 0 rfl (.c 1 rfl (.c 7 rfl (.c 8 rfl .n)))) rfl ?_))))))))
    obtain ⟨o_235, hx_236, h⟩ := obind h
    refine VW.loopL (ih_slices_IndexFunc_of_set_formed_1_l0 _ _ _ hx_236 _ ?_ ?_)
    · intro ho_
      subst ho_
      try dsimp only at h
      refine blockQ_hit (thenQ_normal (VW.seq (VW.region (VO.t (v := .int .i64 (-1)) (t_assign rfl (fun _ _ => rfl)) rfl rfl (VO.nil (thenQ_normal (VW.ret ?_)))))))
      have h := Option.some.inj h
      subst h
      exact ⟨.inr rfl, rfl, _, .int .i64 (-1), hq [] [], rfl, VLe.refl _, hq_sub .slnil .slnil, rfl, rfl⟩
    · intro x_229 ho_
      subst ho_
      try dsimp only at h
      refine blockQ_ret (thenQ_ret ?_)
      have h := Option.some.inj h
      subst h
      exact ⟨.inr rfl, rfl, _, .int .i64 x_229, hq [] [], rfl, VLe.refl _, hq_sub .slnil .slnil, rfl, rfl⟩
  · intro _ _ ih_set_formed_1 ih_slices_IndexFunc_of_set_formed_1_l0 a0 x_223 o h Q hx0 hx1
    refine VW.seq (VW.region (VO.t (v := .bool (decide (x_223 < (a0.length : Int)))) (t_cmp rfl rfl rfl rfl rfl) rfl rfl (VO.nil (thenQ_normal (VW.seq ?_)))))
    refine VW.cond (b := (decide (x_223 < (a0.length : Int)))) rfl (fun hc_230 => ?_) (fun hc_230 => ?_)
    · replace h := iteT h hc_230
      refine VW.skip (thenQ_normal (VW.subK (.c 0 rfl (.c 1 rfl (.c 7 rfl (.c 8 rfl .n)))) rfl (VW.seq (VW.block (VW.seq (VW.region (VO.t (t_move rfl rfl) rfl rfl (VO.t (v := .int .i64 x_223) (t_assign rfl rfl) rfl rfl (VO.nil ?_)))))))))
      refine thenQ_normal (VW.subK (.c 0 rfl (.c 1 rfl (.c 7 rfl (.c 8 rfl (.c 5 rfl .n))))) rfl (VW.seq (VW.region (VO.t (t_move rfl rfl) rfl rfl (VO.t (t_move rfl rfl) rfl rfl (VO.t (t_move rfl rfl) rfl rfl ?_))))))
      obtain ⟨c_231, hc_231, h⟩ := obind h
      refine VO.t (v := .vptr [.int .i64 c_231.Op, .int .i64 c_231.Lo, .int .i64 c_231.Hi, .sl .fz (c_231.Kids.map Node.c)]) (t_indexAddr rfl sl40 rfl rfl (getI_some hc_231).1 (map_get (getI_some hc_231).2 (Node.c_eq c_231)) rfl) rfl rfl (VO.r (v := .agg [.int .i64 c_231.Op, .int .i64 c_231.Lo, .int .i64 c_231.Hi, .sl .fz (c_231.Kids.map Node.c)]) (r_load_v rfl sz42 rfl rfl) rfl rfl ?_)
      obtain ⟨rv_232, hx_233, h⟩ := obind h
      refine VO.w (fun v H' => .bool rv_232 = v ∧ H' = hq [] []) (w_call_q (sa := []) (sg := []) (tks := []) rfl fn60 rfl ⟨_, _, rfl, rfl, rfl⟩ (ih_set_formed_1 _ _ hx_233) (by rintro v H' ⟨rfl, rfl⟩; exact ⟨[], rfl, rfl, rfl⟩)) rfl rfl ?_
      rintro _ _ ⟨rfl, rfl⟩
      refine VO.nil (thenQ_normal (VW.subK (.c 0 rfl (.c 1 rfl (.c 7 rfl (.c 8 rfl (.c 5 rfl (.c 16 rfl .n)))))) rfl ?_))
      refine VW.cond (b := rv_232) rfl (fun hc_234 => ?_) (fun hc_234 => ?_)
      · replace h := iteT h hc_234
        refine VW.seq (VW.region (VO.t (t_move rfl rfl) rfl rfl (VO.t (v := .int .i64 x_223) (t_assign rfl rfl) rfl rfl (VO.nil (thenQ_normal (VW.subK (.c 4 rfl .n) rfl (VW.subK (.c 4 rfl .n) rfl (VW.ret (blockQ_ret ?_)))))))))
        refine thenQ_ret (thenQ_ret ?_)
        have h := Option.some.inj h
        subst h
        exact hx1 _ rfl
      · replace h := iteF h hc_234
        refine VW.skip (blockQ_normal (thenQ_normal (VW.subK (.c 0 rfl (.c 1 rfl (.c 7 rfl (.c 8 rfl .n)))) rfl (VW.region (VO.t (v := .int .i64 (w64 (x_223 + 1))) (t_add rfl rfl (fun _ _ => rfl) rfl) rfl rfl (VO.t (t_move rfl rfl) rfl rfl (VO.nil (thenQ_normal (VL.round ?_)))))))))
        refine VW.subK (.c 0 rfl (.c 1 rfl (.c 7 rfl (.c 8 rfl .n)))) rfl ?_
        exact ih_slices_IndexFunc_of_set_formed_1_l0 _ _ _ h _ hx0 hx1
    · replace h := iteF h hc_230
      refine VW.subN (t' := []) trivial rfl (VW.exit (thenQ_exit (thenQ_exit ?_)))
      have h := Option.some.inj h
      subst h
      exact hx0  rfl

theorem set_check_ok (a0 : Node) (r : Int) (h : PL.set_check a0 = some r) :
    VCalls Try.prog 38 [.agg [.int .i64 a0.Op, .int .i64 a0.Lo, .int .i64 a0.Hi, .sl .fz (a0.Kids.map Node.c)]] (hq [] []) (fun v H => .int .i64 r = v ∧ H = hq [] []) := by
  unfold PL.set_check at h
  refine VCalls.of_body 19 [2] Try.func38 rfl rfl rfl (Nat.le_of_ble_eq_true rfl) (VW.subK (.c 0 rfl .n) rfl (VW.seq (VW.region (VO.w (fun v H' => ∃ ob_299, .ptr ob_299 0 = v ∧ H' = hq ([[(ob_299, .cells [.int .i64 a0.Op, .int .i64 a0.Lo, .int .i64 a0.Hi, .sl .fz (a0.Kids.map Node.c)])]]) []) (w_box_q rfl rfl rfl (fun ob => ⟨ob, rfl, rfl⟩)) rfl rfl ?_))))
  rintro _ _ ⟨ob_299, rfl, rfl⟩
  refine VO.t (v := .int .i64 0) (t_assign rfl (fun _ _ => rfl)) rfl rfl (VO.nil (thenQ_normal (VW.subK (.c 1 rfl .n) rfl (VW.seq (VW.seq (VW.region (VO.r (v := .agg [.int .i64 a0.Op, .int .i64 a0.Lo, .int .i64 a0.Hi, .sl .fz (a0.Kids.map Node.c)]) (r_load_q (i := 0) rfl sz42 rfl rfl rfl) rfl rfl ?_)))))))
  obtain ⟨⟨rv_300, rv_301⟩, hx_302, h⟩ := obind h
  try dsimp only at h
  refine VO.w (fun v H' => .tup [.int .i64 rv_300, .int .i64 rv_301] = v ∧ H' = hq ([[(ob_299, .cells [.int .i64 a0.Op, .int .i64 a0.Lo, .int .i64 a0.Hi, .sl .fz (a0.Kids.map Node.c)])]]) []) (w_call_q (sa := []) (sg := [[(ob_299, .cells [.int .i64 a0.Op, .int .i64 a0.Lo, .int .i64 a0.Hi, .sl .fz (a0.Kids.map Node.c)])]]) (tks := []) rfl fn51 rfl ⟨_, _, rfl, rfl, rfl⟩ (set_size_ok _ _ hx_302) (by rintro v H' ⟨rfl, rfl⟩; exact ⟨[], rfl, rfl, rfl⟩)) rfl rfl ?_
  rintro _ _ ⟨rfl, rfl⟩
  refine VO.t (t_move rfl rfl) rfl rfl (VO.t (v := .int .i64 rv_300) (t_extract rfl rfl rfl) rfl rfl (VO.t (v := .int .i64 rv_301) (t_extract rfl rfl rfl) rfl rfl (VO.t (v := .int .i64 rv_300) (t_assign rfl rfl) rfl rfl (VO.t (v := .int .i64 rv_301) (t_assign rfl rfl) rfl rfl (VO.nil (thenQ_normal (VW.subK (.c 1 rfl (.c 3 rfl (.c 4 rfl .n))) rfl (VW.seq (VW.region ?_)))))))))
  refine VO.t (t_move rfl rfl) rfl rfl (VO.t (v := .bool (decide (rv_300 > 200))) (t_cmp rfl rfl rfl (fun _ _ => rfl) rfl) rfl rfl (VO.t (t_move rfl rfl) rfl rfl ?_))
  refine VO.caseB (d := 12) (b := (decide (rv_300 > 200))) rfl (fun hc_303 => ?_) (fun hc_303 => ?_)
  · replace h := iteT h hc_303
    refine VO.gskip rfl rfl rfl rfl rfl (VO.gskip rfl rfl rfl rfl rfl (VO.t (v := .bool true) (t_pick (b := true) rfl rfl (fun _ => (fun _ _ => rfl)) (fun h => by cases h)) rfl rfl (VO.nil (thenQ_normal (VW.subK (.c 1 rfl (.c 15 rfl .n)) rfl (VW.condT rfl (VW.seq (VW.region (VO.t (v := .int .i64 2) (t_assign rfl (fun _ _ => rfl)) rfl rfl ?_)))))))))
    refine VO.nil (thenQ_normal (VW.subK (.c 2 rfl .n) rfl (VW.hsub (A := hq [] []) (hq_sub (.cons _ .slnil) .slnil) (VW.ret (thenQ_ret ?_)))))
    have h := Option.some.inj h
    subst h
    exact ⟨.inr rfl, rfl, _, .int .i64 2, hq [] [], rfl, VLe.refl _, hq_sub .slnil .slnil, rfl, rfl⟩
  · replace h := iteF h hc_303
    refine VO.gt (v := .int .i64 rv_301) (t_move rfl rfl) rfl rfl rfl rfl (VO.gt (v := .bool (decide (rv_301 > 20))) (t_cmp rfl rfl rfl (fun _ _ => rfl) rfl) rfl rfl rfl rfl (VO.t (v := .bool (decide (rv_301 > 20))) (t_pick (b := false) rfl rfl (fun h => by cases h) (fun _ => rfl)) rfl rfl (VO.nil (thenQ_normal (VW.subK (.c 1 rfl (.c 15 rfl .n)) rfl ?_)))))
    refine VW.cond (b := (decide (rv_301 > 20))) rfl (fun hc_304 => ?_) (fun hc_304 => ?_)
    · replace h := iteT h hc_304
      refine VW.seq (VW.region (VO.t (v := .int .i64 2) (t_assign rfl (fun _ _ => rfl)) rfl rfl (VO.nil (thenQ_normal (VW.subK (.c 2 rfl .n) rfl (VW.hsub (A := hq [] []) (hq_sub (.cons _ .slnil) .slnil) (VW.ret (thenQ_ret ?_))))))))
      have h := Option.some.inj h
      subst h
      exact ⟨.inr rfl, rfl, _, .int .i64 2, hq [] [], rfl, VLe.refl _, hq_sub .slnil .slnil, rfl, rfl⟩
    · replace h := iteF h hc_304
      refine VW.skip (thenQ_normal (VW.subK (.c 1 rfl .n) rfl (VW.seq (VW.seq (VW.region (VO.r (v := .agg [.int .i64 a0.Op, .int .i64 a0.Lo, .int .i64 a0.Hi, .sl .fz (a0.Kids.map Node.c)]) (r_load_q (i := 0) rfl sz42 rfl rfl rfl) rfl rfl ?_))))))
      obtain ⟨rv_305, hx_306, h⟩ := obind h
      refine VO.w (fun v H' => .bool rv_305 = v ∧ H' = hq ([[(ob_299, .cells [.int .i64 a0.Op, .int .i64 a0.Lo, .int .i64 a0.Hi, .sl .fz (a0.Kids.map Node.c)])]]) []) (w_call_q (sa := []) (sg := [[(ob_299, .cells [.int .i64 a0.Op, .int .i64 a0.Lo, .int .i64 a0.Hi, .sl .fz (a0.Kids.map Node.c)])]]) (tks := []) rfl fn52 rfl ⟨_, _, rfl, rfl, rfl⟩ (set_formed_ok _ _ hx_306) (by rintro v H' ⟨rfl, rfl⟩; exact ⟨[], rfl, rfl, rfl⟩)) rfl rfl ?_
      rintro _ _ ⟨rfl, rfl⟩
      refine VO.t (v := .bool (!rv_305)) (t_not rfl rfl rfl) rfl rfl (VO.nil (thenQ_normal (VW.subK (.c 18 rfl .n) rfl (VW.hsub (A := hq [] []) (hq_sub (.cons _ .slnil) .slnil) ?_))))
      refine VW.cond (b := (!rv_305)) rfl (fun hc_307 => ?_) (fun hc_307 => ?_)
      · replace h := iteT h hc_307
        refine VW.seq (VW.region (VO.t (v := .int .i64 1) (t_assign rfl (fun _ _ => rfl)) rfl rfl (VO.nil (thenQ_normal (VW.subK (.c 2 rfl .n) rfl (VW.ret (thenQ_ret ?_)))))))
        have h := Option.some.inj h
        subst h
        exact ⟨.inr rfl, rfl, _, .int .i64 1, hq [] [], rfl, VLe.refl _, hq_sub .slnil .slnil, rfl, rfl⟩
      · replace h := iteF h hc_307
        refine VW.skip (thenQ_normal (VW.subN (t' := []) trivial rfl (VW.seq (VW.region (VO.t (v := .int .i64 0) (t_assign rfl (fun _ _ => rfl)) rfl rfl (VO.nil (thenQ_normal (VW.ret ?_))))))))
        have h := Option.some.inj h
        subst h
        exact ⟨.inr rfl, rfl, _, .int .i64 0, hq [] [], rfl, VLe.refl _, hq_sub .slnil .slnil, rfl, rfl⟩

theorem set_limited_ok (a0 : List Pr) (r : List Pr × Int) (h : PL.set_limited a0 = some r) :
    VCalls Try.prog 39 [.sl .fz (a0.map Pr.c)] (hq [] []) (fun v H => .tup [.sl .fz (r.1.map Pr.c), .int .i64 r.2] = v ∧ H = hq [] []) := by
  unfold PL.set_limited at h
  refine VCalls.of_body 8 [2, 3] Try.func39 rfl rfl rfl (Nat.le_of_ble_eq_true rfl) (VW.subK (.c 0 rfl .n) rfl (VW.seq (VW.region (VO.t (v := .sl .nl []) (t_assign rfl (fun _ _ => .inl ⟨rfl, .inl rfl⟩)) rfl rfl (VO.t (v := .int .i64 0) (t_assign rfl (fun _ _ => rfl)) rfl rfl (VO.nil (thenQ_normal (VW.subK (.c 0 rfl .n) rfl (VW.seq ?_)))))))))
  refine VW.seq (VW.region (VO.t (t_move rfl rfl) rfl rfl (VO.t (v := .int .i64 (a0.length : Int)) (t_len rfl ⟨_, Try.underlying22⟩ rfl (by rw [List.length_map])) rfl rfl (VO.t (v := .bool (decide ((a0.length : Int) > 100))) (t_cmp rfl rfl rfl (fun _ _ => rfl) rfl) rfl rfl (VO.nil (thenQ_normal (VW.subK (.c 0 rfl (.c 6 rfl .n)) rfl ?_)))))))
  refine VW.cond (b := (decide ((a0.length : Int) > 100))) rfl (fun hc_308 => ?_) (fun hc_308 => ?_)
  · replace h := iteT h hc_308
    refine VW.seq (VW.region (VO.t (v := .sl .nl []) (t_assign rfl (fun _ _ => .inl ⟨rfl, .inl rfl⟩)) rfl rfl (VO.t (v := .int .i64 2) (t_assign rfl (fun _ _ => rfl)) rfl rfl (VO.nil (thenQ_normal (VW.subK (.c 2 rfl (.c 3 rfl .n)) rfl (VW.ret (thenQ_ret ?_))))))))
    have h := Option.some.inj h
    subst h
    exact ⟨.inr rfl, rfl, _, .tup [.sl .fz [], .int .i64 2], hq [] [], ⟨_, _, rfl, rfl, rfl⟩, VLe.tup ⟨VLe.sl _ _, VLe.refl _, trivial⟩, hq_sub .slnil .slnil, rfl, rfl⟩
  · replace h := iteF h hc_308
    refine VW.skip (thenQ_normal (VW.subK (.c 0 rfl .n) rfl (VW.seq (VW.region (VO.t (t_move rfl rfl) rfl rfl (VO.t (v := .sl .fz (a0.map Pr.c)) (t_assign rfl rfl) rfl rfl (VO.t (v := .int .i64 0) (t_assign rfl (fun _ _ => rfl)) rfl rfl (VO.nil (thenQ_normal ?_)))))))))
    refine VW.subK (.c 2 rfl (.c 3 rfl .n)) rfl (VW.ret ?_)
    have h := Option.some.inj h
    subst h
    exact ⟨.inr rfl, rfl, _, .tup [.sl .fz (a0.map Pr.c), .int .i64 0], hq [] [], ⟨_, _, rfl, rfl, rfl⟩, VLe.tup ⟨VLe.refl _, VLe.refl _, trivial⟩, hq_sub .slnil .slnil, rfl, rfl⟩

theorem slices_insertionSortCmpFunc_2int.l1_ok (a3 : Pr → Pr → Option Int) (a1 : Int) (a2 : Int) (i_357 : Int) (a3_f : Nat) (a3_a a3_c : List VV) (a3_g : Seg) (a3_k : FnOK Try.prog a3_f) (a3_h : ∀ (y0 : Pr) (y1 : Pr) (z : Int), a3 y0 y1 = some z → VCalls Try.prog a3_f (a3_a ++ [.agg [.int .i64 y0.x0, .int .i64 y0.x1], .agg [.int .i64 y1.x0, .int .i64 y1.x1]] ++ a3_c) (hq [a3_g] []) (fun v H => .int .i64 z = v ∧ H = hq [a3_g] [])) {Q : Exit → Env → HH → Prop} :
    ∀ (bu_419 : List Pr) (j_421 : Int) (o : (List Pr)), PL.slices_insertionSortCmpFunc_2int.l1 a3 a1 a2 i_357 bu_419 j_421 = some o →
    ∀ (vp0_420 : VV) (bp0_420 : Seg) (hbp0_420 : Buf 2 (bu_419.map Pr.c) vp0_420 bp0_420) (hx0 : ∀ (bu_434 : List Pr) (bp0_435 : Seg), bu_434 = o → Buf 2 (bu_434.map Pr.c) vp0_420 bp0_435 → Q (.exit 2) ⟨[(0, vp0_420), (1, .int .i64 a1), (2, .int .i64 a2), (3, .func (.func a3_f) a3_a a3_c), (8, .int .i64 i_357)], []⟩ (hq ([a3_g, bp0_435]) [])), VW Try.prog 53 (codeAt [1, 0, 0, 1, 0, 0, 1, 0, 0] (bodyOf Try.f61)) (thenQ (VL Try.prog 53 (codeAt [1, 0, 0, 1, 0, 0, 1, 0, 0] (bodyOf Try.f61)) Q) Q) ⟨[(0, vp0_420), (1, .int .i64 a1), (2, .int .i64 a2), (3, .func (.func a3_f) a3_a a3_c), (8, .int .i64 i_357), (9, .int .i64 j_421)], []⟩ (hq ([bp0_420, a3_g]) []) := by
  refine PL.slices_insertionSortCmpFunc_2int.l1.partial_correctness a3 a1 a2 i_357 (motive := fun bu_419 j_421 o => ∀ (vp0_420 : VV) (bp0_420 : Seg) (hbp0_420 : Buf 2 (bu_419.map Pr.c) vp0_420 bp0_420) (hx0 : ∀ (bu_434 : List Pr) (bp0_435 : Seg), bu_434 = o → Buf 2 (bu_434.map Pr.c) vp0_420 bp0_435 → Q (.exit 2) ⟨[(0, vp0_420), (1, .int .i64 a1), (2, .int .i64 a2), (3, .func (.func a3_f) a3_a a3_c), (8, .int .i64 i_357)], []⟩ (hq ([a3_g, bp0_435]) [])), VW Try.prog 53 (codeAt [1, 0, 0, 1, 0, 0, 1, 0, 0] (bodyOf Try.f61)) (thenQ (VL Try.prog 53 (codeAt [1, 0, 0, 1, 0, 0, 1, 0, 0] (bodyOf Try.f61)) Q) Q) ⟨[(0, vp0_420), (1, .int .i64 a1), (2, .int .i64 a2), (3, .func (.func a3_f) a3_a a3_c), (8, .int .i64 i_357), (9, .int .i64 j_421)], []⟩ (hq ([bp0_420, a3_g]) [])) ?_
  intro _ ih bu_419 j_421 o h vp0_420 bp0_420 hbp0_420 hx0
  refine VW.seq (VW.seq (VW.draw 17 mix rfl (VA.t (i := 0) rfl (t_move rfl rfl) (.inl rfl) (by kernel_rfl) (VA.t (i := 1) rfl (t_move rfl rfl) (.inl rfl) (by kernel_rfl) (VA.t (i := 2) (v := .bool (decide (j_421 > a1))) rfl (t_cmp rfl rfl rfl rfl rfl) (.inl rfl) (by kernel_rfl) (VA.t (i := 3) rfl (t_move rfl rfl) (.inl rfl) (by kernel_rfl) ?_))))))
  refine VA.caseB (d := 21) (b := (decide (j_421 > a1))) rfl (fun hc_436 => ?_) (fun hc_436 => ?_)
  · replace h := iteT h hc_436
    refine VA.phase (g := 3) [4, 5, 6, 7, 8, 9, 10, 11, 12, 13] 10 (VP.take (i := 4) rfl (TOp.r (t_move rfl rfl)) (.inr ⟨_, _, _, rfl, rfl, rfl⟩) (by kernel_rfl) (VP.take (i := 5) rfl (TOp.r (t_move rfl rfl)) (.inr ⟨_, _, _, rfl, rfl, rfl⟩) (by kernel_rfl) (VP.take (i := 6) rfl (TOp.r (t_move rfl rfl)) (.inr ⟨_, _, _, rfl, rfl, rfl⟩) (by kernel_rfl) ?_)))
    obtain ⟨c_437, hc_437, h⟩ := obind h
    obtain ⟨ob_438, cap_438, len_438, sl_438, rfl, rfl, hE_438, hl_438, hc_438, hs_438⟩ := buf_at hbp0_420 hc_437
    refine VP.take (i := 7) (v := .ptr ob_438 (j_421.toNat * 2 + 0)) rfl (TOp.r (t_index_own rfl sl22 rfl rfl (getI_some hc_437).1 (by rw [hl_438]; exact getI_lt hc_437) rfl)) (.inr ⟨_, _, _, rfl, rfl, rfl⟩) (by kernel_rfl) (VP.take (i := 8) (v := .agg [.int .i64 c_437.x0, .int .i64 c_437.x1]) rfl (r_load_buf (n := 2) (f := 0) (j := 0) rfl sz49 rfl rfl hE_438 (map_get (getI_some hc_437).2 (Pr.c_eq c_437)) (Nat.le_of_ble_eq_true rfl) (fun _ => ofCells_agg rfl)) (.inr ⟨_, _, _, rfl, rfl, rfl⟩) (by kernel_rfl) (VP.take (i := 9) rfl (TOp.r (t_move rfl rfl)) (.inr ⟨_, _, _, rfl, rfl, rfl⟩) (by kernel_rfl) (VP.take (i := 10) rfl (TOp.r (t_move rfl rfl)) (.inr ⟨_, _, _, rfl, rfl, rfl⟩) (by kernel_rfl) (VP.take (i := 11) (v := .int .i64 (w64 (j_421 - 1))) rfl (TOp.r (t_sub rfl rfl (fun _ _ => rfl) rfl)) (.inr ⟨_, _, _, rfl, rfl, rfl⟩) (by kernel_rfl) ?_))))
    obtain ⟨c_439, hc_439, h⟩ := obind h
    refine VP.take (i := 12) (v := .ptr ob_438 ((w64 (j_421 - 1)).toNat * 2 + 0)) rfl (TOp.r (t_index_own rfl sl22 rfl rfl (getI_some hc_439).1 (by rw [hl_438]; exact getI_lt hc_439) rfl)) (.inr ⟨_, _, _, rfl, rfl, rfl⟩) (by kernel_rfl) (VP.take (i := 13) (v := .agg [.int .i64 c_439.x0, .int .i64 c_439.x1]) rfl (r_load_buf (n := 2) (f := 0) (j := 0) rfl sz49 rfl rfl hE_438 (map_get (getI_some hc_439).2 (Pr.c_eq c_439)) (Nat.le_of_ble_eq_true rfl) (fun _ => ofCells_agg rfl)) (.inr ⟨_, _, _, rfl, rfl, rfl⟩) (by kernel_rfl) (VP.done (by kernel_rfl) (VA.frontS 1 rfl ?_)))
    obtain ⟨rv_440, hx_441, h⟩ := obind h
    refine VA.w (i := 14) (fun v H' => .int .i64 rv_440 = v ∧ H' = hq ([a3_g, [(ob_438, .cells ((bu_419.map Pr.c).flatten ++ sl_438))]]) []) rfl (w_call_q (sa := [a3_g]) (sg := [[(ob_438, .cells ((bu_419.map Pr.c).flatten ++ sl_438))]]) (tks := []) rfl a3_k rfl ⟨_, _, rfl, rfl, _, _, rfl, rfl, rfl⟩ (a3_h _ _ _ hx_441) (by rintro v H' ⟨rfl, rfl⟩; exact ⟨[a3_g], rfl, rfl, rfl⟩)) (.inr ⟨_, _, _, rfl, rfl, rfl⟩) (by kernel_rfl) rfl ?_
    rintro _ _ ⟨rfl, rfl⟩
    refine VA.t (i := 15) (v := .bool (decide (rv_440 < 0))) rfl (t_cmp rfl rfl rfl (fun _ _ => rfl) rfl) (.inr ⟨_, _, _, rfl, rfl, rfl⟩) (by kernel_rfl) (VA.t (i := 16) (v := .bool (decide (rv_440 < 0))) rfl (t_pick (b := true) rfl rfl (fun _ => rfl) (fun h => by cases h)) (.inl rfl) (by kernel_rfl) (VA.done (by kernel_rfl) (thenQ_normal (VW.subK (.c 0 rfl (.c 1 rfl (.c 2 rfl (.c 3 rfl (.c 8 rfl (.c 9 rfl (.c 22 rfl (.c 23 rfl (.c 24 rfl (.c 25 rfl (.c 26 rfl (.c 27 rfl (.c 28 rfl (.c 29 rfl (.c 30 rfl (.c 31 rfl (.c 32 rfl (.c 33 rfl (.c 34 rfl .n))))))))))))))))))) rfl ?_))))
    refine VW.cond (b := (decide (rv_440 < 0))) rfl (fun hc_442 => ?_) (fun hc_442 => ?_)
    · replace h := iteT h hc_442
      refine VW.skip (thenQ_normal (VW.subK (.c 0 rfl (.c 1 rfl (.c 2 rfl (.c 3 rfl (.c 8 rfl (.c 9 rfl (.c 22 rfl (.c 23 rfl (.c 24 rfl (.c 25 rfl (.c 26 rfl (.c 27 rfl (.c 28 rfl (.c 29 rfl (.c 30 rfl (.c 31 rfl (.c 32 rfl (.c 33 rfl .n)))))))))))))))))) rfl (VW.seq (VW.block (VW.draw 18 mix rfl (VA.t (i := 0) rfl (t_move rfl rfl) (.inl rfl) (by kernel_rfl) (VA.t (i := 1) rfl (t_move rfl rfl) (.inl rfl) (by kernel_rfl) (VA.t (i := 2) rfl (t_move rfl rfl) (.inl rfl) (by kernel_rfl) (VA.t (i := 3) rfl (t_move rfl rfl) (.inl rfl) (by kernel_rfl) ?_)))))))))
      refine VA.t (i := 4) (v := .int .i64 (w64 (j_421 - 1))) rfl (t_sub rfl rfl (fun _ _ => rfl) rfl) (.inl rfl) (by kernel_rfl) (VA.phase (g := 3) [5, 6, 7, 8, 9, 10, 11, 12, 13, 14] 10 (VP.take (i := 5) rfl (TOp.r (t_move rfl rfl)) (.inl rfl) (by kernel_rfl) (VP.take (i := 6) rfl (TOp.r (t_move rfl rfl)) (.inl rfl) (by kernel_rfl) (VP.take (i := 7) (v := .int .i64 (w64 (j_421 - 1))) rfl (TOp.r (t_sub rfl rfl (fun _ _ => rfl) rfl)) (.inl rfl) (by kernel_rfl) (VP.take (i := 8) (v := .ptr ob_438 ((w64 (j_421 - 1)).toNat * 2 + 0)) rfl (TOp.r (t_index_own rfl sl22 rfl rfl (getI_some hc_439).1 (by rw [hl_438]; exact getI_lt hc_439) rfl)) (.inl rfl) (by kernel_rfl) (VP.take (i := 9) (v := .agg [.int .i64 c_439.x0, .int .i64 c_439.x1]) rfl (r_load_buf (n := 2) (f := 0) (j := 1) rfl sz49 rfl rfl hE_438 (map_get (getI_some hc_439).2 (Pr.c_eq c_439)) (Nat.le_of_ble_eq_true rfl) (fun _ => ofCells_agg rfl)) (.inl rfl) (by kernel_rfl) (VP.take (i := 10) rfl (TOp.r (t_move rfl rfl)) (.inl rfl) (by kernel_rfl) (VP.take (i := 11) rfl (TOp.r (t_move rfl rfl)) (.inl rfl) (by kernel_rfl) (VP.take (i := 12) (v := .ptr ob_438 (j_421.toNat * 2 + 0)) rfl (TOp.r (t_index_own rfl sl22 rfl rfl (getI_some hc_437).1 (by rw [hl_438]; exact getI_lt hc_437) rfl)) (.inl rfl) (by kernel_rfl) ?_)))))))))
      refine VP.take (i := 13) (v := .agg [.int .i64 c_437.x0, .int .i64 c_437.x1]) rfl (r_load_buf (n := 2) (f := 0) (j := 1) rfl sz49 rfl rfl hE_438 (map_get (getI_some hc_437).2 (Pr.c_eq c_437)) (Nat.le_of_ble_eq_true rfl) (fun _ => ofCells_agg rfl)) (.inl rfl) (by kernel_rfl) (VP.take (i := 14) (v := .ptr ob_438 (j_421.toNat * 2 + 0)) rfl (TOp.r (t_index_own rfl sl22 rfl rfl (getI_some hc_437).1 (by rw [hl_438]; exact getI_lt hc_437) rfl)) (.inl rfl) (by kernel_rfl) (VP.done (by kernel_rfl) (VA.w (i := 15) (fun v H' => .any = v ∧ H' = hq ([a3_g, [(ob_438, .cells (((bu_419.set j_421.toNat c_439).map Pr.c).flatten ++ sl_438))]]) []) rfl (w_store_buf (n := 2) (f := 0) (j := 1) rfl sz49 rfl rfl rfl hE_438 (map_get (getI_some hc_437).2 (Pr.c_eq c_437)) rfl rfl (Nat.le_of_ble_eq_true rfl) rfl (map_set (Pr.c_eq c_439)) ⟨rfl, rfl⟩) (.inl rfl) (by kernel_rfl) rfl ?_)))
      rintro _ _ ⟨rfl, rfl⟩
      have hl_444 : len_438 = (bu_419.set j_421.toNat c_439).length := by simp [hl_438]
      obtain ⟨c_445, hc_445, h⟩ := obind h
      refine VA.t (i := 16) (v := .ptr ob_438 ((w64 (j_421 - 1)).toNat * 2 + 0)) rfl (t_index_own rfl sl22 rfl rfl (getI_some hc_445).1 (by rw [hl_444]; exact getI_lt hc_445) rfl) (.inl rfl) (by kernel_rfl) (VA.w (i := 17) (fun v H' => .any = v ∧ H' = hq ([a3_g, [(ob_438, .cells ((((bu_419.set j_421.toNat c_439).set (w64 (j_421 - 1)).toNat c_437).map Pr.c).flatten ++ sl_438))]]) []) rfl (w_store_buf (n := 2) (f := 0) (j := 1) rfl sz49 rfl rfl rfl (elemsOK_map Pr.c_ok _) (map_get (getI_some hc_445).2 (Pr.c_eq c_445)) rfl rfl (Nat.le_of_ble_eq_true rfl) rfl (map_set (Pr.c_eq c_437)) ⟨rfl, rfl⟩) (.inl rfl) (by kernel_rfl) rfl ?_)
      rintro _ _ ⟨rfl, rfl⟩
      have hl_447 : len_438 = ((bu_419.set j_421.toNat c_439).set (w64 (j_421 - 1)).toNat c_437).length := by simp [hl_444]
      refine VA.done (by kernel_rfl) (blockQ_normal (thenQ_normal (VW.subK (.c 0 rfl (.c 1 rfl (.c 2 rfl (.c 3 rfl (.c 8 rfl (.c 9 rfl (.c 22 rfl (.c 23 rfl (.c 24 rfl (.c 25 rfl (.c 26 rfl (.c 27 rfl (.c 28 rfl (.c 29 rfl (.c 30 rfl (.c 31 rfl (.c 32 rfl (.c 33 rfl .n)))))))))))))))))) rfl (VW.region (VO.t (t_move rfl rfl) rfl rfl (VO.t (v := .int .i64 (w64 (j_421 - 1))) (t_sub rfl rfl (fun _ _ => rfl) rfl) rfl rfl (VO.t (v := .int .i64 (w64 (j_421 - 1))) (t_assign rfl rfl) rfl rfl (VO.nil (thenQ_normal (VL.round ?_))))))))))
      refine VW.subK (.c 0 rfl (.c 1 rfl (.c 2 rfl (.c 3 rfl (.c 8 rfl (.c 9 rfl .n)))))) rfl (VW.frontS 0 rfl (VW.frontS 1 rfl ?_))
      exact ih _ _ _ h (.own ob_438 cap_438 len_438) [(ob_438, .cells ((((bu_419.set j_421.toNat c_439).set (w64 (j_421 - 1)).toNat c_437).map Pr.c).flatten ++ sl_438))] (Buf.own (n := 2) (l := ((bu_419.set j_421.toNat c_439).set (w64 (j_421 - 1)).toNat c_437).map Pr.c) ob_438 cap_438 len_438 sl_438 (elemsOK_map Pr.c_ok _) (by simp [hl_447]) hc_438 hs_438) hx0
    · replace h := iteF h hc_442
      refine VW.subK (.c 0 rfl (.c 1 rfl (.c 2 rfl (.c 3 rfl (.c 8 rfl .n))))) rfl (VW.exit (thenQ_exit (thenQ_exit ?_)))
      have h := Option.some.inj h
      subst h
      exact hx0 _ [(ob_438, .cells ((bu_419.map Pr.c).flatten ++ sl_438))] rfl (Buf.own (n := 2) (l := bu_419.map Pr.c) ob_438 cap_438 len_438 sl_438 (elemsOK_map Pr.c_ok _) (by simp [hl_438]) hc_438 hs_438)
  · replace h := iteF h hc_436
    refine VA.skip (i := 4) rfl rfl rfl rfl rfl (by kernel_rfl) (VA.skip (i := 5) rfl rfl rfl rfl rfl (by kernel_rfl) (VA.skip (i := 6) rfl rfl rfl rfl rfl (by kernel_rfl) (VA.skip (i := 7) rfl rfl rfl rfl rfl (by kernel_rfl) (VA.skip (i := 8) rfl rfl rfl rfl rfl (by kernel_rfl) (VA.skip (i := 9) rfl rfl rfl rfl rfl (by kernel_rfl) (VA.skip (i := 10) rfl rfl rfl rfl rfl (by kernel_rfl) (VA.skip (i := 11) rfl rfl rfl rfl rfl (by kernel_rfl) (VA.skip (i := 12) rfl rfl rfl rfl rfl (by kernel_rfl) (VA.skip (i := 13) rfl rfl rfl rfl rfl (by kernel_rfl) ?_)))))))))
    refine VA.skip (i := 14) rfl rfl rfl rfl rfl (by kernel_rfl) (VA.skip (i := 15) rfl rfl rfl rfl rfl (by kernel_rfl) (VA.t (i := 16) (v := .bool false) rfl (t_pick (b := false) rfl rfl (fun h => by cases h) (fun _ => (fun _ _ => rfl))) (.inl rfl) (by kernel_rfl) (VA.done (by kernel_rfl) (thenQ_normal (VW.subK (.c 0 rfl (.c 1 rfl (.c 2 rfl (.c 3 rfl (.c 8 rfl (.c 9 rfl (.c 22 rfl (.c 23 rfl (.c 24 rfl (.c 25 rfl (.c 26 rfl (.c 27 rfl (.c 28 rfl (.c 29 rfl (.c 30 rfl (.c 31 rfl (.c 32 rfl (.c 33 rfl (.c 34 rfl .n))))))))))))))))))) rfl (VW.condF rfl (VW.subK (.c 0 rfl (.c 1 rfl (.c 2 rfl (.c 3 rfl (.c 8 rfl .n))))) rfl (VW.frontS 0 rfl (VW.frontS 1 rfl ?_)))))))))
    refine VW.exit (thenQ_exit (thenQ_exit ?_))
    have h := Option.some.inj h
    subst h
    exact hx0 _ bp0_420 rfl hbp0_420

theorem slices_insertionSortCmpFunc_2int.l0_ok (a3 : Pr → Pr → Option Int) (a1 : Int) (a2 : Int) (a3_f : Nat) (a3_a a3_c : List VV) (a3_g : Seg) (a3_k : FnOK Try.prog a3_f) (a3_h : ∀ (y0 : Pr) (y1 : Pr) (z : Int), a3 y0 y1 = some z → VCalls Try.prog a3_f (a3_a ++ [.agg [.int .i64 y0.x0, .int .i64 y0.x1], .agg [.int .i64 y1.x0, .int .i64 y1.x1]] ++ a3_c) (hq [a3_g] []) (fun v H => .int .i64 z = v ∧ H = hq [a3_g] [])) {Q : Exit → Env → HH → Prop} :
    ∀ (bu_355 : List Pr) (i_357 : Int) (o : (List Pr)), PL.slices_insertionSortCmpFunc_2int.l0 a3 a1 a2 bu_355 i_357 = some o →
    ∀ (vp0_356 : VV) (bp0_356 : Seg) (hbp0_356 : Buf 2 (bu_355.map Pr.c) vp0_356 bp0_356) (hx0 : ∀ (bu_403 : List Pr) (bp0_404 : Seg), bu_403 = o → Buf 2 (bu_403.map Pr.c) vp0_356 bp0_404 → Q (.exit 0) ⟨[], []⟩ (hq ([bp0_404, a3_g]) [])), VW Try.prog 53 (codeAt [1, 0, 0] (bodyOf Try.f61)) (thenQ (VL Try.prog 53 (codeAt [1, 0, 0] (bodyOf Try.f61)) Q) Q) ⟨[(0, vp0_356), (1, .int .i64 a1), (2, .int .i64 a2), (3, .func (.func a3_f) a3_a a3_c), (8, .int .i64 i_357)], []⟩ (hq ([bp0_356, a3_g]) []) := by
  refine PL.slices_insertionSortCmpFunc_2int.l0.partial_correctness a3 a1 a2 (motive := fun bu_355 i_357 o => ∀ (vp0_356 : VV) (bp0_356 : Seg) (hbp0_356 : Buf 2 (bu_355.map Pr.c) vp0_356 bp0_356) (hx0 : ∀ (bu_403 : List Pr) (bp0_404 : Seg), bu_403 = o → Buf 2 (bu_403.map Pr.c) vp0_356 bp0_404 → Q (.exit 0) ⟨[], []⟩ (hq ([bp0_404, a3_g]) [])), VW Try.prog 53 (codeAt [1, 0, 0] (bodyOf Try.f61)) (thenQ (VL Try.prog 53 (codeAt [1, 0, 0] (bodyOf Try.f61)) Q) Q) ⟨[(0, vp0_356), (1, .int .i64 a1), (2, .int .i64 a2), (3, .func (.func a3_f) a3_a a3_c), (8, .int .i64 i_357)], []⟩ (hq ([bp0_356, a3_g]) [])) ?_
  intro _ ih bu_355 i_357 o h vp0_356 bp0_356 hbp0_356 hx0
  refine VW.seq (VW.seq (VW.region (VO.t (t_move rfl rfl) rfl rfl (VO.t (t_move rfl rfl) rfl rfl (VO.t (v := .bool (decide (i_357 < a2))) (t_cmp rfl rfl rfl rfl rfl) rfl rfl (VO.nil (thenQ_normal (VW.subK (.c 0 rfl (.c 1 rfl (.c 2 rfl (.c 3 rfl (.c 8 rfl (.c 14 rfl .n)))))) rfl ?_))))))))
  refine VW.cond (b := (decide (i_357 < a2))) rfl (fun hc_405 => ?_) (fun hc_405 => ?_)
  · replace h := iteT h hc_405
    refine VW.skip (thenQ_normal (VW.subK (.c 0 rfl (.c 1 rfl (.c 2 rfl (.c 3 rfl (.c 8 rfl .n))))) rfl (VW.seq (VW.block (VW.seq (VW.region (VO.t (t_move rfl rfl) rfl rfl (VO.t (v := .int .i64 i_357) (t_assign rfl rfl) rfl rfl (VO.nil ?_)))))))))
    refine thenQ_normal (VW.subK (.c 0 rfl (.c 1 rfl (.c 2 rfl (.c 3 rfl (.c 8 rfl (.c 9 rfl .n)))))) rfl (VW.block (VW.subK (.c 0 rfl (.c 1 rfl (.c 2 rfl (.c 3 rfl (.c 8 rfl (.c 9 rfl .n)))))) rfl ?_)))
    obtain ⟨o_448, hx_449, h⟩ := obind h
    refine VW.loopL (slices_insertionSortCmpFunc_2int.l1_ok a3 a1 a2 i_357 a3_f a3_a a3_c a3_g a3_k a3_h _ _ _ hx_449 vp0_356 bp0_356 hbp0_356 ?_)
    · intro bu_434 bp0_435 ho_ hbp0_435
      subst ho_
      try dsimp only at h
      refine blockQ_hit (blockQ_normal (thenQ_normal (VW.region (VO.t (t_move rfl rfl) rfl rfl (VO.t (v := .int .i64 (w64 (i_357 + 1))) (t_add rfl rfl (fun _ _ => rfl) rfl) rfl rfl (VO.t (v := .int .i64 (w64 (i_357 + 1))) (t_assign rfl rfl) rfl rfl (VO.nil (thenQ_normal (VL.round ?_)))))))))
      refine VW.subK (.c 0 rfl (.c 1 rfl (.c 2 rfl (.c 3 rfl (.c 8 rfl .n))))) rfl (VW.frontS 0 rfl (VW.frontS 1 rfl ?_))
      exact ih _ _ _ h vp0_356 bp0_435 hbp0_435 hx0
  · replace h := iteF h hc_405
    refine VW.subN (t' := []) trivial rfl (VW.exit (thenQ_exit (thenQ_exit ?_)))
    have h := Option.some.inj h
    subst h
    exact hx0 _ bp0_356 rfl hbp0_356

theorem slices_insertionSortCmpFunc_2int_ok (a0 : List Pr) (a1 : Int) (a2 : Int) (a3 : Pr → Pr → Option Int) (r : List Pr) (h : PL.slices_insertionSortCmpFunc_2int a0 a1 a2 a3 = some r) (v0 : VV) (b0 : Seg) (a3_f : Nat) (a3_a : List VV) (a3_c : List VV) (a3_g : Seg) (hB0 : Buf 2 (a0.map Pr.c) v0 b0) (a3_k : FnOK Try.prog a3_f) (a3_h : ∀ (y0 : Pr) (y1 : Pr) (z : Int), a3 y0 y1 = some z → VCalls Try.prog a3_f (a3_a ++ [.agg [.int .i64 y0.x0, .int .i64 y0.x1], .agg [.int .i64 y1.x0, .int .i64 y1.x1]] ++ a3_c) (hq [a3_g] []) (fun v H => .int .i64 z = v ∧ H = hq [a3_g] [])) :
    VCalls Try.prog 61 [v0, .int .i64 a1, .int .i64 a2, .func (.func a3_f) a3_a a3_c] (hq [b0, a3_g] []) (fun v H => ∃ bk0, Buf 2 (r.map Pr.c) v0 bk0 ∧ .tup [] = v ∧ H = hq [bk0, a3_g] []) := by
  unfold PL.slices_insertionSortCmpFunc_2int at h
  refine VCalls.of_body 53 [] Try.func61 rfl rfl rfl (Nat.le_of_ble_eq_true rfl) (VW.subK (.c 0 rfl (.c 1 rfl (.c 2 rfl (.c 3 rfl .n)))) rfl (VW.seq (VW.region (VO.t (t_move rfl rfl) rfl rfl (VO.t (v := .int .i64 (w64 (a1 + 1))) (t_add rfl rfl (fun _ _ => rfl) rfl) rfl rfl (VO.t (v := .int .i64 (w64 (a1 + 1))) (t_assign rfl rfl) rfl rfl (VO.nil (thenQ_normal (VW.subK (.c 0 rfl (.c 1 rfl (.c 2 rfl (.c 3 rfl (.c 8 rfl .n))))) rfl ?_)))))))))
  refine VW.block (VW.subK (.c 0 rfl (.c 1 rfl (.c 2 rfl (.c 3 rfl (.c 8 rfl .n))))) rfl ?_)
  obtain ⟨o_450, hx_451, h⟩ := obind h
  refine VW.loopL (slices_insertionSortCmpFunc_2int.l0_ok a3 a1 a2 a3_f a3_a a3_c a3_g a3_k a3_h _ _ _ hx_451 v0 b0 hB0 ?_)
  · intro bu_403 bp0_404 ho_ hbp0_404
    subst ho_
    try dsimp only at h
    refine blockQ_hit ?_
    have h := Option.some.inj h
    subst h
    exact ⟨.inl rfl, rfl, _, .tup [], hq [bp0_404, a3_g] [], rfl, VLe.refl _, hq_sub (.cons_cons _ (.cons_cons _ .slnil)) .slnil, bp0_404, hbp0_404, rfl, rfl⟩

theorem slices_siftDownCmpFunc_2int.l0_ok (a4 : Pr → Pr → Option Int) (a2 : Int) (a3 : Int) (a4_f : Nat) (a4_a a4_c : List VV) (a4_g : Seg) (a4_k : FnOK Try.prog a4_f) (a4_h : ∀ (y0 : Pr) (y1 : Pr) (z : Int), a4 y0 y1 = some z → VCalls Try.prog a4_f (a4_a ++ [.agg [.int .i64 y0.x0, .int .i64 y0.x1], .agg [.int .i64 y1.x0, .int .i64 y1.x1]] ++ a4_c) (hq [a4_g] []) (fun v H => .int .i64 z = v ∧ H = hq [a4_g] [])) {Q : Exit → Env → HH → Prop} :
    ∀ (bu_489 : List Pr) (root_491 : Int) (o : (List Pr) ⊕ (List Pr)), PL.slices_siftDownCmpFunc_2int.l0 a4 a2 a3 bu_489 root_491 = some o →
    ∀ (vp0_490 : VV) (bp0_490 : Seg) (hbp0_490 : Buf 2 (bu_489.map Pr.c) vp0_490 bp0_490) (hx0 : ∀ (bu_528 : List Pr) (bp0_529 : Seg), Sum.inl bu_528 = o → Buf 2 (bu_528.map Pr.c) vp0_490 bp0_529 → Q (.exit 0) ⟨[], []⟩ (hq ([bp0_529, a4_g]) [])) (hx1 : ∀ (bu_530 : List Pr) (bp0_531 : Seg), Sum.inr bu_530 = o → Buf 2 (bu_530.map Pr.c) vp0_490 bp0_531 → Q .ret ⟨[], []⟩ (hq ([bp0_531, a4_g]) [])), VW Try.prog 82 (codeAt [1, 0, 0] (bodyOf Try.f72)) (thenQ (VL Try.prog 82 (codeAt [1, 0, 0] (bodyOf Try.f72)) Q) Q) ⟨[(0, vp0_490), (2, .int .i64 a2), (3, .int .i64 a3), (4, .func (.func a4_f) a4_a a4_c), (10, .int .i64 root_491)], []⟩ (hq ([bp0_490, a4_g]) []) := by
  refine PL.slices_siftDownCmpFunc_2int.l0.partial_correctness a4 a2 a3 (motive := fun bu_489 root_491 o => ∀ (vp0_490 : VV) (bp0_490 : Seg) (hbp0_490 : Buf 2 (bu_489.map Pr.c) vp0_490 bp0_490) (hx0 : ∀ (bu_528 : List Pr) (bp0_529 : Seg), Sum.inl bu_528 = o → Buf 2 (bu_528.map Pr.c) vp0_490 bp0_529 → Q (.exit 0) ⟨[], []⟩ (hq ([bp0_529, a4_g]) [])) (hx1 : ∀ (bu_530 : List Pr) (bp0_531 : Seg), Sum.inr bu_530 = o → Buf 2 (bu_530.map Pr.c) vp0_490 bp0_531 → Q .ret ⟨[], []⟩ (hq ([bp0_531, a4_g]) [])), VW Try.prog 82 (codeAt [1, 0, 0] (bodyOf Try.f72)) (thenQ (VL Try.prog 82 (codeAt [1, 0, 0] (bodyOf Try.f72)) Q) Q) ⟨[(0, vp0_490), (2, .int .i64 a2), (3, .int .i64 a3), (4, .func (.func a4_f) a4_a a4_c), (10, .int .i64 root_491)], []⟩ (hq ([bp0_490, a4_g]) [])) ?_
  intro _ ih bu_489 root_491 o h vp0_490 bp0_490 hbp0_490 hx0 hx1
  refine VW.block (VW.seq (VW.region (VO.t (t_move rfl rfl) rfl rfl (VO.t (v := .int .i64 (w64 (2 * root_491))) (t_mul rfl (fun _ _ => rfl) rfl rfl) rfl rfl (VO.t (v := .int .i64 (w64 ((w64 (2 * root_491)) + 1))) (t_add rfl rfl (fun _ _ => rfl) rfl) rfl rfl (VO.t (v := .int .i64 (w64 ((w64 (2 * root_491)) + 1))) (t_assign rfl rfl) rfl rfl (VO.nil (thenQ_normal (VW.subK (.c 0 rfl (.c 2 rfl (.c 3 rfl (.c 4 rfl (.c 10 rfl (.c 11 rfl .n)))))) rfl ?_)))))))))
  refine VW.seq (VW.seq (VW.region (VO.t (t_move rfl rfl) rfl rfl (VO.t (t_move rfl rfl) rfl rfl (VO.t (v := .bool (decide ((w64 ((w64 (2 * root_491)) + 1)) ≥ a2))) (t_cmp rfl rfl rfl rfl rfl) rfl rfl (VO.nil (thenQ_normal (VW.subK (.c 0 rfl (.c 2 rfl (.c 3 rfl (.c 4 rfl (.c 10 rfl (.c 11 rfl (.c 18 rfl .n))))))) rfl ?_))))))))
  refine VW.cond (b := (decide ((w64 ((w64 (2 * root_491)) + 1)) ≥ a2))) rfl (fun hc_532 => ?_) (fun hc_532 => ?_)
  · replace h := iteT h hc_532
    refine VW.subN (t' := []) trivial rfl (VW.exit (thenQ_exit (blockQ_miss rfl (thenQ_exit ?_))))
    have h := Option.some.inj h
    subst h
    exact hx0 _ bp0_490 rfl hbp0_490
  · replace h := iteF h hc_532
    refine VW.skip (thenQ_normal (VW.subK (.c 0 rfl (.c 2 rfl (.c 3 rfl (.c 4 rfl (.c 10 rfl (.c 11 rfl .n)))))) rfl (VW.seq (VW.seq (VW.draw 22 mix rfl (VA.t (i := 0) rfl (t_move rfl rfl) (.inl rfl) (by kernel_rfl) (VA.t (i := 1) (v := .int .i64 (w64 ((w64 ((w64 (2 * root_491)) + 1)) + 1))) rfl (t_add rfl rfl (fun _ _ => rfl) rfl) (.inl rfl) (by kernel_rfl) (VA.t (i := 2) rfl (t_move rfl rfl) (.inl rfl) (by kernel_rfl) (VA.t (i := 3) (v := .bool (decide ((w64 ((w64 ((w64 (2 * root_491)) + 1)) + 1)) < a2))) rfl (t_cmp rfl rfl rfl rfl rfl) (.inl rfl) (by kernel_rfl) ?_)))))))))
    refine VA.t (i := 4) rfl (t_move rfl rfl) (.inl rfl) (by kernel_rfl) ?_
    refine VA.caseB (d := 23) (b := (decide ((w64 ((w64 ((w64 (2 * root_491)) + 1)) + 1)) < a2))) rfl (fun hc_533 => ?_) (fun hc_533 => ?_)
    · replace h := iteT h hc_533
      refine VA.phase (g := 3) [5, 6, 7, 8, 9, 10, 11, 12, 13, 14, 15, 16, 17, 18] 14 (VP.take (i := 5) rfl (TOp.r (t_move rfl rfl)) (.inr ⟨_, _, _, rfl, rfl, rfl⟩) (by kernel_rfl) (VP.take (i := 6) rfl (TOp.r (t_move rfl rfl)) (.inr ⟨_, _, _, rfl, rfl, rfl⟩) (by kernel_rfl) (VP.take (i := 7) rfl (TOp.r (t_move rfl rfl)) (.inr ⟨_, _, _, rfl, rfl, rfl⟩) (by kernel_rfl) (VP.take (i := 8) rfl (TOp.r (t_move rfl rfl)) (.inr ⟨_, _, _, rfl, rfl, rfl⟩) (by kernel_rfl) (VP.take (i := 9) (v := .int .i64 (w64 (a3 + (w64 ((w64 (2 * root_491)) + 1))))) rfl (TOp.r (t_add rfl rfl rfl rfl)) (.inr ⟨_, _, _, rfl, rfl, rfl⟩) (by kernel_rfl) ?_)))))
      obtain ⟨c_534, hc_534, h⟩ := obind h
      obtain ⟨ob_535, cap_535, len_535, sl_535, rfl, rfl, hE_535, hl_535, hc_535, hs_535⟩ := buf_at hbp0_490 hc_534
      refine VP.take (i := 10) (v := .ptr ob_535 ((w64 (a3 + (w64 ((w64 (2 * root_491)) + 1)))).toNat * 2 + 0)) rfl (TOp.r (t_index_own rfl sl22 rfl rfl (getI_some hc_534).1 (by rw [hl_535]; exact getI_lt hc_534) rfl)) (.inr ⟨_, _, _, rfl, rfl, rfl⟩) (by kernel_rfl) (VP.take (i := 11) (v := .agg [.int .i64 c_534.x0, .int .i64 c_534.x1]) rfl (r_load_buf (n := 2) (f := 0) (j := 0) rfl sz49 rfl rfl hE_535 (map_get (getI_some hc_534).2 (Pr.c_eq c_534)) (Nat.le_of_ble_eq_true rfl) (fun _ => ofCells_agg rfl)) (.inr ⟨_, _, _, rfl, rfl, rfl⟩) (by kernel_rfl) (VP.take (i := 12) rfl (TOp.r (t_move rfl rfl)) (.inr ⟨_, _, _, rfl, rfl, rfl⟩) (by kernel_rfl) (VP.take (i := 13) rfl (TOp.r (t_move rfl rfl)) (.inr ⟨_, _, _, rfl, rfl, rfl⟩) (by kernel_rfl) (VP.take (i := 14) rfl (TOp.r (t_move rfl rfl)) (.inr ⟨_, _, _, rfl, rfl, rfl⟩) (by kernel_rfl) (VP.take (i := 15) (v := .int .i64 (w64 (a3 + (w64 ((w64 (2 * root_491)) + 1))))) rfl (TOp.r (t_add rfl rfl rfl rfl)) (.inr ⟨_, _, _, rfl, rfl, rfl⟩) (by kernel_rfl) (VP.take (i := 16) (v := .int .i64 (w64 ((w64 (a3 + (w64 ((w64 (2 * root_491)) + 1)))) + 1))) rfl (TOp.r (t_add rfl rfl (fun _ _ => rfl) rfl)) (.inr ⟨_, _, _, rfl, rfl, rfl⟩) (by kernel_rfl) ?_))))))
      obtain ⟨c_536, hc_536, h⟩ := obind h
      refine VP.take (i := 17) (v := .ptr ob_535 ((w64 ((w64 (a3 + (w64 ((w64 (2 * root_491)) + 1)))) + 1)).toNat * 2 + 0)) rfl (TOp.r (t_index_own rfl sl22 rfl rfl (getI_some hc_536).1 (by rw [hl_535]; exact getI_lt hc_536) rfl)) (.inr ⟨_, _, _, rfl, rfl, rfl⟩) (by kernel_rfl) (VP.take (i := 18) (v := .agg [.int .i64 c_536.x0, .int .i64 c_536.x1]) rfl (r_load_buf (n := 2) (f := 0) (j := 0) rfl sz49 rfl rfl hE_535 (map_get (getI_some hc_536).2 (Pr.c_eq c_536)) (Nat.le_of_ble_eq_true rfl) (fun _ => ofCells_agg rfl)) (.inr ⟨_, _, _, rfl, rfl, rfl⟩) (by kernel_rfl) (VP.done (by kernel_rfl) (VA.frontS 1 rfl ?_)))
      obtain ⟨rv_537, hx_538, h⟩ := obind h
      refine VA.w (i := 19) (fun v H' => .int .i64 rv_537 = v ∧ H' = hq ([a4_g, [(ob_535, .cells ((bu_489.map Pr.c).flatten ++ sl_535))]]) []) rfl (w_call_q (sa := [a4_g]) (sg := [[(ob_535, .cells ((bu_489.map Pr.c).flatten ++ sl_535))]]) (tks := []) rfl a4_k rfl ⟨_, _, rfl, rfl, _, _, rfl, rfl, rfl⟩ (a4_h _ _ _ hx_538) (by rintro v H' ⟨rfl, rfl⟩; exact ⟨[a4_g], rfl, rfl, rfl⟩)) (.inr ⟨_, _, _, rfl, rfl, rfl⟩) (by kernel_rfl) rfl ?_
      rintro _ _ ⟨rfl, rfl⟩
      refine VA.t (i := 20) (v := .bool (decide (rv_537 < 0))) rfl (t_cmp rfl rfl rfl (fun _ _ => rfl) rfl) (.inr ⟨_, _, _, rfl, rfl, rfl⟩) (by kernel_rfl) (VA.t (i := 21) (v := .bool (decide (rv_537 < 0))) rfl (t_pick (b := true) rfl rfl (fun _ => rfl) (fun h => by cases h)) (.inl rfl) (by kernel_rfl) (VA.done (by kernel_rfl) (thenQ_normal (VW.subK (.c 0 rfl (.c 2 rfl (.c 3 rfl (.c 4 rfl (.c 10 rfl (.c 11 rfl (.c 24 rfl (.c 25 rfl (.c 26 rfl (.c 27 rfl (.c 28 rfl (.c 29 rfl (.c 30 rfl (.c 31 rfl (.c 32 rfl (.c 33 rfl (.c 34 rfl (.c 35 rfl (.c 36 rfl (.c 37 rfl (.c 38 rfl (.c 39 rfl (.c 40 rfl .n))))))))))))))))))))))) rfl ?_))))
      obtain ⟨o_544, h, hx_542⟩ := obind h
      refine VW.joinQ (E := Int × Seg) (I := fun ⟨child_541, bp0_540⟩ => child_541 = o_544 ∧ Buf 2 (bu_489.map Pr.c) (.own ob_535 cap_535 len_535) bp0_540 ∧ True) (env' := fun ⟨child_541, bp0_540⟩ => ⟨[(0, .own ob_535 cap_535 len_535), (2, .int .i64 a2), (3, .int .i64 a3), (4, .func (.func a4_f) a4_a a4_c), (10, .int .i64 root_491), (24, .func (.func a4_f) a4_a a4_c), (25, .own ob_535 cap_535 len_535), (26, .int .i64 a3), (27, .int .i64 (w64 ((w64 (2 * root_491)) + 1))), (28, .int .i64 (w64 (a3 + (w64 ((w64 (2 * root_491)) + 1))))), (30, .agg [.int .i64 c_534.x0, .int .i64 c_534.x1]), (31, .own ob_535 cap_535 len_535), (32, .int .i64 a3), (33, .int .i64 (w64 ((w64 (2 * root_491)) + 1))), (34, .int .i64 (w64 (a3 + (w64 ((w64 (2 * root_491)) + 1))))), (35, .int .i64 (w64 ((w64 (a3 + (w64 ((w64 (2 * root_491)) + 1)))) + 1))), (37, .agg [.int .i64 c_536.x0, .int .i64 c_536.x1]), (38, .int .i64 rv_537), (39, .bool (decide (rv_537 < 0))), (11, .int .i64 child_541)], []⟩) (H' := fun ⟨child_541, bp0_540⟩ => hq ([a4_g, bp0_540]) []) ?_ (fun J_543 => ?_)
      · rintro ⟨child_541, bp0_540⟩ ⟨ho_, hbp0_540, _⟩
        subst ho_
        replace h := hx_542
        clear hx_542
        try dsimp only at h
        show VW _ _ _ _ ⟨[(0, .own ob_535 cap_535 len_535), (2, .int .i64 a2), (3, .int .i64 a3), (4, .func (.func a4_f) a4_a a4_c), (10, .int .i64 root_491), (24, .func (.func a4_f) a4_a a4_c), (25, .own ob_535 cap_535 len_535), (26, .int .i64 a3), (27, .int .i64 (w64 ((w64 (2 * root_491)) + 1))), (28, .int .i64 (w64 (a3 + (w64 ((w64 (2 * root_491)) + 1))))), (30, .agg [.int .i64 c_534.x0, .int .i64 c_534.x1]), (31, .own ob_535 cap_535 len_535), (32, .int .i64 a3), (33, .int .i64 (w64 ((w64 (2 * root_491)) + 1))), (34, .int .i64 (w64 (a3 + (w64 ((w64 (2 * root_491)) + 1))))), (35, .int .i64 (w64 ((w64 (a3 + (w64 ((w64 (2 * root_491)) + 1)))) + 1))), (37, .agg [.int .i64 c_536.x0, .int .i64 c_536.x1]), (38, .int .i64 rv_537), (39, .bool (decide (rv_537 < 0))), (11, .int .i64 child_541)], []⟩ (hq ([a4_g, bp0_540]) [])
        refine VW.seq (VW.seq (VW.draw 16 mix rfl (VA.phase (g := 3) [0, 1, 2, 3, 4, 5, 6, 7, 8, 9, 10, 11, 12] 13 (VP.take (i := 0) rfl (TOp.r (t_move rfl rfl)) (.inl rfl) (by kernel_rfl) (VP.take (i := 1) rfl (TOp.r (t_move rfl rfl)) (.inl rfl) (by kernel_rfl) (VP.take (i := 2) rfl (TOp.r (t_move rfl rfl)) (.inl rfl) (by kernel_rfl) (VP.take (i := 3) rfl (TOp.r (t_move rfl rfl)) (.inl rfl) (by kernel_rfl) (VP.take (i := 4) (v := .int .i64 (w64 (a3 + root_491))) rfl (TOp.r (t_add rfl rfl rfl rfl)) (.inl rfl) (by kernel_rfl) ?_))))))))
        obtain ⟨c_545, hc_545, h⟩ := obind h
        obtain ⟨sl_546, rfl, hE_546, hl_546, hc_546, hs_546⟩ := buf_own hbp0_540
        refine VP.take (i := 5) (v := .ptr ob_535 ((w64 (a3 + root_491)).toNat * 2 + 0)) rfl (TOp.r (t_index_own rfl sl22 rfl rfl (getI_some hc_545).1 (by rw [hl_546]; exact getI_lt hc_545) rfl)) (.inl rfl) (by kernel_rfl) (VP.take (i := 6) (v := .agg [.int .i64 c_545.x0, .int .i64 c_545.x1]) rfl (r_load_buf (n := 2) (f := 0) (j := 1) rfl sz49 rfl rfl hE_546 (map_get (getI_some hc_545).2 (Pr.c_eq c_545)) (Nat.le_of_ble_eq_true rfl) (fun _ => ofCells_agg rfl)) (.inl rfl) (by kernel_rfl) (VP.take (i := 7) rfl (TOp.r (t_move rfl rfl)) (.inl rfl) (by kernel_rfl) (VP.take (i := 8) rfl (TOp.r (t_move rfl rfl)) (.inl rfl) (by kernel_rfl) (VP.take (i := 9) rfl (TOp.r (t_move rfl rfl)) (.inl rfl) (by kernel_rfl) (VP.take (i := 10) (v := .int .i64 (w64 (a3 + child_541))) rfl (TOp.r (t_add rfl rfl rfl rfl)) (.inl rfl) (by kernel_rfl) ?_)))))
        obtain ⟨c_547, hc_547, h⟩ := obind h
        refine VP.take (i := 11) (v := .ptr ob_535 ((w64 (a3 + child_541)).toNat * 2 + 0)) rfl (TOp.r (t_index_own rfl sl22 rfl rfl (getI_some hc_547).1 (by rw [hl_546]; exact getI_lt hc_547) rfl)) (.inl rfl) (by kernel_rfl) (VP.take (i := 12) (v := .agg [.int .i64 c_547.x0, .int .i64 c_547.x1]) rfl (r_load_buf (n := 2) (f := 0) (j := 1) rfl sz49 rfl rfl hE_546 (map_get (getI_some hc_547).2 (Pr.c_eq c_547)) (Nat.le_of_ble_eq_true rfl) (fun _ => ofCells_agg rfl)) (.inl rfl) (by kernel_rfl) (VP.done (by kernel_rfl) ?_))
        obtain ⟨rv_548, hx_549, h⟩ := obind h
        refine VA.w (i := 13) (fun v H' => .int .i64 rv_548 = v ∧ H' = hq ([a4_g, [(ob_535, .cells ((bu_489.map Pr.c).flatten ++ sl_546))]]) []) rfl (w_call_q (sa := [a4_g]) (sg := [[(ob_535, .cells ((bu_489.map Pr.c).flatten ++ sl_546))]]) (tks := []) rfl a4_k rfl ⟨_, _, rfl, rfl, _, _, rfl, rfl, rfl⟩ (a4_h _ _ _ hx_549) (by rintro v H' ⟨rfl, rfl⟩; exact ⟨[a4_g], rfl, rfl, rfl⟩)) (.inl rfl) (by kernel_rfl) rfl ?_
        rintro _ _ ⟨rfl, rfl⟩
        refine VA.t (i := 14) (v := .bool (decide (rv_548 < 0))) rfl (t_cmp rfl rfl rfl (fun _ _ => rfl) rfl) (.inl rfl) (by kernel_rfl) (VA.t (i := 15) (v := .bool (!(decide (rv_548 < 0)))) rfl (t_not rfl rfl rfl) (.inl rfl) (by kernel_rfl) (VA.done (by kernel_rfl) (thenQ_normal (VW.subK (.c 0 rfl (.c 2 rfl (.c 3 rfl (.c 4 rfl (.c 10 rfl (.c 24 rfl (.c 25 rfl (.c 26 rfl (.c 27 rfl (.c 28 rfl (.c 30 rfl (.c 31 rfl (.c 32 rfl (.c 33 rfl (.c 34 rfl (.c 35 rfl (.c 37 rfl (.c 38 rfl (.c 39 rfl (.c 11 rfl (.c 58 rfl .n))))))))))))))))))))) rfl ?_))))
        refine VW.cond (b := (!(decide (rv_548 < 0)))) rfl (fun hc_550 => ?_) (fun hc_550 => ?_)
        · replace h := iteT h hc_550
          refine VW.subN (t' := []) trivial rfl (VW.frontS 0 rfl (VW.frontS 1 rfl (VW.subN (t' := []) trivial rfl (VW.ret (thenQ_ret (blockQ_ret (thenQ_ret ?_)))))))
          have h := Option.some.inj h
          subst h
          exact hx1 _ [(ob_535, .cells ((bu_489.map Pr.c).flatten ++ sl_546))] rfl (Buf.own (n := 2) (l := bu_489.map Pr.c) ob_535 cap_535 len_535 sl_546 (elemsOK_map Pr.c_ok _) (by simp [hl_546]) hc_546 hs_546)
        · replace h := iteF h hc_550
          refine VW.skip (thenQ_normal (VW.subK (.c 0 rfl (.c 2 rfl (.c 3 rfl (.c 4 rfl (.c 10 rfl (.c 24 rfl (.c 25 rfl (.c 26 rfl (.c 27 rfl (.c 28 rfl (.c 30 rfl (.c 31 rfl (.c 32 rfl (.c 33 rfl (.c 34 rfl (.c 35 rfl (.c 37 rfl (.c 38 rfl (.c 39 rfl (.c 11 rfl .n)))))))))))))))))))) rfl (VW.seq (VW.draw 24 mix rfl (VA.t (i := 0) rfl (t_move rfl rfl) (.inl rfl) (by kernel_rfl) (VA.t (i := 1) rfl (t_move rfl rfl) (.inl rfl) (by kernel_rfl) (VA.t (i := 2) rfl (t_move rfl rfl) (.inl rfl) (by kernel_rfl) (VA.t (i := 3) (v := .int .i64 (w64 (a3 + root_491))) rfl (t_add rfl rfl rfl rfl) (.inl rfl) (by kernel_rfl) (VA.t (i := 4) rfl (t_move rfl rfl) (.inl rfl) (by kernel_rfl) ?_)))))))))
          refine VA.t (i := 5) rfl (t_move rfl rfl) (.inl rfl) (by kernel_rfl) (VA.t (i := 6) rfl (t_move rfl rfl) (.inl rfl) (by kernel_rfl) (VA.t (i := 7) (v := .int .i64 (w64 (a3 + child_541))) rfl (t_add rfl rfl rfl rfl) (.inl rfl) (by kernel_rfl) (VA.phase (g := 3) [8, 9, 10, 11, 12, 13, 14, 15, 16, 17, 18, 19, 20] 13 (VP.take (i := 8) rfl (TOp.r (t_move rfl rfl)) (.inl rfl) (by kernel_rfl) (VP.take (i := 9) rfl (TOp.r (t_move rfl rfl)) (.inl rfl) (by kernel_rfl) (VP.take (i := 10) rfl (TOp.r (t_move rfl rfl)) (.inl rfl) (by kernel_rfl) (VP.take (i := 11) (v := .int .i64 (w64 (a3 + child_541))) rfl (TOp.r (t_add rfl rfl rfl rfl)) (.inl rfl) (by kernel_rfl) (VP.take (i := 12) (v := .ptr ob_535 ((w64 (a3 + child_541)).toNat * 2 + 0)) rfl (TOp.r (t_index_own rfl sl22 rfl rfl (getI_some hc_547).1 (by rw [hl_546]; exact getI_lt hc_547) rfl)) (.inl rfl) (by kernel_rfl) (VP.take (i := 13) (v := .agg [.int .i64 c_547.x0, .int .i64 c_547.x1]) rfl (r_load_buf (n := 2) (f := 0) (j := 1) rfl sz49 rfl rfl hE_546 (map_get (getI_some hc_547).2 (Pr.c_eq c_547)) (Nat.le_of_ble_eq_true rfl) (fun _ => ofCells_agg rfl)) (.inl rfl) (by kernel_rfl) ?_)))))))))
          refine VP.take (i := 14) rfl (TOp.r (t_move rfl rfl)) (.inl rfl) (by kernel_rfl) (VP.take (i := 15) rfl (TOp.r (t_move rfl rfl)) (.inl rfl) (by kernel_rfl) (VP.take (i := 16) rfl (TOp.r (t_move rfl rfl)) (.inl rfl) (by kernel_rfl) (VP.take (i := 17) (v := .int .i64 (w64 (a3 + root_491))) rfl (TOp.r (t_add rfl rfl rfl rfl)) (.inl rfl) (by kernel_rfl) (VP.take (i := 18) (v := .ptr ob_535 ((w64 (a3 + root_491)).toNat * 2 + 0)) rfl (TOp.r (t_index_own rfl sl22 rfl rfl (getI_some hc_545).1 (by rw [hl_546]; exact getI_lt hc_545) rfl)) (.inl rfl) (by kernel_rfl) (VP.take (i := 19) (v := .agg [.int .i64 c_545.x0, .int .i64 c_545.x1]) rfl (r_load_buf (n := 2) (f := 0) (j := 1) rfl sz49 rfl rfl hE_546 (map_get (getI_some hc_545).2 (Pr.c_eq c_545)) (Nat.le_of_ble_eq_true rfl) (fun _ => ofCells_agg rfl)) (.inl rfl) (by kernel_rfl) (VP.take (i := 20) (v := .ptr ob_535 ((w64 (a3 + root_491)).toNat * 2 + 0)) rfl (TOp.r (t_index_own rfl sl22 rfl rfl (getI_some hc_545).1 (by rw [hl_546]; exact getI_lt hc_545) rfl)) (.inl rfl) (by kernel_rfl) (VP.done (by kernel_rfl) (VA.w (i := 21) (fun v H' => .any = v ∧ H' = hq ([a4_g, [(ob_535, .cells (((bu_489.set (w64 (a3 + root_491)).toNat c_547).map Pr.c).flatten ++ sl_546))]]) []) rfl (w_store_buf (n := 2) (f := 0) (j := 1) rfl sz49 rfl rfl rfl hE_546 (map_get (getI_some hc_545).2 (Pr.c_eq c_545)) rfl rfl (Nat.le_of_ble_eq_true rfl) rfl (map_set (Pr.c_eq c_547)) ⟨rfl, rfl⟩) (.inl rfl) (by kernel_rfl) rfl ?_))))))))
          rintro _ _ ⟨rfl, rfl⟩
          have hl_552 : len_535 = (bu_489.set (w64 (a3 + root_491)).toNat c_547).length := by simp [hl_546]
          obtain ⟨c_553, hc_553, h⟩ := obind h
          refine VA.t (i := 22) (v := .ptr ob_535 ((w64 (a3 + child_541)).toNat * 2 + 0)) rfl (t_index_own rfl sl22 rfl rfl (getI_some hc_553).1 (by rw [hl_552]; exact getI_lt hc_553) rfl) (.inl rfl) (by kernel_rfl) (VA.w (i := 23) (fun v H' => .any = v ∧ H' = hq ([a4_g, [(ob_535, .cells ((((bu_489.set (w64 (a3 + root_491)).toNat c_547).set (w64 (a3 + child_541)).toNat c_545).map Pr.c).flatten ++ sl_546))]]) []) rfl (w_store_buf (n := 2) (f := 0) (j := 1) rfl sz49 rfl rfl rfl (elemsOK_map Pr.c_ok _) (map_get (getI_some hc_553).2 (Pr.c_eq c_553)) rfl rfl (Nat.le_of_ble_eq_true rfl) rfl (map_set (Pr.c_eq c_545)) ⟨rfl, rfl⟩) (.inl rfl) (by kernel_rfl) rfl ?_)
          rintro _ _ ⟨rfl, rfl⟩
          have hl_555 : len_535 = ((bu_489.set (w64 (a3 + root_491)).toNat c_547).set (w64 (a3 + child_541)).toNat c_545).length := by simp [hl_552]
          refine VA.done (by kernel_rfl) (thenQ_normal (VW.subK (.c 0 rfl (.c 2 rfl (.c 3 rfl (.c 4 rfl (.c 24 rfl (.c 25 rfl (.c 26 rfl (.c 27 rfl (.c 28 rfl (.c 30 rfl (.c 31 rfl (.c 32 rfl (.c 33 rfl (.c 34 rfl (.c 35 rfl (.c 37 rfl (.c 38 rfl (.c 39 rfl (.c 11 rfl .n))))))))))))))))))) rfl (VW.region (VO.t (t_move rfl rfl) rfl rfl (VO.t (v := .int .i64 child_541) (t_assign rfl rfl) rfl rfl (VO.nil (blockQ_normal (thenQ_normal (VL.round ?_)))))))))
          refine VW.subK (.c 0 rfl (.c 2 rfl (.c 3 rfl (.c 4 rfl (.c 10 rfl .n))))) rfl (VW.frontS 0 rfl (VW.frontS 1 rfl ?_))
          exact ih _ _ _ h (.own ob_535 cap_535 len_535) [(ob_535, .cells ((((bu_489.set (w64 (a3 + root_491)).toNat c_547).set (w64 (a3 + child_541)).toNat c_545).map Pr.c).flatten ++ sl_546))] (Buf.own (n := 2) (l := ((bu_489.set (w64 (a3 + root_491)).toNat c_547).set (w64 (a3 + child_541)).toNat c_545).map Pr.c) ob_535 cap_535 len_535 sl_546 (elemsOK_map Pr.c_ok _) (by simp [hl_555]) hc_546 hs_546) hx0 hx1
      · refine VW.cond (b := (decide (rv_537 < 0))) rfl (fun hc_556 => ?_) (fun hc_556 => ?_)
        · replace h := iteT h hc_556
          refine VW.region (VO.t (t_move rfl rfl) rfl rfl (VO.t (v := .int .i64 (w64 ((w64 ((w64 (2 * root_491)) + 1)) + 1))) (t_add rfl rfl (fun _ _ => rfl) rfl) rfl rfl (VO.t (v := .int .i64 (w64 ((w64 ((w64 (2 * root_491)) + 1)) + 1))) (t_assign rfl rfl) rfl rfl (VO.subK (.c 0 rfl (.c 2 rfl (.c 3 rfl (.c 4 rfl (.c 10 rfl (.c 24 rfl (.c 25 rfl (.c 26 rfl (.c 27 rfl (.c 28 rfl (.c 30 rfl (.c 31 rfl (.c 32 rfl (.c 33 rfl (.c 34 rfl (.c 35 rfl (.c 37 rfl (.c 38 rfl (.c 39 rfl (.c 11 rfl .n)))))))))))))))))))) rfl (VO.nil ?_)))))
          exact thenQ_normal (J_543 ⟨w64 ((w64 ((w64 (2 * root_491)) + 1)) + 1), [(ob_535, .cells ((bu_489.map Pr.c).flatten ++ sl_535))]⟩ ⟨Option.some.inj h, (Buf.own (n := 2) (l := bu_489.map Pr.c) ob_535 cap_535 len_535 sl_535 (elemsOK_map Pr.c_ok _) (by simp [hl_535]) hc_535 hs_535), trivial⟩)
        · replace h := iteF h hc_556
          refine VW.subK (.c 0 rfl (.c 2 rfl (.c 3 rfl (.c 4 rfl (.c 10 rfl (.c 24 rfl (.c 25 rfl (.c 26 rfl (.c 27 rfl (.c 28 rfl (.c 30 rfl (.c 31 rfl (.c 32 rfl (.c 33 rfl (.c 34 rfl (.c 35 rfl (.c 37 rfl (.c 38 rfl (.c 39 rfl (.c 11 rfl .n)))))))))))))))))))) rfl (VW.skip ?_)
          exact thenQ_normal (J_543 ⟨w64 ((w64 (2 * root_491)) + 1), [(ob_535, .cells ((bu_489.map Pr.c).flatten ++ sl_535))]⟩ ⟨Option.some.inj h, (Buf.own (n := 2) (l := bu_489.map Pr.c) ob_535 cap_535 len_535 sl_535 (elemsOK_map Pr.c_ok _) (by simp [hl_535]) hc_535 hs_535), trivial⟩)
    · replace h := iteF h hc_533
      refine VA.skip (i := 5) rfl rfl rfl rfl rfl (by kernel_rfl) (VA.skip (i := 6) rfl rfl rfl rfl rfl (by kernel_rfl) (VA.skip (i := 7) rfl rfl rfl rfl rfl (by kernel_rfl) (VA.skip (i := 8) rfl rfl rfl rfl rfl (by kernel_rfl) (VA.skip (i := 9) rfl rfl rfl rfl rfl (by kernel_rfl) (VA.skip (i := 10) rfl rfl rfl rfl rfl (by kernel_rfl) (VA.skip (i := 11) rfl rfl rfl rfl rfl (by kernel_rfl) (VA.skip (i := 12) rfl rfl rfl rfl rfl (by kernel_rfl) (VA.skip (i := 13) rfl rfl rfl rfl rfl (by kernel_rfl) (VA.skip (i := 14) rfl rfl rfl rfl rfl (by kernel_rfl) ?_)))))))))
      refine VA.skip (i := 15) rfl rfl rfl rfl rfl (by kernel_rfl) (VA.skip (i := 16) rfl rfl rfl rfl rfl (by kernel_rfl) (VA.skip (i := 17) rfl rfl rfl rfl rfl (by kernel_rfl) (VA.skip (i := 18) rfl rfl rfl rfl rfl (by kernel_rfl) (VA.skip (i := 19) rfl rfl rfl rfl rfl (by kernel_rfl) (VA.skip (i := 20) rfl rfl rfl rfl rfl (by kernel_rfl) (VA.t (i := 21) (v := .bool false) rfl (t_pick (b := false) rfl rfl (fun h => by cases h) (fun _ => (fun _ _ => rfl))) (.inl rfl) (by kernel_rfl) (VA.done (by kernel_rfl) (thenQ_normal (VW.subK (.c 0 rfl (.c 2 rfl (.c 3 rfl (.c 4 rfl (.c 10 rfl (.c 11 rfl (.c 24 rfl (.c 25 rfl (.c 26 rfl (.c 27 rfl (.c 28 rfl (.c 29 rfl (.c 30 rfl (.c 31 rfl (.c 32 rfl (.c 33 rfl (.c 34 rfl (.c 35 rfl (.c 36 rfl (.c 37 rfl (.c 38 rfl (.c 39 rfl (.c 40 rfl .n))))))))))))))))))))))) rfl ?_)))))))))
      refine VW.condF rfl (VW.skip (thenQ_normal (VW.subK (.c 0 rfl (.c 2 rfl (.c 3 rfl (.c 4 rfl (.c 10 rfl (.c 11 rfl (.c 24 rfl (.c 25 rfl (.c 26 rfl (.c 27 rfl (.c 28 rfl (.c 29 rfl (.c 30 rfl (.c 31 rfl (.c 32 rfl (.c 33 rfl (.c 34 rfl (.c 35 rfl (.c 36 rfl (.c 37 rfl (.c 38 rfl (.c 39 rfl .n)))))))))))))))))))))) rfl (VW.seq (VW.seq (VW.draw 16 mix rfl (VA.phase (g := 3) [0, 1, 2, 3, 4, 5, 6, 7, 8, 9, 10, 11, 12] 13 (VP.take (i := 0) rfl (TOp.r (t_move rfl rfl)) (.inl rfl) (by kernel_rfl) (VP.take (i := 1) rfl (TOp.r (t_move rfl rfl)) (.inl rfl) (by kernel_rfl) ?_)))))))))
      refine VP.take (i := 2) rfl (TOp.r (t_move rfl rfl)) (.inl rfl) (by kernel_rfl) (VP.take (i := 3) rfl (TOp.r (t_move rfl rfl)) (.inl rfl) (by kernel_rfl) (VP.take (i := 4) (v := .int .i64 (w64 (a3 + root_491))) rfl (TOp.r (t_add rfl rfl rfl rfl)) (.inl rfl) (by kernel_rfl) ?_))
      obtain ⟨c_557, hc_557, h⟩ := obind h
      obtain ⟨ob_558, cap_558, len_558, sl_558, rfl, rfl, hE_558, hl_558, hc_558, hs_558⟩ := buf_at hbp0_490 hc_557
      refine VP.take (i := 5) (v := .ptr ob_558 ((w64 (a3 + root_491)).toNat * 2 + 0)) rfl (TOp.r (t_index_own rfl sl22 rfl rfl (getI_some hc_557).1 (by rw [hl_558]; exact getI_lt hc_557) rfl)) (.inl rfl) (by kernel_rfl) (VP.take (i := 6) (v := .agg [.int .i64 c_557.x0, .int .i64 c_557.x1]) rfl (r_load_buf (n := 2) (f := 0) (j := 0) rfl sz49 rfl rfl hE_558 (map_get (getI_some hc_557).2 (Pr.c_eq c_557)) (Nat.le_of_ble_eq_true rfl) (fun _ => ofCells_agg rfl)) (.inl rfl) (by kernel_rfl) (VP.take (i := 7) rfl (TOp.r (t_move rfl rfl)) (.inl rfl) (by kernel_rfl) (VP.take (i := 8) rfl (TOp.r (t_move rfl rfl)) (.inl rfl) (by kernel_rfl) (VP.take (i := 9) rfl (TOp.r (t_move rfl rfl)) (.inl rfl) (by kernel_rfl) (VP.take (i := 10) (v := .int .i64 (w64 (a3 + (w64 ((w64 (2 * root_491)) + 1))))) rfl (TOp.r (t_add rfl rfl rfl rfl)) (.inl rfl) (by kernel_rfl) ?_)))))
      obtain ⟨c_559, hc_559, h⟩ := obind h
      refine VP.take (i := 11) (v := .ptr ob_558 ((w64 (a3 + (w64 ((w64 (2 * root_491)) + 1)))).toNat * 2 + 0)) rfl (TOp.r (t_index_own rfl sl22 rfl rfl (getI_some hc_559).1 (by rw [hl_558]; exact getI_lt hc_559) rfl)) (.inl rfl) (by kernel_rfl) (VP.take (i := 12) (v := .agg [.int .i64 c_559.x0, .int .i64 c_559.x1]) rfl (r_load_buf (n := 2) (f := 0) (j := 0) rfl sz49 rfl rfl hE_558 (map_get (getI_some hc_559).2 (Pr.c_eq c_559)) (Nat.le_of_ble_eq_true rfl) (fun _ => ofCells_agg rfl)) (.inl rfl) (by kernel_rfl) (VP.done (by kernel_rfl) (VA.frontS 1 rfl ?_)))
      obtain ⟨rv_560, hx_561, h⟩ := obind h
      refine VA.w (i := 13) (fun v H' => .int .i64 rv_560 = v ∧ H' = hq ([a4_g, [(ob_558, .cells ((bu_489.map Pr.c).flatten ++ sl_558))]]) []) rfl (w_call_q (sa := [a4_g]) (sg := [[(ob_558, .cells ((bu_489.map Pr.c).flatten ++ sl_558))]]) (tks := []) rfl a4_k rfl ⟨_, _, rfl, rfl, _, _, rfl, rfl, rfl⟩ (a4_h _ _ _ hx_561) (by rintro v H' ⟨rfl, rfl⟩; exact ⟨[a4_g], rfl, rfl, rfl⟩)) (.inl rfl) (by kernel_rfl) rfl ?_
      rintro _ _ ⟨rfl, rfl⟩
      refine VA.t (i := 14) (v := .bool (decide (rv_560 < 0))) rfl (t_cmp rfl rfl rfl (fun _ _ => rfl) rfl) (.inl rfl) (by kernel_rfl) (VA.t (i := 15) (v := .bool (!(decide (rv_560 < 0)))) rfl (t_not rfl rfl rfl) (.inl rfl) (by kernel_rfl) (VA.done (by kernel_rfl) (thenQ_normal (VW.subK (.c 0 rfl (.c 2 rfl (.c 3 rfl (.c 4 rfl (.c 10 rfl (.c 11 rfl (.c 24 rfl (.c 25 rfl (.c 26 rfl (.c 27 rfl (.c 28 rfl (.c 29 rfl (.c 30 rfl (.c 31 rfl (.c 32 rfl (.c 33 rfl (.c 34 rfl (.c 35 rfl (.c 36 rfl (.c 37 rfl (.c 38 rfl (.c 39 rfl (.c 58 rfl .n))))))))))))))))))))))) rfl ?_))))
      refine VW.cond (b := (!(decide (rv_560 < 0)))) rfl (fun hc_562 => ?_) (fun hc_562 => ?_)
      · replace h := iteT h hc_562
        refine VW.subN (t' := []) trivial rfl (VW.frontS 0 rfl (VW.frontS 1 rfl (VW.subN (t' := []) trivial rfl (VW.ret (thenQ_ret (blockQ_ret (thenQ_ret ?_)))))))
        have h := Option.some.inj h
        subst h
        exact hx1 _ [(ob_558, .cells ((bu_489.map Pr.c).flatten ++ sl_558))] rfl (Buf.own (n := 2) (l := bu_489.map Pr.c) ob_558 cap_558 len_558 sl_558 (elemsOK_map Pr.c_ok _) (by simp [hl_558]) hc_558 hs_558)
      · replace h := iteF h hc_562
        refine VW.skip (thenQ_normal (VW.subK (.c 0 rfl (.c 2 rfl (.c 3 rfl (.c 4 rfl (.c 10 rfl (.c 11 rfl (.c 24 rfl (.c 25 rfl (.c 26 rfl (.c 27 rfl (.c 28 rfl (.c 29 rfl (.c 30 rfl (.c 31 rfl (.c 32 rfl (.c 33 rfl (.c 34 rfl (.c 35 rfl (.c 36 rfl (.c 37 rfl (.c 38 rfl (.c 39 rfl .n)))))))))))))))))))))) rfl (VW.seq (VW.draw 24 mix rfl (VA.t (i := 0) rfl (t_move rfl rfl) (.inl rfl) (by kernel_rfl) (VA.t (i := 1) rfl (t_move rfl rfl) (.inl rfl) (by kernel_rfl) (VA.t (i := 2) rfl (t_move rfl rfl) (.inl rfl) (by kernel_rfl) (VA.t (i := 3) (v := .int .i64 (w64 (a3 + root_491))) rfl (t_add rfl rfl rfl rfl) (.inl rfl) (by kernel_rfl) (VA.t (i := 4) rfl (t_move rfl rfl) (.inl rfl) (by kernel_rfl) ?_)))))))))
        refine VA.t (i := 5) rfl (t_move rfl rfl) (.inl rfl) (by kernel_rfl) (VA.t (i := 6) rfl (t_move rfl rfl) (.inl rfl) (by kernel_rfl) (VA.t (i := 7) (v := .int .i64 (w64 (a3 + (w64 ((w64 (2 * root_491)) + 1))))) rfl (t_add rfl rfl rfl rfl) (.inl rfl) (by kernel_rfl) (VA.phase (g := 3) [8, 9, 10, 11, 12, 13, 14, 15, 16, 17, 18, 19, 20] 13 (VP.take (i := 8) rfl (TOp.r (t_move rfl rfl)) (.inl rfl) (by kernel_rfl) (VP.take (i := 9) rfl (TOp.r (t_move rfl rfl)) (.inl rfl) (by kernel_rfl) (VP.take (i := 10) rfl (TOp.r (t_move rfl rfl)) (.inl rfl) (by kernel_rfl) (VP.take (i := 11) (v := .int .i64 (w64 (a3 + (w64 ((w64 (2 * root_491)) + 1))))) rfl (TOp.r (t_add rfl rfl rfl rfl)) (.inl rfl) (by kernel_rfl) (VP.take (i := 12) (v := .ptr ob_558 ((w64 (a3 + (w64 ((w64 (2 * root_491)) + 1)))).toNat * 2 + 0)) rfl (TOp.r (t_index_own rfl sl22 rfl rfl (getI_some hc_559).1 (by rw [hl_558]; exact getI_lt hc_559) rfl)) (.inl rfl) (by kernel_rfl) (VP.take (i := 13) (v := .agg [.int .i64 c_559.x0, .int .i64 c_559.x1]) rfl (r_load_buf (n := 2) (f := 0) (j := 1) rfl sz49 rfl rfl hE_558 (map_get (getI_some hc_559).2 (Pr.c_eq c_559)) (Nat.le_of_ble_eq_true rfl) (fun _ => ofCells_agg rfl)) (.inl rfl) (by kernel_rfl) ?_)))))))))
        refine VP.take (i := 14) rfl (TOp.r (t_move rfl rfl)) (.inl rfl) (by kernel_rfl) (VP.take (i := 15) rfl (TOp.r (t_move rfl rfl)) (.inl rfl) (by kernel_rfl) (VP.take (i := 16) rfl (TOp.r (t_move rfl rfl)) (.inl rfl) (by kernel_rfl) (VP.take (i := 17) (v := .int .i64 (w64 (a3 + root_491))) rfl (TOp.r (t_add rfl rfl rfl rfl)) (.inl rfl) (by kernel_rfl) (VP.take (i := 18) (v := .ptr ob_558 ((w64 (a3 + root_491)).toNat * 2 + 0)) rfl (TOp.r (t_index_own rfl sl22 rfl rfl (getI_some hc_557).1 (by rw [hl_558]; exact getI_lt hc_557) rfl)) (.inl rfl) (by kernel_rfl) (VP.take (i := 19) (v := .agg [.int .i64 c_557.x0, .int .i64 c_557.x1]) rfl (r_load_buf (n := 2) (f := 0) (j := 1) rfl sz49 rfl rfl hE_558 (map_get (getI_some hc_557).2 (Pr.c_eq c_557)) (Nat.le_of_ble_eq_true rfl) (fun _ => ofCells_agg rfl)) (.inl rfl) (by kernel_rfl) (VP.take (i := 20) (v := .ptr ob_558 ((w64 (a3 + root_491)).toNat * 2 + 0)) rfl (TOp.r (t_index_own rfl sl22 rfl rfl (getI_some hc_557).1 (by rw [hl_558]; exact getI_lt hc_557) rfl)) (.inl rfl) (by kernel_rfl) (VP.done (by kernel_rfl) (VA.w (i := 21) (fun v H' => .any = v ∧ H' = hq ([a4_g, [(ob_558, .cells (((bu_489.set (w64 (a3 + root_491)).toNat c_559).map Pr.c).flatten ++ sl_558))]]) []) rfl (w_store_buf (n := 2) (f := 0) (j := 1) rfl sz49 rfl rfl rfl hE_558 (map_get (getI_some hc_557).2 (Pr.c_eq c_557)) rfl rfl (Nat.le_of_ble_eq_true rfl) rfl (map_set (Pr.c_eq c_559)) ⟨rfl, rfl⟩) (.inl rfl) (by kernel_rfl) rfl ?_))))))))
        rintro _ _ ⟨rfl, rfl⟩
        have hl_564 : len_558 = (bu_489.set (w64 (a3 + root_491)).toNat c_559).length := by simp [hl_558]
        obtain ⟨c_565, hc_565, h⟩ := obind h
        refine VA.t (i := 22) (v := .ptr ob_558 ((w64 (a3 + (w64 ((w64 (2 * root_491)) + 1)))).toNat * 2 + 0)) rfl (t_index_own rfl sl22 rfl rfl (getI_some hc_565).1 (by rw [hl_564]; exact getI_lt hc_565) rfl) (.inl rfl) (by kernel_rfl) (VA.w (i := 23) (fun v H' => .any = v ∧ H' = hq ([a4_g, [(ob_558, .cells ((((bu_489.set (w64 (a3 + root_491)).toNat c_559).set (w64 (a3 + (w64 ((w64 (2 * root_491)) + 1)))).toNat c_557).map Pr.c).flatten ++ sl_558))]]) []) rfl (w_store_buf (n := 2) (f := 0) (j := 1) rfl sz49 rfl rfl rfl (elemsOK_map Pr.c_ok _) (map_get (getI_some hc_565).2 (Pr.c_eq c_565)) rfl rfl (Nat.le_of_ble_eq_true rfl) rfl (map_set (Pr.c_eq c_557)) ⟨rfl, rfl⟩) (.inl rfl) (by kernel_rfl) rfl ?_)
        rintro _ _ ⟨rfl, rfl⟩
        have hl_567 : len_558 = ((bu_489.set (w64 (a3 + root_491)).toNat c_559).set (w64 (a3 + (w64 ((w64 (2 * root_491)) + 1)))).toNat c_557).length := by simp [hl_564]
        refine VA.done (by kernel_rfl) (thenQ_normal (VW.subK (.c 0 rfl (.c 2 rfl (.c 3 rfl (.c 4 rfl (.c 11 rfl (.c 24 rfl (.c 25 rfl (.c 26 rfl (.c 27 rfl (.c 28 rfl (.c 29 rfl (.c 30 rfl (.c 31 rfl (.c 32 rfl (.c 33 rfl (.c 34 rfl (.c 35 rfl (.c 36 rfl (.c 37 rfl (.c 38 rfl (.c 39 rfl .n))))))))))))))))))))) rfl (VW.region (VO.t (t_move rfl rfl) rfl rfl (VO.t (v := .int .i64 (w64 ((w64 (2 * root_491)) + 1))) (t_assign rfl rfl) rfl rfl (VO.nil (blockQ_normal (thenQ_normal (VL.round ?_)))))))))
        refine VW.subK (.c 0 rfl (.c 2 rfl (.c 3 rfl (.c 4 rfl (.c 10 rfl .n))))) rfl (VW.frontS 0 rfl (VW.frontS 1 rfl ?_))
        exact ih _ _ _ h (.own ob_558 cap_558 len_558) [(ob_558, .cells ((((bu_489.set (w64 (a3 + root_491)).toNat c_559).set (w64 (a3 + (w64 ((w64 (2 * root_491)) + 1)))).toNat c_557).map Pr.c).flatten ++ sl_558))] (Buf.own (n := 2) (l := ((bu_489.set (w64 (a3 + root_491)).toNat c_559).set (w64 (a3 + (w64 ((w64 (2 * root_491)) + 1)))).toNat c_557).map Pr.c) ob_558 cap_558 len_558 sl_558 (elemsOK_map Pr.c_ok _) (by simp [hl_567]) hc_558 hs_558) hx0 hx1

theorem slices_siftDownCmpFunc_2int_ok (a0 : List Pr) (a1 : Int) (a2 : Int) (a3 : Int) (a4 : Pr → Pr → Option Int) (r : List Pr) (h : PL.slices_siftDownCmpFunc_2int a0 a1 a2 a3 a4 = some r) (v0 : VV) (b0 : Seg) (a4_f : Nat) (a4_a : List VV) (a4_c : List VV) (a4_g : Seg) (hB0 : Buf 2 (a0.map Pr.c) v0 b0) (a4_k : FnOK Try.prog a4_f) (a4_h : ∀ (y0 : Pr) (y1 : Pr) (z : Int), a4 y0 y1 = some z → VCalls Try.prog a4_f (a4_a ++ [.agg [.int .i64 y0.x0, .int .i64 y0.x1], .agg [.int .i64 y1.x0, .int .i64 y1.x1]] ++ a4_c) (hq [a4_g] []) (fun v H => .int .i64 z = v ∧ H = hq [a4_g] [])) :
    VCalls Try.prog 72 [v0, .int .i64 a1, .int .i64 a2, .int .i64 a3, .func (.func a4_f) a4_a a4_c] (hq [b0, a4_g] []) (fun v H => ∃ bk0, Buf 2 (r.map Pr.c) v0 bk0 ∧ .tup [] = v ∧ H = hq [bk0, a4_g] []) := by
  unfold PL.slices_siftDownCmpFunc_2int at h
  refine VCalls.of_body 82 [] Try.func72 rfl rfl rfl (Nat.le_of_ble_eq_true rfl) (VW.subK (.c 0 rfl (.c 1 rfl (.c 2 rfl (.c 3 rfl (.c 4 rfl .n))))) rfl (VW.seq (VW.region (VO.t (t_move rfl rfl) rfl rfl (VO.t (v := .int .i64 a1) (t_assign rfl rfl) rfl rfl (VO.nil (thenQ_normal (VW.subK (.c 0 rfl (.c 2 rfl (.c 3 rfl (.c 4 rfl (.c 10 rfl .n))))) rfl (VW.block ?_)))))))))
  refine VW.subK (.c 0 rfl (.c 2 rfl (.c 3 rfl (.c 4 rfl (.c 10 rfl .n))))) rfl ?_
  obtain ⟨o_568, hx_569, h⟩ := obind h
  refine VW.loopL (slices_siftDownCmpFunc_2int.l0_ok a4 a2 a3 a4_f a4_a a4_c a4_g a4_k a4_h _ _ _ hx_569 v0 b0 hB0 ?_ ?_)
  · intro bu_528 bp0_529 ho_ hbp0_529
    subst ho_
    try dsimp only at h
    refine blockQ_hit ?_
    have h := Option.some.inj h
    subst h
    exact ⟨.inl rfl, rfl, _, .tup [], hq [bp0_529, a4_g] [], rfl, VLe.refl _, hq_sub (.cons_cons _ (.cons_cons _ .slnil)) .slnil, bp0_529, hbp0_529, rfl, rfl⟩
  · intro bu_530 bp0_531 ho_ hbp0_531
    subst ho_
    try dsimp only at h
    refine blockQ_ret ?_
    have h := Option.some.inj h
    subst h
    exact ⟨.inr rfl, rfl, _, .tup [], hq [bp0_531, a4_g] [], rfl, VLe.refl _, hq_sub (.cons_cons _ (.cons_cons _ .slnil)) .slnil, bp0_531, hbp0_531, rfl, rfl⟩

theorem slices_heapSortCmpFunc_2int.l0_ok (a3 : Pr → Pr → Option Int) (a1 : Int) (a2 : Int) (a3_f : Nat) (a3_a a3_c : List VV) (a3_g : Seg) (a3_k : FnOK Try.prog a3_f) (a3_h : ∀ (y0 : Pr) (y1 : Pr) (z : Int), a3 y0 y1 = some z → VCalls Try.prog a3_f (a3_a ++ [.agg [.int .i64 y0.x0, .int .i64 y0.x1], .agg [.int .i64 y1.x0, .int .i64 y1.x1]] ++ a3_c) (hq [a3_g] []) (fun v H => .int .i64 z = v ∧ H = hq [a3_g] [])) {Q : Exit → Env → HH → Prop} :
    ∀ (bu_600 : List Pr) (i_602 : Int) (o : (List Pr)), PL.slices_heapSortCmpFunc_2int.l0 a3 a1 a2 bu_600 i_602 = some o →
    ∀ (vp0_601 : VV) (bp0_601 : Seg) (hbp0_601 : Buf 2 (bu_600.map Pr.c) vp0_601 bp0_601) (hx0 : ∀ (bu_608 : List Pr) (bp0_609 : Seg), bu_608 = o → Buf 2 (bu_608.map Pr.c) vp0_601 bp0_609 → Q (.exit 0) ⟨[(0, vp0_601), (3, .func (.func a3_f) a3_a a3_c), (8, .int .i64 a1), (9, .int .i64 0), (10, .int .i64 (w64 (a2 - a1)))], []⟩ (hq ([bp0_609, a3_g]) [])), VW Try.prog 60 (codeAt [1, 1, 1, 0, 1, 0, 0] (bodyOf Try.f62)) (thenQ (VL Try.prog 60 (codeAt [1, 1, 1, 0, 1, 0, 0] (bodyOf Try.f62)) Q) Q) ⟨[(0, vp0_601), (3, .func (.func a3_f) a3_a a3_c), (8, .int .i64 a1), (9, .int .i64 0), (10, .int .i64 (w64 (a2 - a1))), (11, .int .i64 i_602)], []⟩ (hq ([bp0_601, a3_g]) []) := by
  refine PL.slices_heapSortCmpFunc_2int.l0.partial_correctness a3 a1 a2 (motive := fun bu_600 i_602 o => ∀ (vp0_601 : VV) (bp0_601 : Seg) (hbp0_601 : Buf 2 (bu_600.map Pr.c) vp0_601 bp0_601) (hx0 : ∀ (bu_608 : List Pr) (bp0_609 : Seg), bu_608 = o → Buf 2 (bu_608.map Pr.c) vp0_601 bp0_609 → Q (.exit 0) ⟨[(0, vp0_601), (3, .func (.func a3_f) a3_a a3_c), (8, .int .i64 a1), (9, .int .i64 0), (10, .int .i64 (w64 (a2 - a1)))], []⟩ (hq ([bp0_609, a3_g]) [])), VW Try.prog 60 (codeAt [1, 1, 1, 0, 1, 0, 0] (bodyOf Try.f62)) (thenQ (VL Try.prog 60 (codeAt [1, 1, 1, 0, 1, 0, 0] (bodyOf Try.f62)) Q) Q) ⟨[(0, vp0_601), (3, .func (.func a3_f) a3_a a3_c), (8, .int .i64 a1), (9, .int .i64 0), (10, .int .i64 (w64 (a2 - a1))), (11, .int .i64 i_602)], []⟩ (hq ([bp0_601, a3_g]) [])) ?_
  intro _ ih bu_600 i_602 o h vp0_601 bp0_601 hbp0_601 hx0
  refine VW.seq (VW.seq (VW.region (VO.t (t_move rfl rfl) rfl rfl (VO.t (v := .bool (decide (i_602 ≥ 0))) (t_cmp rfl rfl rfl (fun _ _ => rfl) rfl) rfl rfl (VO.nil (thenQ_normal (VW.subK (.c 0 rfl (.c 3 rfl (.c 8 rfl (.c 9 rfl (.c 10 rfl (.c 11 rfl (.c 21 rfl .n))))))) rfl ?_)))))))
  refine VW.cond (b := (decide (i_602 ≥ 0))) rfl (fun hc_610 => ?_) (fun hc_610 => ?_)
  · replace h := iteT h hc_610
    refine VW.skip (thenQ_normal (VW.subK (.c 0 rfl (.c 3 rfl (.c 8 rfl (.c 9 rfl (.c 10 rfl (.c 11 rfl .n)))))) rfl (VW.seq (VW.block (VW.region (VO.t (t_move rfl rfl) rfl rfl (VO.t (t_move rfl rfl) rfl rfl (VO.t (t_move rfl rfl) rfl rfl (VO.t (t_move rfl rfl) rfl rfl ?_)))))))))
    refine VO.t (t_move rfl rfl) rfl rfl ?_
    obtain ⟨k_611, hx_612, h⟩ := obind h
    refine VO.w (fun v H' => ∃ bk0_613, Buf 2 (k_611.map Pr.c) vp0_601 bk0_613 ∧ .tup [] = v ∧ H' = hq ([bk0_613, a3_g]) []) (w_call_q (sa := [bp0_601, a3_g]) (sg := []) (tks := []) rfl fn72 rfl ⟨_, _, rfl, rfl, _, _, rfl, rfl, _, _, rfl, rfl, _, _, rfl, rfl, _, _, rfl, rfl, rfl⟩ (slices_siftDownCmpFunc_2int_ok _ _ _ _ _ _ hx_612 vp0_601 bp0_601 a3_f a3_a a3_c a3_g hbp0_601 a3_k a3_h) (by rintro v H' ⟨bk0_613, h_0, rfl, rfl⟩; exact ⟨[bk0_613, a3_g], rfl, bk0_613, h_0, rfl, rfl⟩)) rfl rfl ?_
    rintro _ _ ⟨bk0_613, hB_614, rfl, rfl⟩
    refine VO.nil (blockQ_normal (thenQ_normal (VW.subK (.c 0 rfl (.c 3 rfl (.c 8 rfl (.c 9 rfl (.c 10 rfl (.c 11 rfl .n)))))) rfl (VW.region (VO.t (t_move rfl rfl) rfl rfl (VO.t (v := .int .i64 (w64 (i_602 - 1))) (t_sub rfl rfl (fun _ _ => rfl) rfl) rfl rfl (VO.t (v := .int .i64 (w64 (i_602 - 1))) (t_assign rfl rfl) rfl rfl (VO.nil (thenQ_normal (VL.round ?_))))))))))
    refine VW.subK (.c 0 rfl (.c 3 rfl (.c 8 rfl (.c 9 rfl (.c 10 rfl (.c 11 rfl .n)))))) rfl ?_
    exact ih _ _ _ h vp0_601 bk0_613 hB_614 hx0
  · replace h := iteF h hc_610
    refine VW.subK (.c 0 rfl (.c 3 rfl (.c 8 rfl (.c 9 rfl (.c 10 rfl .n))))) rfl (VW.exit (thenQ_exit (thenQ_exit ?_)))
    have h := Option.some.inj h
    subst h
    exact hx0 _ bp0_601 rfl hbp0_601

theorem slices_heapSortCmpFunc_2int.l1_ok (a3 : Pr → Pr → Option Int) (a1 : Int) (a3_f : Nat) (a3_a a3_c : List VV) (a3_g : Seg) (a3_k : FnOK Try.prog a3_f) (a3_h : ∀ (y0 : Pr) (y1 : Pr) (z : Int), a3 y0 y1 = some z → VCalls Try.prog a3_f (a3_a ++ [.agg [.int .i64 y0.x0, .int .i64 y0.x1], .agg [.int .i64 y1.x0, .int .i64 y1.x1]] ++ a3_c) (hq [a3_g] []) (fun v H => .int .i64 z = v ∧ H = hq [a3_g] [])) {Q : Exit → Env → HH → Prop} :
    ∀ (bu_631 : List Pr) (i_633 : Int) (o : (List Pr)), PL.slices_heapSortCmpFunc_2int.l1 a3 a1 bu_631 i_633 = some o →
    ∀ (vp0_632 : VV) (bp0_632 : Seg) (hbp0_632 : Buf 2 (bu_631.map Pr.c) vp0_632 bp0_632) (hx0 : ∀ (bu_647 : List Pr) (bp0_648 : Seg), bu_647 = o → Buf 2 (bu_647.map Pr.c) vp0_632 bp0_648 → Q (.exit 2) ⟨[], []⟩ (hq ([bp0_648, a3_g]) [])), VW Try.prog 60 (codeAt [1, 1, 1, 1, 1, 0, 0] (bodyOf Try.f62)) (thenQ (VL Try.prog 60 (codeAt [1, 1, 1, 1, 1, 0, 0] (bodyOf Try.f62)) Q) Q) ⟨[(0, vp0_632), (3, .func (.func a3_f) a3_a a3_c), (8, .int .i64 a1), (9, .int .i64 0), (12, .int .i64 i_633)], []⟩ (hq ([bp0_632, a3_g]) []) := by
  refine PL.slices_heapSortCmpFunc_2int.l1.partial_correctness a3 a1 (motive := fun bu_631 i_633 o => ∀ (vp0_632 : VV) (bp0_632 : Seg) (hbp0_632 : Buf 2 (bu_631.map Pr.c) vp0_632 bp0_632) (hx0 : ∀ (bu_647 : List Pr) (bp0_648 : Seg), bu_647 = o → Buf 2 (bu_647.map Pr.c) vp0_632 bp0_648 → Q (.exit 2) ⟨[], []⟩ (hq ([bp0_648, a3_g]) [])), VW Try.prog 60 (codeAt [1, 1, 1, 1, 1, 0, 0] (bodyOf Try.f62)) (thenQ (VL Try.prog 60 (codeAt [1, 1, 1, 1, 1, 0, 0] (bodyOf Try.f62)) Q) Q) ⟨[(0, vp0_632), (3, .func (.func a3_f) a3_a a3_c), (8, .int .i64 a1), (9, .int .i64 0), (12, .int .i64 i_633)], []⟩ (hq ([bp0_632, a3_g]) [])) ?_
  intro _ ih bu_631 i_633 o h vp0_632 bp0_632 hbp0_632 hx0
  refine VW.seq (VW.seq (VW.region (VO.t (t_move rfl rfl) rfl rfl (VO.t (v := .bool (decide (i_633 ≥ 0))) (t_cmp rfl rfl rfl (fun _ _ => rfl) rfl) rfl rfl (VO.nil (thenQ_normal (VW.subK (.c 0 rfl (.c 3 rfl (.c 8 rfl (.c 9 rfl (.c 12 rfl (.c 33 rfl .n)))))) rfl ?_)))))))
  refine VW.cond (b := (decide (i_633 ≥ 0))) rfl (fun hc_649 => ?_) (fun hc_649 => ?_)
  · replace h := iteT h hc_649
    refine VW.skip (thenQ_normal (VW.subK (.c 0 rfl (.c 3 rfl (.c 8 rfl (.c 9 rfl (.c 12 rfl .n))))) rfl (VW.seq (VW.block (VW.seq (VW.draw 20 mix rfl (VA.t (i := 0) rfl (t_move rfl rfl) (.inl rfl) (by kernel_rfl) (VA.t (i := 1) rfl (t_move rfl rfl) (.inl rfl) (by kernel_rfl) (VA.t (i := 2) rfl (t_move rfl rfl) (.inl rfl) (by kernel_rfl) ?_)))))))))
    refine VA.t (i := 3) rfl (t_move rfl rfl) (.inl rfl) (by kernel_rfl) (VA.t (i := 4) rfl (t_move rfl rfl) (.inl rfl) (by kernel_rfl) (VA.t (i := 5) (v := .int .i64 (w64 (a1 + i_633))) rfl (t_add rfl rfl rfl rfl) (.inl rfl) (by kernel_rfl) (VA.phase (g := 3) [6, 7, 8, 9, 10, 11, 12, 13, 14, 15, 16] 11 (VP.take (i := 6) rfl (TOp.r (t_move rfl rfl)) (.inl rfl) (by kernel_rfl) (VP.take (i := 7) rfl (TOp.r (t_move rfl rfl)) (.inl rfl) (by kernel_rfl) (VP.take (i := 8) rfl (TOp.r (t_move rfl rfl)) (.inl rfl) (by kernel_rfl) (VP.take (i := 9) (v := .int .i64 (w64 (a1 + i_633))) rfl (TOp.r (t_add rfl rfl rfl rfl)) (.inl rfl) (by kernel_rfl) ?_)))))))
    obtain ⟨c_650, hc_650, h⟩ := obind h
    obtain ⟨ob_651, cap_651, len_651, sl_651, rfl, rfl, hE_651, hl_651, hc_651, hs_651⟩ := buf_at hbp0_632 hc_650
    refine VP.take (i := 10) (v := .ptr ob_651 ((w64 (a1 + i_633)).toNat * 2 + 0)) rfl (TOp.r (t_index_own rfl sl22 rfl rfl (getI_some hc_650).1 (by rw [hl_651]; exact getI_lt hc_650) rfl)) (.inl rfl) (by kernel_rfl) (VP.take (i := 11) (v := .agg [.int .i64 c_650.x0, .int .i64 c_650.x1]) rfl (r_load_buf (n := 2) (f := 0) (j := 0) rfl sz49 rfl rfl hE_651 (map_get (getI_some hc_650).2 (Pr.c_eq c_650)) (Nat.le_of_ble_eq_true rfl) (fun _ => ofCells_agg rfl)) (.inl rfl) (by kernel_rfl) (VP.take (i := 12) rfl (TOp.r (t_move rfl rfl)) (.inl rfl) (by kernel_rfl) (VP.take (i := 13) rfl (TOp.r (t_move rfl rfl)) (.inl rfl) (by kernel_rfl) ?_)))
    obtain ⟨c_652, hc_652, h⟩ := obind h
    refine VP.take (i := 14) (v := .ptr ob_651 (a1.toNat * 2 + 0)) rfl (TOp.r (t_index_own rfl sl22 rfl rfl (getI_some hc_652).1 (by rw [hl_651]; exact getI_lt hc_652) rfl)) (.inl rfl) (by kernel_rfl) (VP.take (i := 15) (v := .agg [.int .i64 c_652.x0, .int .i64 c_652.x1]) rfl (r_load_buf (n := 2) (f := 0) (j := 0) rfl sz49 rfl rfl hE_651 (map_get (getI_some hc_652).2 (Pr.c_eq c_652)) (Nat.le_of_ble_eq_true rfl) (fun _ => ofCells_agg rfl)) (.inl rfl) (by kernel_rfl) (VP.take (i := 16) (v := .ptr ob_651 (a1.toNat * 2 + 0)) rfl (TOp.r (t_index_own rfl sl22 rfl rfl (getI_some hc_652).1 (by rw [hl_651]; exact getI_lt hc_652) rfl)) (.inl rfl) (by kernel_rfl) (VP.done (by kernel_rfl) (VA.w (i := 17) (fun v H' => .any = v ∧ H' = hq ([[(ob_651, .cells (((bu_631.set a1.toNat c_650).map Pr.c).flatten ++ sl_651))], a3_g]) []) rfl (w_store_buf (n := 2) (f := 0) (j := 0) rfl sz49 rfl rfl rfl hE_651 (map_get (getI_some hc_652).2 (Pr.c_eq c_652)) rfl rfl (Nat.le_of_ble_eq_true rfl) rfl (map_set (Pr.c_eq c_650)) ⟨rfl, rfl⟩) (.inl rfl) (by kernel_rfl) rfl ?_))))
    rintro _ _ ⟨rfl, rfl⟩
    have hl_654 : len_651 = (bu_631.set a1.toNat c_650).length := by simp [hl_651]
    obtain ⟨c_655, hc_655, h⟩ := obind h
    refine VA.t (i := 18) (v := .ptr ob_651 ((w64 (a1 + i_633)).toNat * 2 + 0)) rfl (t_index_own rfl sl22 rfl rfl (getI_some hc_655).1 (by rw [hl_654]; exact getI_lt hc_655) rfl) (.inl rfl) (by kernel_rfl) (VA.w (i := 19) (fun v H' => .any = v ∧ H' = hq ([[(ob_651, .cells ((((bu_631.set a1.toNat c_650).set (w64 (a1 + i_633)).toNat c_652).map Pr.c).flatten ++ sl_651))], a3_g]) []) rfl (w_store_buf (n := 2) (f := 0) (j := 0) rfl sz49 rfl rfl rfl (elemsOK_map Pr.c_ok _) (map_get (getI_some hc_655).2 (Pr.c_eq c_655)) rfl rfl (Nat.le_of_ble_eq_true rfl) rfl (map_set (Pr.c_eq c_652)) ⟨rfl, rfl⟩) (.inl rfl) (by kernel_rfl) rfl ?_)
    rintro _ _ ⟨rfl, rfl⟩
    have hl_657 : len_651 = ((bu_631.set a1.toNat c_650).set (w64 (a1 + i_633)).toNat c_652).length := by simp [hl_654]
    refine VA.done (by kernel_rfl) (thenQ_normal (VW.subK (.c 0 rfl (.c 3 rfl (.c 8 rfl (.c 9 rfl (.c 12 rfl .n))))) rfl (VW.region (VO.t (t_move rfl rfl) rfl rfl (VO.t (t_move rfl rfl) rfl rfl (VO.t (t_move rfl rfl) rfl rfl (VO.t (t_move rfl rfl) rfl rfl (VO.t (t_move rfl rfl) rfl rfl ?_))))))))
    obtain ⟨k_658, hx_659, h⟩ := obind h
    refine VO.w (fun v H' => ∃ bk0_660, Buf 2 (k_658.map Pr.c) (.own ob_651 cap_651 len_651) bk0_660 ∧ .tup [] = v ∧ H' = hq ([bk0_660, a3_g]) []) (w_call_q (sa := [[(ob_651, .cells ((((bu_631.set a1.toNat c_650).set (w64 (a1 + i_633)).toNat c_652).map Pr.c).flatten ++ sl_651))], a3_g]) (sg := []) (tks := []) rfl fn72 rfl ⟨_, _, rfl, rfl, _, _, rfl, rfl, _, _, rfl, rfl, _, _, rfl, rfl, _, _, rfl, rfl, rfl⟩ (slices_siftDownCmpFunc_2int_ok _ _ _ _ _ _ hx_659 (.own ob_651 cap_651 len_651) [(ob_651, .cells ((((bu_631.set a1.toNat c_650).set (w64 (a1 + i_633)).toNat c_652).map Pr.c).flatten ++ sl_651))] a3_f a3_a a3_c a3_g (Buf.own (n := 2) (l := ((bu_631.set a1.toNat c_650).set (w64 (a1 + i_633)).toNat c_652).map Pr.c) ob_651 cap_651 len_651 sl_651 (elemsOK_map Pr.c_ok _) (by simp [hl_657]) hc_651 hs_651) a3_k a3_h) (by rintro v H' ⟨bk0_660, h_0, rfl, rfl⟩; exact ⟨[bk0_660, a3_g], rfl, bk0_660, h_0, rfl, rfl⟩)) rfl rfl ?_
    rintro _ _ ⟨bk0_660, hB_661, rfl, rfl⟩
    refine VO.nil (blockQ_normal (thenQ_normal (VW.subK (.c 0 rfl (.c 3 rfl (.c 8 rfl (.c 9 rfl (.c 12 rfl .n))))) rfl (VW.region (VO.t (t_move rfl rfl) rfl rfl (VO.t (v := .int .i64 (w64 (i_633 - 1))) (t_sub rfl rfl (fun _ _ => rfl) rfl) rfl rfl (VO.t (v := .int .i64 (w64 (i_633 - 1))) (t_assign rfl rfl) rfl rfl (VO.nil (thenQ_normal (VL.round ?_))))))))))
    refine VW.subK (.c 0 rfl (.c 3 rfl (.c 8 rfl (.c 9 rfl (.c 12 rfl .n))))) rfl ?_
    exact ih _ _ _ h (.own ob_651 cap_651 len_651) bk0_660 hB_661 hx0
  · replace h := iteF h hc_649
    refine VW.subN (t' := []) trivial rfl (VW.exit (thenQ_exit (thenQ_exit ?_)))
    have h := Option.some.inj h
    subst h
    exact hx0 _ bp0_632 rfl hbp0_632

theorem slices_heapSortCmpFunc_2int_ok (a0 : List Pr) (a1 : Int) (a2 : Int) (a3 : Pr → Pr → Option Int) (r : List Pr) (h : PL.slices_heapSortCmpFunc_2int a0 a1 a2 a3 = some r) (v0 : VV) (b0 : Seg) (a3_f : Nat) (a3_a : List VV) (a3_c : List VV) (a3_g : Seg) (hB0 : Buf 2 (a0.map Pr.c) v0 b0) (a3_k : FnOK Try.prog a3_f) (a3_h : ∀ (y0 : Pr) (y1 : Pr) (z : Int), a3 y0 y1 = some z → VCalls Try.prog a3_f (a3_a ++ [.agg [.int .i64 y0.x0, .int .i64 y0.x1], .agg [.int .i64 y1.x0, .int .i64 y1.x1]] ++ a3_c) (hq [a3_g] []) (fun v H => .int .i64 z = v ∧ H = hq [a3_g] [])) :
    VCalls Try.prog 62 [v0, .int .i64 a1, .int .i64 a2, .func (.func a3_f) a3_a a3_c] (hq [b0, a3_g] []) (fun v H => ∃ bk0, Buf 2 (r.map Pr.c) v0 bk0 ∧ .tup [] = v ∧ H = hq [bk0, a3_g] []) := by
  unfold PL.slices_heapSortCmpFunc_2int at h
  refine VCalls.of_body 60 [] Try.func62 rfl rfl rfl (Nat.le_of_ble_eq_true rfl) (VW.subK (.c 0 rfl (.c 1 rfl (.c 2 rfl (.c 3 rfl .n)))) rfl (VW.seq (VW.region (VO.t (t_move rfl rfl) rfl rfl (VO.t (v := .int .i64 a1) (t_assign rfl rfl) rfl rfl (VO.nil (thenQ_normal (VW.subK (.c 0 rfl (.c 1 rfl (.c 2 rfl (.c 3 rfl (.c 8 rfl .n))))) rfl (VW.seq ?_)))))))))
  refine VW.region (VO.t (v := .int .i64 0) (t_assign rfl (fun _ _ => rfl)) rfl rfl (VO.nil (thenQ_normal (VW.seq (VW.region (VO.t (t_move rfl rfl) rfl rfl (VO.t (t_move rfl rfl) rfl rfl (VO.t (v := .int .i64 (w64 (a2 - a1))) (t_sub rfl rfl rfl rfl) rfl rfl (VO.t (v := .int .i64 (w64 (a2 - a1))) (t_assign rfl rfl) rfl rfl ?_)))))))))
  refine VO.nil (thenQ_normal (VW.subK (.c 0 rfl (.c 3 rfl (.c 8 rfl (.c 9 rfl (.c 10 rfl .n))))) rfl (VW.seq (VW.seq (VW.region (VO.t (t_move rfl rfl) rfl rfl (VO.t (v := .int .i64 (w64 ((w64 (a2 - a1)) - 1))) (t_sub rfl rfl (fun _ _ => rfl) rfl) rfl rfl (VO.t (v := .int .i64 (w64 (Int.tdiv (w64 ((w64 (a2 - a1)) - 1)) 2))) (t_quo rfl rfl (fun _ _ => rfl) (by decide) rfl) rfl rfl (VO.t (v := .int .i64 (w64 (Int.tdiv (w64 ((w64 (a2 - a1)) - 1)) 2))) (t_assign rfl rfl) rfl rfl ?_)))))))))
  refine VO.nil (thenQ_normal (VW.subK (.c 0 rfl (.c 3 rfl (.c 8 rfl (.c 9 rfl (.c 10 rfl (.c 11 rfl .n)))))) rfl (VW.block (VW.subK (.c 0 rfl (.c 3 rfl (.c 8 rfl (.c 9 rfl (.c 10 rfl (.c 11 rfl .n)))))) rfl ?_))))
  obtain ⟨o_615, hx_616, h⟩ := obind h
  refine VW.loopL (slices_heapSortCmpFunc_2int.l0_ok a3 a1 a2 a3_f a3_a a3_c a3_g a3_k a3_h _ _ _ hx_616 v0 b0 hB0 ?_)
  · intro bu_608 bp0_609 ho_ hbp0_609
    subst ho_
    try dsimp only at h
    refine blockQ_hit (thenQ_normal (VW.seq (VW.region (VO.t (t_move rfl rfl) rfl rfl (VO.t (v := .int .i64 (w64 ((w64 (a2 - a1)) - 1))) (t_sub rfl rfl (fun _ _ => rfl) rfl) rfl rfl (VO.t (v := .int .i64 (w64 ((w64 (a2 - a1)) - 1))) (t_assign rfl rfl) rfl rfl (VO.nil (thenQ_normal (VW.subK (.c 0 rfl (.c 3 rfl (.c 8 rfl (.c 9 rfl (.c 12 rfl .n))))) rfl ?_)))))))))
    refine VW.block (VW.subK (.c 0 rfl (.c 3 rfl (.c 8 rfl (.c 9 rfl (.c 12 rfl .n))))) rfl ?_)
    obtain ⟨o_662, hx_663, h⟩ := obind h
    refine VW.loopL (slices_heapSortCmpFunc_2int.l1_ok a3 a1 a3_f a3_a a3_c a3_g a3_k a3_h _ _ _ hx_663 v0 bp0_609 hbp0_609 ?_)
    · intro bu_647 bp0_648 ho_ hbp0_648
      subst ho_
      try dsimp only at h
      refine blockQ_hit ?_
      have h := Option.some.inj h
      subst h
      exact ⟨.inl rfl, rfl, _, .tup [], hq [bp0_648, a3_g] [], rfl, VLe.refl _, hq_sub (.cons_cons _ (.cons_cons _ .slnil)) .slnil, bp0_648, hbp0_648, rfl, rfl⟩

theorem math_bits_Len32_ok (a0 : Int) (r : Int) (h : PL.math_bits_Len32 a0 = some r) :
    VCalls Try.prog 69 [.int .u32 a0] (hq [] []) (fun v H => .int .i64 r = v ∧ H = hq [] []) := by
  unfold PL.math_bits_Len32 at h
  refine VCalls.of_body 19 [2] Try.func69 rfl rfl rfl (Nat.le_of_ble_eq_true rfl) (VW.subK (.c 0 rfl .n) rfl (VW.seq (VW.region (VO.t (v := .int .i64 0) (t_assign rfl (fun _ _ => rfl)) rfl rfl (VO.nil (thenQ_normal (VW.seq (VW.seq (VW.region ?_)))))))))
  refine VO.t (t_move rfl rfl) rfl rfl (VO.t (v := .bool (decide (a0 ≥ 65536))) (t_cmp rfl rfl rfl (fun _ _ => rfl) rfl) rfl rfl (VO.nil (thenQ_normal (VW.subK (.c 0 rfl (.c 2 rfl (.c 4 rfl .n))) rfl ?_))))
  obtain ⟨o_670, h, hx_668⟩ := obind h
  refine VW.joinQ (E := Int × Int) (I := fun ⟨x_666, n_667⟩ => (x_666, n_667) = o_670 ∧ True) (env' := fun ⟨x_666, n_667⟩ => ⟨[(0, .int .u32 x_666), (2, .int .i64 n_667)], []⟩) (H' := fun ⟨x_666, n_667⟩ => hq [] []) ?_ (fun J_669 => ?_)
  · rintro ⟨x_666, n_667⟩ ⟨ho_, _⟩
    subst ho_
    replace h := hx_668
    clear hx_668
    try dsimp only at h
    show VW _ _ _ _ ⟨[(0, .int .u32 x_666), (2, .int .i64 n_667)], []⟩ (hq [] [])
    refine VW.seq (VW.seq (VW.region (VO.t (t_move rfl rfl) rfl rfl (VO.t (v := .bool (decide (x_666 ≥ 256))) (t_cmp rfl rfl rfl (fun _ _ => rfl) rfl) rfl rfl (VO.nil (thenQ_normal (VW.subK (.c 0 rfl (.c 2 rfl (.c 8 rfl .n))) rfl ?_)))))))
    obtain ⟨o_677, h, hx_675⟩ := obind h
    refine VW.joinQ (E := Int × Int) (I := fun ⟨x_673, n_674⟩ => (x_673, n_674) = o_677 ∧ True) (env' := fun ⟨x_673, n_674⟩ => ⟨[(0, .int .u32 x_673), (2, .int .i64 n_674)], []⟩) (H' := fun ⟨x_673, n_674⟩ => hq [] []) ?_ (fun J_676 => ?_)
    · rintro ⟨x_673, n_674⟩ ⟨ho_, _⟩
      subst ho_
      replace h := hx_675
      clear hx_675
      try dsimp only at h
      show VW _ _ _ _ ⟨[(0, .int .u32 x_673), (2, .int .i64 n_674)], []⟩ (hq [] [])
      refine VW.seq (VW.region (VO.t (t_move rfl rfl) rfl rfl (VO.t (t_move rfl rfl) rfl rfl (VO.t (v := .int .u8 (IntKind.wrap .u8 (x_673))) (t_conv rfl ⟨_, Try.underlying90⟩ Try.underlying5 rfl rfl) rfl rfl ?_))))
      obtain ⟨ha_678, h⟩ := ite_some h
      obtain ⟨hb_679, h⟩ := ite_some h
      refine VO.t (v := .int .u8 ((k_t256_52136.get! (IntKind.wrap .u8 (x_673)).toNat).toNat : Int)) (t_sindex rfl Try.underlying9 (fun _ _ => rfl) rfl ha_678 hb_679 rfl) rfl rfl (VO.t (v := .int .i64 (w64 (((k_t256_52136.get! (IntKind.wrap .u8 (x_673)).toNat).toNat : Int)))) (t_conv rfl ⟨_, Try.underlying5⟩ Try.underlying3 rfl rfl) rfl rfl (VO.t (v := .int .i64 (w64 (n_674 + (w64 (((k_t256_52136.get! (IntKind.wrap .u8 (x_673)).toNat).toNat : Int)))))) (t_add rfl rfl rfl rfl) rfl rfl (VO.t (v := .int .i64 (w64 (n_674 + (w64 (((k_t256_52136.get! (IntKind.wrap .u8 (x_673)).toNat).toNat : Int)))))) (t_assign rfl rfl) rfl rfl (VO.nil (thenQ_normal (VW.subK (.c 2 rfl .n) rfl (VW.ret ?_)))))))
      have h := Option.some.inj h
      subst h
      exact ⟨.inr rfl, rfl, _, .int .i64 (w64 (n_674 + (w64 (((k_t256_52136.get! (IntKind.wrap .u8 (x_673)).toNat).toNat : Int))))), hq [] [], rfl, VLe.refl _, hq_sub .slnil .slnil, rfl, rfl⟩
    · refine VW.cond (b := (decide (x_666 ≥ 256))) rfl (fun hc_680 => ?_) (fun hc_680 => ?_)
      · replace h := iteT h hc_680
        refine VW.seq (VW.region (VO.t (t_move rfl rfl) rfl rfl (VO.t (v := .int .u32 (ishr .u32 x_666 8)) (t_shr rfl rfl (fun _ _ => rfl) (by decide) rfl) rfl rfl (VO.t (v := .int .u32 (ishr .u32 x_666 8)) (t_assign rfl rfl) rfl rfl (VO.nil (thenQ_normal (VW.subK (.c 2 rfl (.c 0 rfl .n)) rfl (VW.region (VO.t (t_move rfl rfl) rfl rfl ?_)))))))))
        refine VO.t (v := .int .i64 (w64 (n_667 + 8))) (t_add rfl rfl (fun _ _ => rfl) rfl) rfl rfl (VO.t (v := .int .i64 (w64 (n_667 + 8))) (t_assign rfl rfl) rfl rfl (VO.subK (.c 0 rfl (.c 2 rfl .n)) rfl (VO.nil ?_)))
        exact thenQ_normal (J_676 ⟨ishr .u32 x_666 8, w64 (n_667 + 8)⟩ ⟨Option.some.inj h, trivial⟩)
      · replace h := iteF h hc_680
        refine VW.subK (.c 0 rfl (.c 2 rfl .n)) rfl (VW.skip ?_)
        exact thenQ_normal (J_676 ⟨x_666, n_667⟩ ⟨Option.some.inj h, trivial⟩)
  · refine VW.cond (b := (decide (a0 ≥ 65536))) rfl (fun hc_682 => ?_) (fun hc_682 => ?_)
    · replace h := iteT h hc_682
      refine VW.seq (VW.region (VO.t (t_move rfl rfl) rfl rfl (VO.t (v := .int .u32 (ishr .u32 a0 16)) (t_shr rfl rfl (fun _ _ => rfl) (by decide) rfl) rfl rfl (VO.t (v := .int .u32 (ishr .u32 a0 16)) (t_assign rfl rfl) rfl rfl (VO.nil (thenQ_normal (VW.subK (.c 0 rfl .n) rfl (VW.region (VO.t (v := .int .i64 16) (t_assign rfl (fun _ _ => rfl)) rfl rfl ?_)))))))))
      refine VO.subK (.c 0 rfl (.c 2 rfl .n)) rfl (VO.nil ?_)
      exact thenQ_normal (J_669 ⟨ishr .u32 a0 16, 16⟩ ⟨Option.some.inj h, trivial⟩)
    · replace h := iteF h hc_682
      refine VW.subK (.c 0 rfl (.c 2 rfl .n)) rfl (VW.skip ?_)
      exact thenQ_normal (J_669 ⟨a0, 0⟩ ⟨Option.some.inj h, trivial⟩)

theorem math_bits_Len64_ok (a0 : Int) (r : Int) (h : PL.math_bits_Len64 a0 = some r) :
    VCalls Try.prog 70 [.int .u64 a0] (hq [] []) (fun v H => .int .i64 r = v ∧ H = hq [] []) := by
  unfold PL.math_bits_Len64 at h
  refine VCalls.of_body 25 [2] Try.func70 rfl rfl rfl (Nat.le_of_ble_eq_true rfl) (VW.subK (.c 0 rfl .n) rfl (VW.seq (VW.region (VO.t (v := .int .i64 0) (t_assign rfl (fun _ _ => rfl)) rfl rfl (VO.nil (thenQ_normal (VW.seq (VW.seq (VW.region ?_)))))))))
  refine VO.t (t_move rfl rfl) rfl rfl (VO.t (v := .bool (decide (a0 ≥ 4294967296))) (t_cmp rfl rfl rfl (fun _ _ => rfl) rfl) rfl rfl (VO.nil (thenQ_normal (VW.subK (.c 0 rfl (.c 2 rfl (.c 4 rfl .n))) rfl ?_))))
  obtain ⟨o_690, h, hx_688⟩ := obind h
  refine VW.joinQ (E := Int × Int) (I := fun ⟨x_686, n_687⟩ => (x_686, n_687) = o_690 ∧ True) (env' := fun ⟨x_686, n_687⟩ => ⟨[(0, .int .u64 x_686), (2, .int .i64 n_687)], []⟩) (H' := fun ⟨x_686, n_687⟩ => hq [] []) ?_ (fun J_689 => ?_)
  · rintro ⟨x_686, n_687⟩ ⟨ho_, _⟩
    subst ho_
    replace h := hx_688
    clear hx_688
    try dsimp only at h
    show VW _ _ _ _ ⟨[(0, .int .u64 x_686), (2, .int .i64 n_687)], []⟩ (hq [] [])
    refine VW.seq (VW.seq (VW.region (VO.t (t_move rfl rfl) rfl rfl (VO.t (v := .bool (decide (x_686 ≥ 65536))) (t_cmp rfl rfl rfl (fun _ _ => rfl) rfl) rfl rfl (VO.nil (thenQ_normal (VW.subK (.c 0 rfl (.c 2 rfl (.c 8 rfl .n))) rfl ?_)))))))
    obtain ⟨o_697, h, hx_695⟩ := obind h
    refine VW.joinQ (E := Int × Int) (I := fun ⟨x_693, n_694⟩ => (x_693, n_694) = o_697 ∧ True) (env' := fun ⟨x_693, n_694⟩ => ⟨[(0, .int .u64 x_693), (2, .int .i64 n_694)], []⟩) (H' := fun ⟨x_693, n_694⟩ => hq [] []) ?_ (fun J_696 => ?_)
    · rintro ⟨x_693, n_694⟩ ⟨ho_, _⟩
      subst ho_
      replace h := hx_695
      clear hx_695
      try dsimp only at h
      show VW _ _ _ _ ⟨[(0, .int .u64 x_693), (2, .int .i64 n_694)], []⟩ (hq [] [])
      refine VW.seq (VW.seq (VW.region (VO.t (t_move rfl rfl) rfl rfl (VO.t (v := .bool (decide (x_693 ≥ 256))) (t_cmp rfl rfl rfl (fun _ _ => rfl) rfl) rfl rfl (VO.nil (thenQ_normal (VW.subK (.c 0 rfl (.c 2 rfl (.c 14 rfl .n))) rfl ?_)))))))
      obtain ⟨o_704, h, hx_702⟩ := obind h
      refine VW.joinQ (E := Int × Int) (I := fun ⟨x_700, n_701⟩ => (x_700, n_701) = o_704 ∧ True) (env' := fun ⟨x_700, n_701⟩ => ⟨[(0, .int .u64 x_700), (2, .int .i64 n_701)], []⟩) (H' := fun ⟨x_700, n_701⟩ => hq [] []) ?_ (fun J_703 => ?_)
      · rintro ⟨x_700, n_701⟩ ⟨ho_, _⟩
        subst ho_
        replace h := hx_702
        clear hx_702
        try dsimp only at h
        show VW _ _ _ _ ⟨[(0, .int .u64 x_700), (2, .int .i64 n_701)], []⟩ (hq [] [])
        refine VW.seq (VW.region (VO.t (t_move rfl rfl) rfl rfl (VO.t (t_move rfl rfl) rfl rfl (VO.t (v := .int .u8 (IntKind.wrap .u8 (x_700))) (t_conv rfl ⟨_, Try.underlying92⟩ Try.underlying5 rfl rfl) rfl rfl ?_))))
        obtain ⟨ha_705, h⟩ := ite_some h
        obtain ⟨hb_706, h⟩ := ite_some h
        refine VO.t (v := .int .u8 ((k_t256_52136.get! (IntKind.wrap .u8 (x_700)).toNat).toNat : Int)) (t_sindex rfl Try.underlying9 (fun _ _ => rfl) rfl ha_705 hb_706 rfl) rfl rfl (VO.t (v := .int .i64 (w64 (((k_t256_52136.get! (IntKind.wrap .u8 (x_700)).toNat).toNat : Int)))) (t_conv rfl ⟨_, Try.underlying5⟩ Try.underlying3 rfl rfl) rfl rfl (VO.t (v := .int .i64 (w64 (n_701 + (w64 (((k_t256_52136.get! (IntKind.wrap .u8 (x_700)).toNat).toNat : Int)))))) (t_add rfl rfl rfl rfl) rfl rfl (VO.t (v := .int .i64 (w64 (n_701 + (w64 (((k_t256_52136.get! (IntKind.wrap .u8 (x_700)).toNat).toNat : Int)))))) (t_assign rfl rfl) rfl rfl (VO.nil (thenQ_normal (VW.subK (.c 2 rfl .n) rfl (VW.ret ?_)))))))
        have h := Option.some.inj h
        subst h
        exact ⟨.inr rfl, rfl, _, .int .i64 (w64 (n_701 + (w64 (((k_t256_52136.get! (IntKind.wrap .u8 (x_700)).toNat).toNat : Int))))), hq [] [], rfl, VLe.refl _, hq_sub .slnil .slnil, rfl, rfl⟩
      · refine VW.cond (b := (decide (x_693 ≥ 256))) rfl (fun hc_707 => ?_) (fun hc_707 => ?_)
        · replace h := iteT h hc_707
          refine VW.seq (VW.region (VO.t (t_move rfl rfl) rfl rfl (VO.t (v := .int .u64 (ishr .u64 x_693 8)) (t_shr rfl rfl (fun _ _ => rfl) (by decide) rfl) rfl rfl (VO.t (v := .int .u64 (ishr .u64 x_693 8)) (t_assign rfl rfl) rfl rfl (VO.nil (thenQ_normal (VW.subK (.c 2 rfl (.c 0 rfl .n)) rfl (VW.region (VO.t (t_move rfl rfl) rfl rfl ?_)))))))))
          refine VO.t (v := .int .i64 (w64 (n_694 + 8))) (t_add rfl rfl (fun _ _ => rfl) rfl) rfl rfl (VO.t (v := .int .i64 (w64 (n_694 + 8))) (t_assign rfl rfl) rfl rfl (VO.subK (.c 0 rfl (.c 2 rfl .n)) rfl (VO.nil ?_)))
          exact thenQ_normal (J_703 ⟨ishr .u64 x_693 8, w64 (n_694 + 8)⟩ ⟨Option.some.inj h, trivial⟩)
        · replace h := iteF h hc_707
          refine VW.subK (.c 0 rfl (.c 2 rfl .n)) rfl (VW.skip ?_)
          exact thenQ_normal (J_703 ⟨x_693, n_694⟩ ⟨Option.some.inj h, trivial⟩)
    · refine VW.cond (b := (decide (x_686 ≥ 65536))) rfl (fun hc_709 => ?_) (fun hc_709 => ?_)
      · replace h := iteT h hc_709
        refine VW.seq (VW.region (VO.t (t_move rfl rfl) rfl rfl (VO.t (v := .int .u64 (ishr .u64 x_686 16)) (t_shr rfl rfl (fun _ _ => rfl) (by decide) rfl) rfl rfl (VO.t (v := .int .u64 (ishr .u64 x_686 16)) (t_assign rfl rfl) rfl rfl (VO.nil (thenQ_normal (VW.subK (.c 2 rfl (.c 0 rfl .n)) rfl (VW.region (VO.t (t_move rfl rfl) rfl rfl ?_)))))))))
        refine VO.t (v := .int .i64 (w64 (n_687 + 16))) (t_add rfl rfl (fun _ _ => rfl) rfl) rfl rfl (VO.t (v := .int .i64 (w64 (n_687 + 16))) (t_assign rfl rfl) rfl rfl (VO.subK (.c 0 rfl (.c 2 rfl .n)) rfl (VO.nil ?_)))
        exact thenQ_normal (J_696 ⟨ishr .u64 x_686 16, w64 (n_687 + 16)⟩ ⟨Option.some.inj h, trivial⟩)
      · replace h := iteF h hc_709
        refine VW.subK (.c 0 rfl (.c 2 rfl .n)) rfl (VW.skip ?_)
        exact thenQ_normal (J_696 ⟨x_686, n_687⟩ ⟨Option.some.inj h, trivial⟩)
  · refine VW.cond (b := (decide (a0 ≥ 4294967296))) rfl (fun hc_711 => ?_) (fun hc_711 => ?_)
    · replace h := iteT h hc_711
      refine VW.seq (VW.region (VO.t (t_move rfl rfl) rfl rfl (VO.t (v := .int .u64 (ishr .u64 a0 32)) (t_shr rfl rfl (fun _ _ => rfl) (by decide) rfl) rfl rfl (VO.t (v := .int .u64 (ishr .u64 a0 32)) (t_assign rfl rfl) rfl rfl (VO.nil (thenQ_normal (VW.subK (.c 0 rfl .n) rfl (VW.region (VO.t (v := .int .i64 32) (t_assign rfl (fun _ _ => rfl)) rfl rfl ?_)))))))))
      refine VO.subK (.c 0 rfl (.c 2 rfl .n)) rfl (VO.nil ?_)
      exact thenQ_normal (J_689 ⟨ishr .u64 a0 32, 32⟩ ⟨Option.some.inj h, trivial⟩)
    · replace h := iteF h hc_711
      refine VW.subK (.c 0 rfl (.c 2 rfl .n)) rfl (VW.skip ?_)
      exact thenQ_normal (J_689 ⟨a0, 0⟩ ⟨Option.some.inj h, trivial⟩)

theorem math_bits_Len_ok (a0 : Int) (r : Int) (h : PL.math_bits_Len a0 = some r) :
    VCalls Try.prog 55 [.int .u64 a0] (hq [] []) (fun v H => .int .i64 r = v ∧ H = hq [] []) := by
  unfold PL.math_bits_Len at h
  refine VCalls.of_body 8 [2] Try.func55 rfl rfl rfl (Nat.le_of_ble_eq_true rfl) (VW.subK (.c 0 rfl .n) rfl (VW.seq (VW.region (VO.t (v := .int .i64 0) (t_assign rfl (fun _ _ => rfl)) rfl rfl (VO.nil (thenQ_normal (VW.subK (.c 0 rfl .n) rfl (VW.seq (VW.condF (fun _ _ => rfl) ?_)))))))))
  refine VW.skip (thenQ_normal (VW.seq (VW.region (VO.t (t_move rfl rfl) rfl rfl ?_))))
  obtain ⟨rv_713, hx_714, h⟩ := obind h
  refine VO.w (fun v H' => .int .i64 rv_713 = v ∧ H' = hq [] []) (w_call_q (sa := []) (sg := []) (tks := []) rfl fn70 rfl ⟨_, _, rfl, rfl, rfl⟩ (math_bits_Len64_ok _ _ hx_714) (by rintro v H' ⟨rfl, rfl⟩; exact ⟨[], rfl, rfl, rfl⟩)) rfl rfl ?_
  rintro _ _ ⟨rfl, rfl⟩
  refine VO.t (v := .int .i64 rv_713) (t_assign rfl rfl) rfl rfl (VO.nil (thenQ_normal (VW.subK (.c 2 rfl .n) rfl (VW.ret ?_))))
  have h := Option.some.inj h
  subst h
  exact ⟨.inr rfl, rfl, _, .int .i64 rv_713, hq [] [], rfl, VLe.refl _, hq_sub .slnil .slnil, rfl, rfl⟩

theorem slices_nextPowerOfTwo_ok (a0 : Int) (r : Int) (h : PL.slices_nextPowerOfTwo a0 = some r) :
    VCalls Try.prog 73 [.int .i64 a0] (hq [] []) (fun v H => .int .u64 r = v ∧ H = hq [] []) := by
  unfold PL.slices_nextPowerOfTwo at h
  refine VCalls.of_body 7 [2] Try.func73 rfl rfl rfl (Nat.le_of_ble_eq_true rfl) (VW.subK (.c 0 rfl .n) rfl (VW.seq (VW.region (VO.t (v := .int .u64 0) (t_assign rfl (fun _ _ => rfl)) rfl rfl (VO.nil (thenQ_normal (VW.subK (.c 0 rfl .n) rfl (VW.seq (VW.region ?_)))))))))
  refine VO.t (t_move rfl rfl) rfl rfl (VO.t (v := .int .u64 (IntKind.wrap .u64 (a0))) (t_conv rfl ⟨_, Try.underlying3⟩ Try.underlying75 rfl rfl) rfl rfl ?_)
  obtain ⟨rv_715, hx_716, h⟩ := obind h
  refine VO.w (fun v H' => .int .i64 rv_715 = v ∧ H' = hq [] []) (w_call_q (sa := []) (sg := []) (tks := []) rfl fn55 rfl ⟨_, _, rfl, rfl, rfl⟩ (math_bits_Len_ok _ _ hx_716) (by rintro v H' ⟨rfl, rfl⟩; exact ⟨[], rfl, rfl, rfl⟩)) rfl rfl ?_
  rintro _ _ ⟨rfl, rfl⟩
  obtain ⟨hz_717, h⟩ := ite_some h
  refine VO.t (v := .int .u64 (ishl .u64 1 rv_715)) (t_shl rfl (fun _ _ => rfl) rfl hz_717 rfl) rfl rfl (VO.t (v := .int .u64 (ishl .u64 1 rv_715)) (t_assign rfl rfl) rfl rfl (VO.nil (thenQ_normal (VW.subK (.c 2 rfl .n) rfl (VW.ret ?_)))))
  have h := Option.some.inj h
  subst h
  exact ⟨.inr rfl, rfl, _, .int .u64 (ishl .u64 1 rv_715), hq [] [], rfl, VLe.refl _, hq_sub .slnil .slnil, rfl, rfl⟩

theorem slices_xorshift_Next_ok (a0 : Int) (r : Int × Int) (h : PL.slices_xorshift_Next a0 = some r) (o0 : Nat) :
    VCalls Try.prog 74 [.ptr o0 0] (hq [[(o0, .cells [.int .u64 a0])]] []) (fun v H => .int .u64 r.1 = v ∧ H = hq [[(o0, .cells [.int .u64 r.2])]] []) := by
  unfold PL.slices_xorshift_Next at h
  refine VCalls.of_body 33 [2] Try.func74 rfl rfl rfl (Nat.le_of_ble_eq_true rfl) (VW.subK (.c 0 rfl .n) rfl (VW.seq (VW.region (VO.t (v := .int .u64 0) (t_assign rfl (fun _ _ => rfl)) rfl rfl (VO.nil (thenQ_normal (VW.subK (.c 0 rfl .n) rfl (VW.seq (VW.draw 10 mix rfl ?_)))))))))
  refine VA.phase (g := 1) [0, 1, 2, 3, 4, 5, 6, 7, 8] 9 (VP.take (i := 0) rfl (TOp.r (t_move rfl rfl)) (.inl rfl) (by kernel_rfl) (VP.take (i := 1) (v := .ptr o0 0) rfl (TOp.r (t_nilCheck_ptr rfl rfl)) (.inl rfl) (by kernel_rfl) (VP.take (i := 2) (v := .int .u64 a0) rfl (r_load_q (i := 0) rfl sz94 rfl rfl rfl) (.inl rfl) (by kernel_rfl) (VP.take (i := 3) rfl (TOp.r (t_move rfl rfl)) (.inl rfl) (by kernel_rfl) (VP.take (i := 4) (v := .ptr o0 0) rfl (TOp.r (t_nilCheck_ptr rfl rfl)) (.inl rfl) (by kernel_rfl) (VP.take (i := 5) (v := .int .u64 a0) rfl (r_load_q (i := 0) rfl sz94 rfl rfl rfl) (.inl rfl) (by kernel_rfl) (VP.take (i := 6) (v := .int .u64 (ishl .u64 a0 13)) rfl (TOp.r (t_shl rfl rfl (fun _ _ => rfl) (by decide) rfl)) (.inl rfl) (by kernel_rfl) (VP.take (i := 7) (v := .int .u64 (ibits .xor .u64 a0 (ishl .u64 a0 13))) rfl (TOp.r (t_xor rfl rfl rfl rfl)) (.inl rfl) (by kernel_rfl) (VP.take (i := 8) (v := .ptr o0 0) rfl (TOp.r (t_nilCheck_ptr rfl rfl)) (.inl rfl) (by kernel_rfl) ?_)))))))))
  refine VP.done (by kernel_rfl) (VA.w (i := 9) (fun v H' => .any = v ∧ H' = hq ([[(o0, .cells [.int .u64 (ibits .xor .u64 a0 (ishl .u64 a0 13))])]]) []) rfl (w_store_q (i := 0) rfl sz94 rfl rfl rfl rfl rfl (Nat.le_of_ble_eq_true rfl) ⟨rfl, rfl⟩) (.inl rfl) (by kernel_rfl) rfl ?_)
  rintro _ _ ⟨rfl, rfl⟩
  refine VA.done (by kernel_rfl) (thenQ_normal (VW.subK (.c 0 rfl .n) rfl (VW.seq (VW.draw 10 mix rfl (VA.phase (g := 1) [0, 1, 2, 3, 4, 5, 6, 7, 8] 9 (VP.take (i := 0) rfl (TOp.r (t_move rfl rfl)) (.inl rfl) (by kernel_rfl) (VP.take (i := 1) (v := .ptr o0 0) rfl (TOp.r (t_nilCheck_ptr rfl rfl)) (.inl rfl) (by kernel_rfl) (VP.take (i := 2) (v := .int .u64 (ibits .xor .u64 a0 (ishl .u64 a0 13))) rfl (r_load_q (i := 0) rfl sz94 rfl rfl rfl) (.inl rfl) (by kernel_rfl) (VP.take (i := 3) rfl (TOp.r (t_move rfl rfl)) (.inl rfl) (by kernel_rfl) ?_)))))))))
  refine VP.take (i := 4) (v := .ptr o0 0) rfl (TOp.r (t_nilCheck_ptr rfl rfl)) (.inl rfl) (by kernel_rfl) (VP.take (i := 5) (v := .int .u64 (ibits .xor .u64 a0 (ishl .u64 a0 13))) rfl (r_load_q (i := 0) rfl sz94 rfl rfl rfl) (.inl rfl) (by kernel_rfl) (VP.take (i := 6) (v := .int .u64 (ishr .u64 (ibits .xor .u64 a0 (ishl .u64 a0 13)) 7)) rfl (TOp.r (t_shr rfl rfl (fun _ _ => rfl) (by decide) rfl)) (.inl rfl) (by kernel_rfl) (VP.take (i := 7) (v := .int .u64 (ibits .xor .u64 (ibits .xor .u64 a0 (ishl .u64 a0 13)) (ishr .u64 (ibits .xor .u64 a0 (ishl .u64 a0 13)) 7))) rfl (TOp.r (t_xor rfl rfl rfl rfl)) (.inl rfl) (by kernel_rfl) (VP.take (i := 8) (v := .ptr o0 0) rfl (TOp.r (t_nilCheck_ptr rfl rfl)) (.inl rfl) (by kernel_rfl) (VP.done (by kernel_rfl) (VA.w (i := 9) (fun v H' => .any = v ∧ H' = hq ([[(o0, .cells [.int .u64 (ibits .xor .u64 (ibits .xor .u64 a0 (ishl .u64 a0 13)) (ishr .u64 (ibits .xor .u64 a0 (ishl .u64 a0 13)) 7))])]]) []) rfl (w_store_q (i := 0) rfl sz94 rfl rfl rfl rfl rfl (Nat.le_of_ble_eq_true rfl) ⟨rfl, rfl⟩) (.inl rfl) (by kernel_rfl) rfl ?_))))))
  rintro _ _ ⟨rfl, rfl⟩
  refine VA.done (by kernel_rfl) (thenQ_normal (VW.subK (.c 0 rfl .n) rfl (VW.seq (VW.draw 10 mix rfl (VA.phase (g := 1) [0, 1, 2, 3, 4, 5, 6, 7, 8] 9 (VP.take (i := 0) rfl (TOp.r (t_move rfl rfl)) (.inl rfl) (by kernel_rfl) (VP.take (i := 1) (v := .ptr o0 0) rfl (TOp.r (t_nilCheck_ptr rfl rfl)) (.inl rfl) (by kernel_rfl) (VP.take (i := 2) (v := .int .u64 (ibits .xor .u64 (ibits .xor .u64 a0 (ishl .u64 a0 13)) (ishr .u64 (ibits .xor .u64 a0 (ishl .u64 a0 13)) 7))) rfl (r_load_q (i := 0) rfl sz94 rfl rfl rfl) (.inl rfl) (by kernel_rfl) (VP.take (i := 3) rfl (TOp.r (t_move rfl rfl)) (.inl rfl) (by kernel_rfl) ?_)))))))))
  refine VP.take (i := 4) (v := .ptr o0 0) rfl (TOp.r (t_nilCheck_ptr rfl rfl)) (.inl rfl) (by kernel_rfl) (VP.take (i := 5) (v := .int .u64 (ibits .xor .u64 (ibits .xor .u64 a0 (ishl .u64 a0 13)) (ishr .u64 (ibits .xor .u64 a0 (ishl .u64 a0 13)) 7))) rfl (r_load_q (i := 0) rfl sz94 rfl rfl rfl) (.inl rfl) (by kernel_rfl) (VP.take (i := 6) (v := .int .u64 (ishl .u64 (ibits .xor .u64 (ibits .xor .u64 a0 (ishl .u64 a0 13)) (ishr .u64 (ibits .xor .u64 a0 (ishl .u64 a0 13)) 7)) 17)) rfl (TOp.r (t_shl rfl rfl (fun _ _ => rfl) (by decide) rfl)) (.inl rfl) (by kernel_rfl) (VP.take (i := 7) (v := .int .u64 (ibits .xor .u64 (ibits .xor .u64 (ibits .xor .u64 a0 (ishl .u64 a0 13)) (ishr .u64 (ibits .xor .u64 a0 (ishl .u64 a0 13)) 7)) (ishl .u64 (ibits .xor .u64 (ibits .xor .u64 a0 (ishl .u64 a0 13)) (ishr .u64 (ibits .xor .u64 a0 (ishl .u64 a0 13)) 7)) 17))) rfl (TOp.r (t_xor rfl rfl rfl rfl)) (.inl rfl) (by kernel_rfl) (VP.take (i := 8) (v := .ptr o0 0) rfl (TOp.r (t_nilCheck_ptr rfl rfl)) (.inl rfl) (by kernel_rfl) (VP.done (by kernel_rfl) (VA.w (i := 9) (fun v H' => .any = v ∧ H' = hq ([[(o0, .cells [.int .u64 (ibits .xor .u64 (ibits .xor .u64 (ibits .xor .u64 a0 (ishl .u64 a0 13)) (ishr .u64 (ibits .xor .u64 a0 (ishl .u64 a0 13)) 7)) (ishl .u64 (ibits .xor .u64 (ibits .xor .u64 a0 (ishl .u64 a0 13)) (ishr .u64 (ibits .xor .u64 a0 (ishl .u64 a0 13)) 7)) 17))])]]) []) rfl (w_store_q (i := 0) rfl sz94 rfl rfl rfl rfl rfl (Nat.le_of_ble_eq_true rfl) ⟨rfl, rfl⟩) (.inl rfl) (by kernel_rfl) rfl ?_))))))
  rintro _ _ ⟨rfl, rfl⟩
  refine VA.done (by kernel_rfl) (thenQ_normal (VW.subK (.c 0 rfl .n) rfl (VW.seq (VW.region (VO.t (t_move rfl rfl) rfl rfl (VO.t (v := .ptr o0 0) (t_nilCheck_ptr rfl rfl) rfl rfl (VO.r (v := .int .u64 (ibits .xor .u64 (ibits .xor .u64 (ibits .xor .u64 a0 (ishl .u64 a0 13)) (ishr .u64 (ibits .xor .u64 a0 (ishl .u64 a0 13)) 7)) (ishl .u64 (ibits .xor .u64 (ibits .xor .u64 a0 (ishl .u64 a0 13)) (ishr .u64 (ibits .xor .u64 a0 (ishl .u64 a0 13)) 7)) 17))) (r_load_q (i := 0) rfl sz94 rfl rfl rfl) rfl rfl (VO.t (v := .int .u64 (ibits .xor .u64 (ibits .xor .u64 (ibits .xor .u64 a0 (ishl .u64 a0 13)) (ishr .u64 (ibits .xor .u64 a0 (ishl .u64 a0 13)) 7)) (ishl .u64 (ibits .xor .u64 (ibits .xor .u64 a0 (ishl .u64 a0 13)) (ishr .u64 (ibits .xor .u64 a0 (ishl .u64 a0 13)) 7)) 17))) (t_assign rfl rfl) rfl rfl (VO.nil ?_)))))))))
  refine thenQ_normal (VW.subK (.c 2 rfl .n) rfl (VW.ret ?_))
  have h := Option.some.inj h
  subst h
  exact ⟨.inr rfl, rfl, _, .int .u64 (ibits .xor .u64 (ibits .xor .u64 (ibits .xor .u64 a0 (ishl .u64 a0 13)) (ishr .u64 (ibits .xor .u64 a0 (ishl .u64 a0 13)) 7)) (ishl .u64 (ibits .xor .u64 (ibits .xor .u64 a0 (ishl .u64 a0 13)) (ishr .u64 (ibits .xor .u64 a0 (ishl .u64 a0 13)) 7)) 17)), hq [[(o0, .cells [.int .u64 (ibits .xor .u64 (ibits .xor .u64 (ibits .xor .u64 a0 (ishl .u64 a0 13)) (ishr .u64 (ibits .xor .u64 a0 (ishl .u64 a0 13)) 7)) (ishl .u64 (ibits .xor .u64 (ibits .xor .u64 a0 (ishl .u64 a0 13)) (ishr .u64 (ibits .xor .u64 a0 (ishl .u64 a0 13)) 7)) 17))])]] [], rfl, VLe.refl _, hq_sub (.cons_cons _ .slnil) .slnil, rfl, rfl⟩

theorem slices_breakPatternsCmpFunc_2int.l0_ok (a3 : Pr → Pr → Option Int) (a1 : Int) (a2 : Int) (rv_723 : Int) (a3_f : Nat) (a3_a a3_c : List VV) (a3_g : Seg) (a3_k : FnOK Try.prog a3_f) (a3_h : ∀ (y0 : Pr) (y1 : Pr) (z : Int), a3 y0 y1 = some z → VCalls Try.prog a3_f (a3_a ++ [.agg [.int .i64 y0.x0, .int .i64 y0.x1], .agg [.int .i64 y1.x0, .int .i64 y1.x1]] ++ a3_c) (hq [a3_g] []) (fun v H => .int .i64 z = v ∧ H = hq [a3_g] [])) {Q : Exit → Env → HH → Prop} :
    ∀ (bu_747 : List Pr) (c_749 : Int) (idx_750 : Int) (o : (List Pr)), PL.slices_breakPatternsCmpFunc_2int.l0 a3 a1 a2 rv_723 bu_747 c_749 idx_750 = some o →
    ∀ (ob_722 : Nat) (vp0_748 : VV) (bp0_748 : Seg) (hbp0_748 : Buf 2 (bu_747.map Pr.c) vp0_748 bp0_748) (hx0 : ∀ (bu_771 : List Pr) (bp0_772 : Seg), bu_771 = o → Buf 2 (bu_771.map Pr.c) vp0_748 bp0_772 → Q (.exit 0) ⟨[], []⟩ (hq ([bp0_772, a3_g]) [])), VW Try.prog 67 (codeAt [1, 1, 0, 1, 1, 1, 0, 0] (bodyOf Try.f63)) (thenQ (VL Try.prog 67 (codeAt [1, 1, 0, 1, 1, 1, 0, 0] (bodyOf Try.f63)) Q) Q) ⟨[(0, vp0_748), (1, .int .i64 a1), (8, .int .i64 (w64 (a2 - a1))), (9, .ptr ob_722 0), (10, .int .u64 rv_723), (11, .int .i64 idx_750)], []⟩ (hq ([bp0_748, a3_g, [(ob_722, .cells [.int .u64 c_749])]]) []) := by
  refine PL.slices_breakPatternsCmpFunc_2int.l0.partial_correctness a3 a1 a2 rv_723 (motive := fun bu_747 c_749 idx_750 o => ∀ (ob_722 : Nat) (vp0_748 : VV) (bp0_748 : Seg) (hbp0_748 : Buf 2 (bu_747.map Pr.c) vp0_748 bp0_748) (hx0 : ∀ (bu_771 : List Pr) (bp0_772 : Seg), bu_771 = o → Buf 2 (bu_771.map Pr.c) vp0_748 bp0_772 → Q (.exit 0) ⟨[], []⟩ (hq ([bp0_772, a3_g]) [])), VW Try.prog 67 (codeAt [1, 1, 0, 1, 1, 1, 0, 0] (bodyOf Try.f63)) (thenQ (VL Try.prog 67 (codeAt [1, 1, 0, 1, 1, 1, 0, 0] (bodyOf Try.f63)) Q) Q) ⟨[(0, vp0_748), (1, .int .i64 a1), (8, .int .i64 (w64 (a2 - a1))), (9, .ptr ob_722 0), (10, .int .u64 rv_723), (11, .int .i64 idx_750)], []⟩ (hq ([bp0_748, a3_g, [(ob_722, .cells [.int .u64 c_749])]]) [])) ?_
  intro _ ih bu_747 c_749 idx_750 o h ob_722 vp0_748 bp0_748 hbp0_748 hx0
  refine VW.seq (VW.seq (VW.region (VO.t (t_move rfl rfl) rfl rfl (VO.t (t_move rfl rfl) rfl rfl (VO.t (t_move rfl rfl) rfl rfl (VO.t (v := .int .i64 (w64 (Int.tdiv (w64 (a2 - a1)) 4))) (t_quo rfl rfl (fun _ _ => rfl) (by decide) rfl) rfl rfl (VO.t (v := .int .i64 (w64 ((w64 (Int.tdiv (w64 (a2 - a1)) 4)) * 2))) (t_mul rfl rfl (fun _ _ => rfl) rfl) rfl rfl (VO.t (v := .int .i64 (w64 (a1 + (w64 ((w64 (Int.tdiv (w64 (a2 - a1)) 4)) * 2))))) (t_add rfl rfl rfl rfl) rfl rfl (VO.t (v := .int .i64 (w64 ((w64 (a1 + (w64 ((w64 (Int.tdiv (w64 (a2 - a1)) 4)) * 2)))) + 1))) (t_add rfl rfl (fun _ _ => rfl) rfl) rfl rfl ?_)))))))))
  refine VO.t (v := .bool (decide (idx_750 ≤ (w64 ((w64 (a1 + (w64 ((w64 (Int.tdiv (w64 (a2 - a1)) 4)) * 2)))) + 1))))) (t_cmp rfl rfl rfl rfl rfl) rfl rfl (VO.nil (thenQ_normal (VW.subK (.c 0 rfl (.c 1 rfl (.c 8 rfl (.c 9 rfl (.c 10 rfl (.c 11 rfl (.c 35 rfl .n))))))) rfl ?_)))
  refine VW.cond (b := (decide (idx_750 ≤ (w64 ((w64 (a1 + (w64 ((w64 (Int.tdiv (w64 (a2 - a1)) 4)) * 2)))) + 1))))) rfl (fun hc_774 => ?_) (fun hc_774 => ?_)
  · replace h := iteT h hc_774
    refine VW.skip (thenQ_normal (VW.subK (.c 0 rfl (.c 1 rfl (.c 8 rfl (.c 9 rfl (.c 10 rfl (.c 11 rfl .n)))))) rfl (VW.seq (VW.block (VW.seq (VW.region (VO.frontS 2 rfl ?_)))))))
    obtain ⟨⟨rv_775, k_776⟩, hx_777, h⟩ := obind h
    try dsimp only at h
    refine VO.w (fun v H' => .int .u64 rv_775 = v ∧ H' = hq ([[(ob_722, .cells [.int .u64 k_776])], bp0_748, a3_g]) []) (w_call_q (sa := [[(ob_722, .cells [.int .u64 c_749])]]) (sg := [bp0_748, a3_g]) (tks := []) rfl fn74 rfl ⟨_, _, rfl, rfl, rfl⟩ (slices_xorshift_Next_ok _ _ hx_777 ob_722) (by rintro v H' ⟨rfl, rfl⟩; exact ⟨[[(ob_722, .cells [.int .u64 k_776])]], rfl, rfl, rfl⟩)) rfl rfl ?_
    rintro _ _ ⟨rfl, rfl⟩
    refine VO.t (t_move rfl rfl) rfl rfl (VO.t (v := .int .u64 (IntKind.wrap .u64 (rv_723 - 1))) (t_sub rfl rfl (fun _ _ => rfl) rfl) rfl rfl (VO.t (v := .int .u64 (ibits .and .u64 rv_775 (IntKind.wrap .u64 (rv_723 - 1)))) (t_and rfl rfl rfl rfl) rfl rfl (VO.t (v := .int .i64 (w64 (ibits .and .u64 rv_775 (IntKind.wrap .u64 (rv_723 - 1))))) (t_conv rfl ⟨_, Try.underlying75⟩ Try.underlying3 rfl rfl) rfl rfl (VO.t (v := .int .i64 (w64 (ibits .and .u64 rv_775 (IntKind.wrap .u64 (rv_723 - 1))))) (t_assign rfl rfl) rfl rfl (VO.nil (thenQ_normal (VW.subK (.c 0 rfl (.c 1 rfl (.c 8 rfl (.c 9 rfl (.c 10 rfl (.c 11 rfl (.c 12 rfl .n))))))) rfl (VW.seq (VW.seq ?_)))))))))
    refine VW.region (VO.t (t_move rfl rfl) rfl rfl (VO.t (t_move rfl rfl) rfl rfl (VO.t (v := .bool (decide ((w64 (ibits .and .u64 rv_775 (IntKind.wrap .u64 (rv_723 - 1)))) ≥ (w64 (a2 - a1))))) (t_cmp rfl rfl rfl rfl rfl) rfl rfl (VO.nil (thenQ_normal (VW.subK (.c 0 rfl (.c 1 rfl (.c 8 rfl (.c 9 rfl (.c 10 rfl (.c 11 rfl (.c 12 rfl (.c 45 rfl .n)))))))) rfl ?_))))))
    obtain ⟨o_783, h, hx_781⟩ := obind h
    refine VW.joinQ (E := Int × Seg) (I := fun ⟨other_780, bp0_779⟩ => other_780 = o_783 ∧ Buf 2 (bu_747.map Pr.c) vp0_748 bp0_779 ∧ True) (env' := fun ⟨other_780, bp0_779⟩ => ⟨[(0, vp0_748), (1, .int .i64 a1), (8, .int .i64 (w64 (a2 - a1))), (9, .ptr ob_722 0), (10, .int .u64 rv_723), (11, .int .i64 idx_750), (12, .int .i64 other_780)], []⟩) (H' := fun ⟨other_780, bp0_779⟩ => hq ([bp0_779, a3_g, [(ob_722, .cells [.int .u64 k_776])]]) []) ?_ (fun J_782 => ?_)
    · rintro ⟨other_780, bp0_779⟩ ⟨ho_, hbp0_779, _⟩
      subst ho_
      replace h := hx_781
      clear hx_781
      try dsimp only at h
      show VW _ _ _ _ ⟨[(0, vp0_748), (1, .int .i64 a1), (8, .int .i64 (w64 (a2 - a1))), (9, .ptr ob_722 0), (10, .int .u64 rv_723), (11, .int .i64 idx_750), (12, .int .i64 other_780)], []⟩ (hq ([bp0_779, a3_g, [(ob_722, .cells [.int .u64 k_776])]]) [])
      refine VW.draw 20 mix rfl (VA.t (i := 0) rfl (t_move rfl rfl) (.inl rfl) (by kernel_rfl) (VA.t (i := 1) rfl (t_move rfl rfl) (.inl rfl) (by kernel_rfl) (VA.t (i := 2) rfl (t_move rfl rfl) (.inl rfl) (by kernel_rfl) (VA.t (i := 3) rfl (t_move rfl rfl) (.inl rfl) (by kernel_rfl) (VA.t (i := 4) rfl (t_move rfl rfl) (.inl rfl) (by kernel_rfl) (VA.t (i := 5) (v := .int .i64 (w64 (a1 + other_780))) rfl (t_add rfl rfl rfl rfl) (.inl rfl) (by kernel_rfl) (VA.phase (g := 3) [6, 7, 8, 9, 10, 11, 12, 13, 14, 15, 16] 11 (VP.take (i := 6) rfl (TOp.r (t_move rfl rfl)) (.inl rfl) (by kernel_rfl) (VP.take (i := 7) rfl (TOp.r (t_move rfl rfl)) (.inl rfl) (by kernel_rfl) ?_)))))))))
      refine VP.take (i := 8) rfl (TOp.r (t_move rfl rfl)) (.inl rfl) (by kernel_rfl) (VP.take (i := 9) (v := .int .i64 (w64 (a1 + other_780))) rfl (TOp.r (t_add rfl rfl rfl rfl)) (.inl rfl) (by kernel_rfl) ?_)
      obtain ⟨c_784, hc_784, h⟩ := obind h
      obtain ⟨ob_785, cap_785, len_785, sl_785, rfl, rfl, hE_785, hl_785, hc_785, hs_785⟩ := buf_at hbp0_779 hc_784
      refine VP.take (i := 10) (v := .ptr ob_785 ((w64 (a1 + other_780)).toNat * 2 + 0)) rfl (TOp.r (t_index_own rfl sl22 rfl rfl (getI_some hc_784).1 (by rw [hl_785]; exact getI_lt hc_784) rfl)) (.inl rfl) (by kernel_rfl) (VP.take (i := 11) (v := .agg [.int .i64 c_784.x0, .int .i64 c_784.x1]) rfl (r_load_buf (n := 2) (f := 0) (j := 0) rfl sz49 rfl rfl hE_785 (map_get (getI_some hc_784).2 (Pr.c_eq c_784)) (Nat.le_of_ble_eq_true rfl) (fun _ => ofCells_agg rfl)) (.inl rfl) (by kernel_rfl) (VP.take (i := 12) rfl (TOp.r (t_move rfl rfl)) (.inl rfl) (by kernel_rfl) (VP.take (i := 13) rfl (TOp.r (t_move rfl rfl)) (.inl rfl) (by kernel_rfl) ?_)))
      obtain ⟨c_786, hc_786, h⟩ := obind h
      refine VP.take (i := 14) (v := .ptr ob_785 (idx_750.toNat * 2 + 0)) rfl (TOp.r (t_index_own rfl sl22 rfl rfl (getI_some hc_786).1 (by rw [hl_785]; exact getI_lt hc_786) rfl)) (.inl rfl) (by kernel_rfl) (VP.take (i := 15) (v := .agg [.int .i64 c_786.x0, .int .i64 c_786.x1]) rfl (r_load_buf (n := 2) (f := 0) (j := 0) rfl sz49 rfl rfl hE_785 (map_get (getI_some hc_786).2 (Pr.c_eq c_786)) (Nat.le_of_ble_eq_true rfl) (fun _ => ofCells_agg rfl)) (.inl rfl) (by kernel_rfl) (VP.take (i := 16) (v := .ptr ob_785 (idx_750.toNat * 2 + 0)) rfl (TOp.r (t_index_own rfl sl22 rfl rfl (getI_some hc_786).1 (by rw [hl_785]; exact getI_lt hc_786) rfl)) (.inl rfl) (by kernel_rfl) (VP.done (by kernel_rfl) (VA.w (i := 17) (fun v H' => .any = v ∧ H' = hq ([[(ob_785, .cells (((bu_747.set idx_750.toNat c_784).map Pr.c).flatten ++ sl_785))], a3_g, [(ob_722, .cells [.int .u64 k_776])]]) []) rfl (w_store_buf (n := 2) (f := 0) (j := 0) rfl sz49 rfl rfl rfl hE_785 (map_get (getI_some hc_786).2 (Pr.c_eq c_786)) rfl rfl (Nat.le_of_ble_eq_true rfl) rfl (map_set (Pr.c_eq c_784)) ⟨rfl, rfl⟩) (.inl rfl) (by kernel_rfl) rfl ?_))))
      rintro _ _ ⟨rfl, rfl⟩
      have hl_788 : len_785 = (bu_747.set idx_750.toNat c_784).length := by simp [hl_785]
      obtain ⟨c_789, hc_789, h⟩ := obind h
      refine VA.t (i := 18) (v := .ptr ob_785 ((w64 (a1 + other_780)).toNat * 2 + 0)) rfl (t_index_own rfl sl22 rfl rfl (getI_some hc_789).1 (by rw [hl_788]; exact getI_lt hc_789) rfl) (.inl rfl) (by kernel_rfl) (VA.w (i := 19) (fun v H' => .any = v ∧ H' = hq ([[(ob_785, .cells ((((bu_747.set idx_750.toNat c_784).set (w64 (a1 + other_780)).toNat c_786).map Pr.c).flatten ++ sl_785))], a3_g, [(ob_722, .cells [.int .u64 k_776])]]) []) rfl (w_store_buf (n := 2) (f := 0) (j := 0) rfl sz49 rfl rfl rfl (elemsOK_map Pr.c_ok _) (map_get (getI_some hc_789).2 (Pr.c_eq c_789)) rfl rfl (Nat.le_of_ble_eq_true rfl) rfl (map_set (Pr.c_eq c_786)) ⟨rfl, rfl⟩) (.inl rfl) (by kernel_rfl) rfl ?_)
      rintro _ _ ⟨rfl, rfl⟩
      have hl_791 : len_785 = ((bu_747.set idx_750.toNat c_784).set (w64 (a1 + other_780)).toNat c_786).length := by simp [hl_788]
      refine VA.done (by kernel_rfl) (blockQ_normal (thenQ_normal (VW.subK (.c 0 rfl (.c 1 rfl (.c 8 rfl (.c 9 rfl (.c 10 rfl (.c 11 rfl .n)))))) rfl (VW.region (VO.t (t_move rfl rfl) rfl rfl (VO.t (v := .int .i64 (w64 (idx_750 + 1))) (t_add rfl rfl (fun _ _ => rfl) rfl) rfl rfl (VO.t (v := .int .i64 (w64 (idx_750 + 1))) (t_assign rfl rfl) rfl rfl (VO.nil (thenQ_normal (VL.round ?_))))))))))
      refine VW.subK (.c 0 rfl (.c 1 rfl (.c 8 rfl (.c 9 rfl (.c 10 rfl (.c 11 rfl .n)))))) rfl ?_
      exact ih _ _ _ _ h ob_722 (.own ob_785 cap_785 len_785) [(ob_785, .cells ((((bu_747.set idx_750.toNat c_784).set (w64 (a1 + other_780)).toNat c_786).map Pr.c).flatten ++ sl_785))] (Buf.own (n := 2) (l := ((bu_747.set idx_750.toNat c_784).set (w64 (a1 + other_780)).toNat c_786).map Pr.c) ob_785 cap_785 len_785 sl_785 (elemsOK_map Pr.c_ok _) (by simp [hl_791]) hc_785 hs_785) hx0
    · refine VW.cond (b := (decide ((w64 (ibits .and .u64 rv_775 (IntKind.wrap .u64 (rv_723 - 1)))) ≥ (w64 (a2 - a1))))) rfl (fun hc_792 => ?_) (fun hc_792 => ?_)
      · replace h := iteT h hc_792
        refine VW.region (VO.t (t_move rfl rfl) rfl rfl (VO.t (t_move rfl rfl) rfl rfl (VO.t (v := .int .i64 (w64 ((w64 (ibits .and .u64 rv_775 (IntKind.wrap .u64 (rv_723 - 1)))) - (w64 (a2 - a1))))) (t_sub rfl rfl rfl rfl) rfl rfl (VO.t (v := .int .i64 (w64 ((w64 (ibits .and .u64 rv_775 (IntKind.wrap .u64 (rv_723 - 1)))) - (w64 (a2 - a1))))) (t_assign rfl rfl) rfl rfl (VO.subK (.c 0 rfl (.c 1 rfl (.c 8 rfl (.c 9 rfl (.c 10 rfl (.c 11 rfl (.c 12 rfl .n))))))) rfl (VO.frontS 0 rfl (VO.frontS 2 rfl (VO.frontS 2 rfl (VO.nil ?_)))))))))
        exact thenQ_normal (J_782 ⟨w64 ((w64 (ibits .and .u64 rv_775 (IntKind.wrap .u64 (rv_723 - 1)))) - (w64 (a2 - a1))), bp0_748⟩ ⟨Option.some.inj h, hbp0_748, trivial⟩)
      · replace h := iteF h hc_792
        refine VW.subK (.c 0 rfl (.c 1 rfl (.c 8 rfl (.c 9 rfl (.c 10 rfl (.c 11 rfl (.c 12 rfl .n))))))) rfl (VW.frontS 0 rfl (VW.frontS 2 rfl (VW.frontS 2 rfl (VW.skip ?_))))
        exact thenQ_normal (J_782 ⟨w64 (ibits .and .u64 rv_775 (IntKind.wrap .u64 (rv_723 - 1))), bp0_748⟩ ⟨Option.some.inj h, hbp0_748, trivial⟩)
  · replace h := iteF h hc_774
    refine VW.subN (t' := []) trivial rfl (VW.hsub (A := hq ([bp0_748, a3_g]) []) (hq_sub (.cons_cons _ (.cons_cons _ (.cons _ .slnil))) .slnil) (VW.exit (thenQ_exit (thenQ_exit ?_))))
    have h := Option.some.inj h
    subst h
    exact hx0 _ bp0_748 rfl hbp0_748

theorem slices_breakPatternsCmpFunc_2int_ok (a0 : List Pr) (a1 : Int) (a2 : Int) (a3 : Pr → Pr → Option Int) (r : List Pr) (h : PL.slices_breakPatternsCmpFunc_2int a0 a1 a2 a3 = some r) (v0 : VV) (b0 : Seg) (a3_f : Nat) (a3_a : List VV) (a3_c : List VV) (a3_g : Seg) (hB0 : Buf 2 (a0.map Pr.c) v0 b0) (a3_k : FnOK Try.prog a3_f) (a3_h : ∀ (y0 : Pr) (y1 : Pr) (z : Int), a3 y0 y1 = some z → VCalls Try.prog a3_f (a3_a ++ [.agg [.int .i64 y0.x0, .int .i64 y0.x1], .agg [.int .i64 y1.x0, .int .i64 y1.x1]] ++ a3_c) (hq [a3_g] []) (fun v H => .int .i64 z = v ∧ H = hq [a3_g] [])) :
    VCalls Try.prog 63 [v0, .int .i64 a1, .int .i64 a2, .func (.func a3_f) a3_a a3_c] (hq [b0, a3_g] []) (fun v H => ∃ bk0, Buf 2 (r.map Pr.c) v0 bk0 ∧ .tup [] = v ∧ H = hq [bk0, a3_g] []) := by
  unfold PL.slices_breakPatternsCmpFunc_2int at h
  refine VCalls.of_body 67 [] Try.func63 rfl rfl rfl (Nat.le_of_ble_eq_true rfl) (VW.subK (.c 0 rfl (.c 1 rfl (.c 2 rfl .n))) rfl (VW.seq (VW.region (VO.t (t_move rfl rfl) rfl rfl (VO.t (t_move rfl rfl) rfl rfl (VO.t (v := .int .i64 (w64 (a2 - a1))) (t_sub rfl rfl rfl rfl) rfl rfl (VO.t (v := .int .i64 (w64 (a2 - a1))) (t_assign rfl rfl) rfl rfl (VO.nil (thenQ_normal ?_)))))))))
  refine VW.subK (.c 0 rfl (.c 1 rfl (.c 8 rfl .n))) rfl (VW.seq (VW.region (VO.t (t_move rfl rfl) rfl rfl (VO.t (v := .bool (decide ((w64 (a2 - a1)) ≥ 8))) (t_cmp rfl rfl rfl (fun _ _ => rfl) rfl) rfl rfl (VO.nil (thenQ_normal (VW.subK (.c 0 rfl (.c 1 rfl (.c 8 rfl (.c 17 rfl .n)))) rfl ?_)))))))
  refine VW.cond (b := (decide ((w64 (a2 - a1)) ≥ 8))) rfl (fun hc_721 => ?_) (fun hc_721 => ?_)
  · replace h := iteT h hc_721
    refine VW.seq (VW.region (VO.t (t_move rfl rfl) rfl rfl (VO.t (v := .int .u64 (IntKind.wrap .u64 (w64 (a2 - a1)))) (t_conv rfl ⟨_, Try.underlying3⟩ Try.underlying94 rfl rfl) rfl rfl (VO.w (fun v H' => ∃ ob_722, .ptr ob_722 0 = v ∧ H' = hq ([[(ob_722, .cells [.int .u64 0])], b0, a3_g]) []) (w_alloc_q rfl zt94 (fun ob => ⟨ob, rfl, rfl⟩)) rfl rfl ?_))))
    rintro _ _ ⟨ob_722, rfl, rfl⟩
    refine VO.w (fun v H' => .any = v ∧ H' = hq ([[(ob_722, .cells [.int .u64 (IntKind.wrap .u64 (w64 (a2 - a1)))])], b0, a3_g]) []) (w_store_q (i := 0) rfl sz94 rfl rfl rfl rfl rfl (Nat.le_of_ble_eq_true rfl) ⟨rfl, rfl⟩) rfl rfl ?_
    rintro _ _ ⟨rfl, rfl⟩
    refine VO.nil (thenQ_normal (VW.subK (.c 0 rfl (.c 1 rfl (.c 8 rfl (.c 9 rfl .n)))) rfl (VW.seq (VW.region (VO.t (t_move rfl rfl) rfl rfl ?_)))))
    obtain ⟨rv_723, hx_724, h⟩ := obind h
    refine VO.w (fun v H' => .int .u64 rv_723 = v ∧ H' = hq ([[(ob_722, .cells [.int .u64 (IntKind.wrap .u64 (w64 (a2 - a1)))])], b0, a3_g]) []) (w_call_q (sa := []) (sg := [[(ob_722, .cells [.int .u64 (IntKind.wrap .u64 (w64 (a2 - a1)))])], b0, a3_g]) (tks := []) rfl fn73 rfl ⟨_, _, rfl, rfl, rfl⟩ (slices_nextPowerOfTwo_ok _ _ hx_724) (by rintro v H' ⟨rfl, rfl⟩; exact ⟨[], rfl, rfl, rfl⟩)) rfl rfl ?_
    rintro _ _ ⟨rfl, rfl⟩
    refine VO.t (v := .int .u64 rv_723) (t_assign rfl rfl) rfl rfl (VO.nil (thenQ_normal (VW.subK (.c 0 rfl (.c 1 rfl (.c 8 rfl (.c 9 rfl (.c 10 rfl .n))))) rfl (VW.seq (VW.region (VO.t (t_move rfl rfl) rfl rfl (VO.t (t_move rfl rfl) rfl rfl (VO.t (v := .int .i64 (w64 (Int.tdiv (w64 (a2 - a1)) 4))) (t_quo rfl rfl (fun _ _ => rfl) (by decide) rfl) rfl rfl (VO.t (v := .int .i64 (w64 ((w64 (Int.tdiv (w64 (a2 - a1)) 4)) * 2))) (t_mul rfl rfl (fun _ _ => rfl) rfl) rfl rfl ?_)))))))))
    refine VO.t (v := .int .i64 (w64 (a1 + (w64 ((w64 (Int.tdiv (w64 (a2 - a1)) 4)) * 2))))) (t_add rfl rfl rfl rfl) rfl rfl (VO.t (v := .int .i64 (w64 ((w64 (a1 + (w64 ((w64 (Int.tdiv (w64 (a2 - a1)) 4)) * 2)))) - 1))) (t_sub rfl rfl (fun _ _ => rfl) rfl) rfl rfl (VO.t (v := .int .i64 (w64 ((w64 (a1 + (w64 ((w64 (Int.tdiv (w64 (a2 - a1)) 4)) * 2)))) - 1))) (t_assign rfl rfl) rfl rfl (VO.nil (thenQ_normal (VW.subK (.c 0 rfl (.c 1 rfl (.c 8 rfl (.c 9 rfl (.c 10 rfl (.c 11 rfl .n)))))) rfl (VW.block (VW.subK (.c 0 rfl (.c 1 rfl (.c 8 rfl (.c 9 rfl (.c 10 rfl (.c 11 rfl .n)))))) rfl (VW.frontS 0 rfl (VW.frontS 2 rfl ?_)))))))))
    refine VW.frontS 2 rfl ?_
    obtain ⟨o_793, hx_794, h⟩ := obind h
    refine VW.loopL (slices_breakPatternsCmpFunc_2int.l0_ok a3 a1 a2 rv_723 a3_f a3_a a3_c a3_g a3_k a3_h _ _ _ _ hx_794 ob_722 v0 b0 hB0 ?_)
    · intro bu_771 bp0_772 ho_ hbp0_772
      subst ho_
      try dsimp only at h
      refine blockQ_hit ?_
      have h := Option.some.inj h
      subst h
      exact ⟨.inl rfl, rfl, _, .tup [], hq [bp0_772, a3_g] [], rfl, VLe.refl _, hq_sub (.cons_cons _ (.cons_cons _ .slnil)) .slnil, bp0_772, hbp0_772, rfl, rfl⟩
  · replace h := iteF h hc_721
    refine VW.subN (t' := []) trivial rfl (VW.skip ?_)
    have h := Option.some.inj h
    subst h
    exact ⟨.inl rfl, rfl, _, .tup [], hq [b0, a3_g] [], rfl, VLe.refl _, hq_sub (.cons_cons _ (.cons_cons _ .slnil)) .slnil, b0, hB0, rfl, rfl⟩

theorem slices_order2CmpFunc_2int_ok (a0 : List Pr) (a1 : Int) (a2 : Int) (a3 : Int) (a4 : Pr → Pr → Option Int) (r : Int × Int × List Pr × Int) (h : PL.slices_order2CmpFunc_2int a0 a1 a2 a3 a4 = some r) (v0 : VV) (b0 : Seg) (o3 : Nat) (a4_f : Nat) (a4_a : List VV) (a4_c : List VV) (a4_g : Seg) (hB0 : Buf 2 (a0.map Pr.c) v0 b0) (a4_k : FnOK Try.prog a4_f) (a4_h : ∀ (y0 : Pr) (y1 : Pr) (z : Int), a4 y0 y1 = some z → VCalls Try.prog a4_f (a4_a ++ [.agg [.int .i64 y0.x0, .int .i64 y0.x1], .agg [.int .i64 y1.x0, .int .i64 y1.x1]] ++ a4_c) (hq [a4_g] []) (fun v H => .int .i64 z = v ∧ H = hq [a4_g] [])) :
    VCalls Try.prog 77 [v0, .int .i64 a1, .int .i64 a2, .ptr o3 0, .func (.func a4_f) a4_a a4_c] (hq [b0, [(o3, .cells [.int .i64 a3])], a4_g] []) (fun v H => ∃ bk0, Buf 2 (r.2.2.1.map Pr.c) v0 bk0 ∧ .tup [.int .i64 r.1, .int .i64 r.2.1] = v ∧ H = hq [bk0, [(o3, .cells [.int .i64 r.2.2.2])], a4_g] []) := by
  unfold PL.slices_order2CmpFunc_2int at h
  refine VCalls.of_body 32 [10, 11] Try.func77 rfl rfl rfl (Nat.le_of_ble_eq_true rfl) (VW.subK (.c 0 rfl (.c 1 rfl (.c 2 rfl (.c 3 rfl (.c 4 rfl .n))))) rfl (VW.seq (VW.region (VO.t (v := .int .i64 0) (t_assign rfl (fun _ _ => rfl)) rfl rfl (VO.t (v := .int .i64 0) (t_assign rfl (fun _ _ => rfl)) rfl rfl (VO.nil (thenQ_normal (VW.subK (.c 0 rfl (.c 1 rfl (.c 2 rfl (.c 3 rfl (.c 4 rfl .n))))) rfl (VW.seq ?_)))))))))
  refine VW.seq (VW.draw 11 mix rfl (VA.phase (g := 2) [0, 1, 2, 3, 4, 5, 6, 7, 8] 9 (VP.take (i := 0) rfl (TOp.r (t_move rfl rfl)) (.inl rfl) (by kernel_rfl) (VP.take (i := 1) rfl (TOp.r (t_move rfl rfl)) (.inl rfl) (by kernel_rfl) (VP.take (i := 2) rfl (TOp.r (t_move rfl rfl)) (.inl rfl) (by kernel_rfl) ?_)))))
  obtain ⟨c_800, hc_800, h⟩ := obind h
  obtain ⟨ob_801, cap_801, len_801, sl_801, rfl, rfl, hE_801, hl_801, hc_801, hs_801⟩ := buf_at hB0 hc_800
  refine VP.take (i := 3) (v := .ptr ob_801 (a2.toNat * 2 + 0)) rfl (TOp.r (t_index_own rfl sl22 rfl rfl (getI_some hc_800).1 (by rw [hl_801]; exact getI_lt hc_800) rfl)) (.inl rfl) (by kernel_rfl) (VP.take (i := 4) (v := .agg [.int .i64 c_800.x0, .int .i64 c_800.x1]) rfl (r_load_buf (n := 2) (f := 0) (j := 0) rfl sz49 rfl rfl hE_801 (map_get (getI_some hc_800).2 (Pr.c_eq c_800)) (Nat.le_of_ble_eq_true rfl) (fun _ => ofCells_agg rfl)) (.inl rfl) (by kernel_rfl) (VP.take (i := 5) rfl (TOp.r (t_move rfl rfl)) (.inl rfl) (by kernel_rfl) (VP.take (i := 6) rfl (TOp.r (t_move rfl rfl)) (.inl rfl) (by kernel_rfl) ?_)))
  obtain ⟨c_802, hc_802, h⟩ := obind h
  refine VP.take (i := 7) (v := .ptr ob_801 (a1.toNat * 2 + 0)) rfl (TOp.r (t_index_own rfl sl22 rfl rfl (getI_some hc_802).1 (by rw [hl_801]; exact getI_lt hc_802) rfl)) (.inl rfl) (by kernel_rfl) (VP.take (i := 8) (v := .agg [.int .i64 c_802.x0, .int .i64 c_802.x1]) rfl (r_load_buf (n := 2) (f := 0) (j := 0) rfl sz49 rfl rfl hE_801 (map_get (getI_some hc_802).2 (Pr.c_eq c_802)) (Nat.le_of_ble_eq_true rfl) (fun _ => ofCells_agg rfl)) (.inl rfl) (by kernel_rfl) (VP.done (by kernel_rfl) (VA.frontS 2 rfl ?_)))
  obtain ⟨rv_803, hx_804, h⟩ := obind h
  refine VA.w (i := 9) (fun v H' => .int .i64 rv_803 = v ∧ H' = hq ([a4_g, [(ob_801, .cells ((a0.map Pr.c).flatten ++ sl_801))], [(o3, .cells [.int .i64 a3])]]) []) rfl (w_call_q (sa := [a4_g]) (sg := [[(ob_801, .cells ((a0.map Pr.c).flatten ++ sl_801))], [(o3, .cells [.int .i64 a3])]]) (tks := []) rfl a4_k rfl ⟨_, _, rfl, rfl, _, _, rfl, rfl, rfl⟩ (a4_h _ _ _ hx_804) (by rintro v H' ⟨rfl, rfl⟩; exact ⟨[a4_g], rfl, rfl, rfl⟩)) (.inl rfl) (by kernel_rfl) rfl ?_
  rintro _ _ ⟨rfl, rfl⟩
  refine VA.t (i := 10) (v := .bool (decide (rv_803 < 0))) rfl (t_cmp rfl rfl rfl (fun _ _ => rfl) rfl) (.inl rfl) (by kernel_rfl) (VA.done (by kernel_rfl) (thenQ_normal (VW.subK (.c 1 rfl (.c 2 rfl (.c 3 rfl (.c 22 rfl .n)))) rfl ?_)))
  refine VW.cond (b := (decide (rv_803 < 0))) rfl (fun hc_805 => ?_) (fun hc_805 => ?_)
  · replace h := iteT h hc_805
    refine VW.seq (VW.region (VO.t (t_move rfl rfl) rfl rfl (VO.t (v := .ptr o3 0) (t_nilCheck_ptr rfl rfl) rfl rfl (VO.r (v := .int .i64 a3) (r_load_q (i := 2) rfl sz3 rfl rfl rfl) rfl rfl (VO.t (v := .int .i64 (w64 (a3 + 1))) (t_add rfl rfl (fun _ _ => rfl) rfl) rfl rfl (VO.t (v := .ptr o3 0) (t_nilCheck_ptr rfl rfl) rfl rfl (VO.w (fun v H' => .any = v ∧ H' = hq ([a4_g, [(ob_801, .cells ((a0.map Pr.c).flatten ++ sl_801))], [(o3, .cells [.int .i64 (w64 (a3 + 1))])]]) []) (w_store_q (i := 2) rfl sz3 rfl rfl rfl rfl rfl (Nat.le_of_ble_eq_true rfl) ⟨rfl, rfl⟩) rfl rfl ?_)))))))
    rintro _ _ ⟨rfl, rfl⟩
    refine VO.nil (thenQ_normal (VW.subK (.c 1 rfl (.c 2 rfl .n)) rfl (VW.seq (VW.region (VO.t (t_move rfl rfl) rfl rfl (VO.t (t_move rfl rfl) rfl rfl (VO.t (v := .int .i64 a2) (t_assign rfl rfl) rfl rfl (VO.t (v := .int .i64 a1) (t_assign rfl rfl) rfl rfl (VO.nil ?_)))))))))
    refine thenQ_normal (VW.subK (.c 10 rfl (.c 11 rfl .n)) rfl (VW.frontS 0 rfl (VW.frontS 2 rfl (VW.frontS 2 rfl (VW.ret (thenQ_ret ?_))))))
    have h := Option.some.inj h
    subst h
    exact ⟨.inr rfl, rfl, _, .tup [.int .i64 a2, .int .i64 a1], hq [[(ob_801, .cells ((a0.map Pr.c).flatten ++ sl_801))], [(o3, .cells [.int .i64 (w64 (a3 + 1))])], a4_g] [], ⟨_, _, rfl, rfl, rfl⟩, VLe.tup ⟨VLe.refl _, VLe.refl _, trivial⟩, hq_sub (.cons_cons _ (.cons_cons _ (.cons_cons _ .slnil))) .slnil, [(ob_801, .cells ((a0.map Pr.c).flatten ++ sl_801))], (Buf.own (n := 2) (l := a0.map Pr.c) ob_801 cap_801 len_801 sl_801 (elemsOK_map Pr.c_ok _) (by simp [hl_801]) hc_801 hs_801), rfl, rfl⟩
  · replace h := iteF h hc_805
    refine VW.skip (thenQ_normal (VW.subK (.c 1 rfl (.c 2 rfl .n)) rfl (VW.seq (VW.region (VO.t (t_move rfl rfl) rfl rfl (VO.t (t_move rfl rfl) rfl rfl (VO.t (v := .int .i64 a1) (t_assign rfl rfl) rfl rfl (VO.t (v := .int .i64 a2) (t_assign rfl rfl) rfl rfl (VO.nil ?_)))))))))
    refine thenQ_normal (VW.subK (.c 10 rfl (.c 11 rfl .n)) rfl (VW.frontS 0 rfl (VW.frontS 2 rfl (VW.frontS 2 rfl (VW.ret ?_)))))
    have h := Option.some.inj h
    subst h
    exact ⟨.inr rfl, rfl, _, .tup [.int .i64 a1, .int .i64 a2], hq [[(ob_801, .cells ((a0.map Pr.c).flatten ++ sl_801))], [(o3, .cells [.int .i64 a3])], a4_g] [], ⟨_, _, rfl, rfl, rfl⟩, VLe.tup ⟨VLe.refl _, VLe.refl _, trivial⟩, hq_sub (.cons_cons _ (.cons_cons _ (.cons_cons _ .slnil))) .slnil, [(ob_801, .cells ((a0.map Pr.c).flatten ++ sl_801))], (Buf.own (n := 2) (l := a0.map Pr.c) ob_801 cap_801 len_801 sl_801 (elemsOK_map Pr.c_ok _) (by simp [hl_801]) hc_801 hs_801), rfl, rfl⟩

theorem slices_medianCmpFunc_2int_ok (a0 : List Pr) (a1 : Int) (a2 : Int) (a3 : Int) (a4 : Int) (a5 : Pr → Pr → Option Int) (r : Int × List Pr × Int) (h : PL.slices_medianCmpFunc_2int a0 a1 a2 a3 a4 a5 = some r) (v0 : VV) (b0 : Seg) (o4 : Nat) (a5_f : Nat) (a5_a : List VV) (a5_c : List VV) (a5_g : Seg) (hB0 : Buf 2 (a0.map Pr.c) v0 b0) (a5_k : FnOK Try.prog a5_f) (a5_h : ∀ (y0 : Pr) (y1 : Pr) (z : Int), a5 y0 y1 = some z → VCalls Try.prog a5_f (a5_a ++ [.agg [.int .i64 y0.x0, .int .i64 y0.x1], .agg [.int .i64 y1.x0, .int .i64 y1.x1]] ++ a5_c) (hq [a5_g] []) (fun v H => .int .i64 z = v ∧ H = hq [a5_g] [])) :
    VCalls Try.prog 76 [v0, .int .i64 a1, .int .i64 a2, .int .i64 a3, .ptr o4 0, .func (.func a5_f) a5_a a5_c] (hq [b0, [(o4, .cells [.int .i64 a4])], a5_g] []) (fun v H => ∃ bk0, Buf 2 (r.2.1.map Pr.c) v0 bk0 ∧ .int .i64 r.1 = v ∧ H = hq [bk0, [(o4, .cells [.int .i64 r.2.2])], a5_g] []) := by
  unfold PL.slices_medianCmpFunc_2int at h
  refine VCalls.of_body 41 [12] Try.func76 rfl rfl rfl (Nat.le_of_ble_eq_true rfl) (VW.subK (.c 0 rfl (.c 1 rfl (.c 2 rfl (.c 3 rfl (.c 4 rfl (.c 5 rfl .n)))))) rfl (VW.seq (VW.region (VO.t (v := .int .i64 0) (t_assign rfl (fun _ _ => rfl)) rfl rfl (VO.nil (thenQ_normal (VW.subK (.c 0 rfl (.c 1 rfl (.c 2 rfl (.c 3 rfl (.c 4 rfl (.c 5 rfl .n)))))) rfl (VW.seq (VW.region ?_)))))))))
  refine VO.t (t_move rfl rfl) rfl rfl (VO.t (t_move rfl rfl) rfl rfl (VO.t (t_move rfl rfl) rfl rfl (VO.t (t_move rfl rfl) rfl rfl (VO.t (t_move rfl rfl) rfl rfl ?_))))
  obtain ⟨⟨rv_806, rv_807, k_808, k_809⟩, hx_810, h⟩ := obind h
  try dsimp only at h
  refine VO.w (fun v H' => ∃ bk0_811, Buf 2 (k_808.map Pr.c) v0 bk0_811 ∧ .tup [.int .i64 rv_806, .int .i64 rv_807] = v ∧ H' = hq ([bk0_811, [(o4, .cells [.int .i64 k_809])], a5_g]) []) (w_call_q (sa := [b0, [(o4, .cells [.int .i64 a4])], a5_g]) (sg := []) (tks := []) rfl fn77 rfl ⟨_, _, rfl, rfl, _, _, rfl, rfl, _, _, rfl, rfl, _, _, rfl, rfl, _, _, rfl, rfl, rfl⟩ (slices_order2CmpFunc_2int_ok _ _ _ _ _ _ hx_810 v0 b0 o4 a5_f a5_a a5_c a5_g hB0 a5_k a5_h) (by rintro v H' ⟨bk0_811, h_0, rfl, rfl⟩; exact ⟨[bk0_811, [(o4, .cells [.int .i64 k_809])], a5_g], rfl, bk0_811, h_0, rfl, rfl⟩)) rfl rfl ?_
  rintro _ _ ⟨bk0_811, hB_812, rfl, rfl⟩
  refine VO.t (t_move rfl rfl) rfl rfl (VO.t (v := .int .i64 rv_806) (t_extract rfl rfl rfl) rfl rfl (VO.t (v := .int .i64 rv_807) (t_extract rfl rfl rfl) rfl rfl (VO.t (v := .int .i64 rv_806) (t_assign rfl rfl) rfl rfl (VO.t (v := .int .i64 rv_807) (t_assign rfl rfl) rfl rfl (VO.nil (thenQ_normal (VW.subK (.c 0 rfl (.c 3 rfl (.c 4 rfl (.c 5 rfl (.c 1 rfl (.c 2 rfl .n)))))) rfl (VW.seq (VW.region ?_)))))))))
  refine VO.t (t_move rfl rfl) rfl rfl (VO.t (t_move rfl rfl) rfl rfl (VO.t (t_move rfl rfl) rfl rfl (VO.t (t_move rfl rfl) rfl rfl (VO.t (t_move rfl rfl) rfl rfl ?_))))
  obtain ⟨⟨rv_813, rv_814, k_815, k_816⟩, hx_817, h⟩ := obind h
  try dsimp only at h
  refine VO.w (fun v H' => ∃ bk0_818, Buf 2 (k_815.map Pr.c) v0 bk0_818 ∧ .tup [.int .i64 rv_813, .int .i64 rv_814] = v ∧ H' = hq ([bk0_818, [(o4, .cells [.int .i64 k_816])], a5_g]) []) (w_call_q (sa := [bk0_811, [(o4, .cells [.int .i64 k_809])], a5_g]) (sg := []) (tks := []) rfl fn77 rfl ⟨_, _, rfl, rfl, _, _, rfl, rfl, _, _, rfl, rfl, _, _, rfl, rfl, _, _, rfl, rfl, rfl⟩ (slices_order2CmpFunc_2int_ok _ _ _ _ _ _ hx_817 v0 bk0_811 o4 a5_f a5_a a5_c a5_g hB_812 a5_k a5_h) (by rintro v H' ⟨bk0_818, h_0, rfl, rfl⟩; exact ⟨[bk0_818, [(o4, .cells [.int .i64 k_816])], a5_g], rfl, bk0_818, h_0, rfl, rfl⟩)) rfl rfl ?_
  rintro _ _ ⟨bk0_818, hB_819, rfl, rfl⟩
  refine VO.t (t_move rfl rfl) rfl rfl (VO.t (v := .int .i64 rv_813) (t_extract rfl rfl rfl) rfl rfl (VO.t (v := .int .i64 rv_814) (t_extract rfl rfl rfl) rfl rfl (VO.t (v := .int .i64 rv_813) (t_assign rfl rfl) rfl rfl (VO.t (v := .int .i64 rv_814) (t_assign rfl rfl) rfl rfl (VO.nil (thenQ_normal (VW.subK (.c 0 rfl (.c 4 rfl (.c 5 rfl (.c 1 rfl (.c 2 rfl .n))))) rfl (VW.seq (VW.region ?_)))))))))
  refine VO.t (t_move rfl rfl) rfl rfl (VO.t (t_move rfl rfl) rfl rfl (VO.t (t_move rfl rfl) rfl rfl (VO.t (t_move rfl rfl) rfl rfl (VO.t (t_move rfl rfl) rfl rfl ?_))))
  obtain ⟨⟨rv_820, rv_821, k_822, k_823⟩, hx_824, h⟩ := obind h
  try dsimp only at h
  refine VO.w (fun v H' => ∃ bk0_825, Buf 2 (k_822.map Pr.c) v0 bk0_825 ∧ .tup [.int .i64 rv_820, .int .i64 rv_821] = v ∧ H' = hq ([bk0_825, [(o4, .cells [.int .i64 k_823])], a5_g]) []) (w_call_q (sa := [bk0_818, [(o4, .cells [.int .i64 k_816])], a5_g]) (sg := []) (tks := []) rfl fn77 rfl ⟨_, _, rfl, rfl, _, _, rfl, rfl, _, _, rfl, rfl, _, _, rfl, rfl, _, _, rfl, rfl, rfl⟩ (slices_order2CmpFunc_2int_ok _ _ _ _ _ _ hx_824 v0 bk0_818 o4 a5_f a5_a a5_c a5_g hB_819 a5_k a5_h) (by rintro v H' ⟨bk0_825, h_0, rfl, rfl⟩; exact ⟨[bk0_825, [(o4, .cells [.int .i64 k_823])], a5_g], rfl, bk0_825, h_0, rfl, rfl⟩)) rfl rfl ?_
  rintro _ _ ⟨bk0_825, hB_826, rfl, rfl⟩
  refine VO.t (t_move rfl rfl) rfl rfl (VO.t (v := .int .i64 rv_820) (t_extract rfl rfl rfl) rfl rfl (VO.t (v := .int .i64 rv_821) (t_extract rfl rfl rfl) rfl rfl (VO.t (v := .int .i64 rv_820) (t_assign rfl rfl) rfl rfl (VO.t (v := .int .i64 rv_821) (t_assign rfl rfl) rfl rfl (VO.nil (thenQ_normal (VW.subK (.c 2 rfl .n) rfl (VW.seq (VW.region ?_)))))))))
  refine VO.t (t_move rfl rfl) rfl rfl (VO.t (v := .int .i64 rv_821) (t_assign rfl rfl) rfl rfl (VO.nil (thenQ_normal (VW.subK (.c 12 rfl .n) rfl (VW.ret ?_)))))
  have h := Option.some.inj h
  subst h
  exact ⟨.inr rfl, rfl, _, .int .i64 rv_821, hq [bk0_825, [(o4, .cells [.int .i64 k_823])], a5_g] [], rfl, VLe.refl _, hq_sub (.cons_cons _ (.cons_cons _ (.cons_cons _ .slnil))) .slnil, bk0_825, hB_826, rfl, rfl⟩

theorem slices_medianAdjacentCmpFunc_2int_ok (a0 : List Pr) (a1 : Int) (a2 : Int) (a3 : Pr → Pr → Option Int) (r : Int × List Pr × Int) (h : PL.slices_medianAdjacentCmpFunc_2int a0 a1 a2 a3 = some r) (v0 : VV) (b0 : Seg) (o2 : Nat) (a3_f : Nat) (a3_a : List VV) (a3_c : List VV) (a3_g : Seg) (hB0 : Buf 2 (a0.map Pr.c) v0 b0) (a3_k : FnOK Try.prog a3_f) (a3_h : ∀ (y0 : Pr) (y1 : Pr) (z : Int), a3 y0 y1 = some z → VCalls Try.prog a3_f (a3_a ++ [.agg [.int .i64 y0.x0, .int .i64 y0.x1], .agg [.int .i64 y1.x0, .int .i64 y1.x1]] ++ a3_c) (hq [a3_g] []) (fun v H => .int .i64 z = v ∧ H = hq [a3_g] [])) :
    VCalls Try.prog 75 [v0, .int .i64 a1, .ptr o2 0, .func (.func a3_f) a3_a a3_c] (hq [b0, [(o2, .cells [.int .i64 a2])], a3_g] []) (fun v H => ∃ bk0, Buf 2 (r.2.1.map Pr.c) v0 bk0 ∧ .int .i64 r.1 = v ∧ H = hq [bk0, [(o2, .cells [.int .i64 r.2.2])], a3_g] []) := by
  unfold PL.slices_medianAdjacentCmpFunc_2int at h
  refine VCalls.of_body 18 [8] Try.func75 rfl rfl rfl (Nat.le_of_ble_eq_true rfl) (VW.subK (.c 0 rfl (.c 1 rfl (.c 2 rfl (.c 3 rfl .n)))) rfl (VW.seq (VW.region (VO.t (v := .int .i64 0) (t_assign rfl (fun _ _ => rfl)) rfl rfl (VO.nil (thenQ_normal (VW.subK (.c 0 rfl (.c 1 rfl (.c 2 rfl (.c 3 rfl .n)))) rfl (VW.seq (VW.region ?_)))))))))
  refine VO.t (t_move rfl rfl) rfl rfl (VO.t (t_move rfl rfl) rfl rfl (VO.t (v := .int .i64 (w64 (a1 - 1))) (t_sub rfl rfl (fun _ _ => rfl) rfl) rfl rfl (VO.t (t_move rfl rfl) rfl rfl (VO.t (t_move rfl rfl) rfl rfl (VO.t (v := .int .i64 (w64 (a1 + 1))) (t_add rfl rfl (fun _ _ => rfl) rfl) rfl rfl (VO.t (t_move rfl rfl) rfl rfl (VO.t (t_move rfl rfl) rfl rfl ?_)))))))
  obtain ⟨⟨rv_827, k_828, k_829⟩, hx_830, h⟩ := obind h
  try dsimp only at h
  refine VO.w (fun v H' => ∃ bk0_831, Buf 2 (k_828.map Pr.c) v0 bk0_831 ∧ .int .i64 rv_827 = v ∧ H' = hq ([bk0_831, [(o2, .cells [.int .i64 k_829])], a3_g]) []) (w_call_q (sa := [b0, [(o2, .cells [.int .i64 a2])], a3_g]) (sg := []) (tks := []) rfl fn76 rfl ⟨_, _, rfl, rfl, _, _, rfl, rfl, _, _, rfl, rfl, _, _, rfl, rfl, _, _, rfl, rfl, _, _, rfl, rfl, rfl⟩ (slices_medianCmpFunc_2int_ok _ _ _ _ _ _ _ hx_830 v0 b0 o2 a3_f a3_a a3_c a3_g hB0 a3_k a3_h) (by rintro v H' ⟨bk0_831, h_0, rfl, rfl⟩; exact ⟨[bk0_831, [(o2, .cells [.int .i64 k_829])], a3_g], rfl, bk0_831, h_0, rfl, rfl⟩)) rfl rfl ?_
  rintro _ _ ⟨bk0_831, hB_832, rfl, rfl⟩
  refine VO.t (v := .int .i64 rv_827) (t_assign rfl rfl) rfl rfl (VO.nil (thenQ_normal (VW.subK (.c 8 rfl .n) rfl (VW.ret ?_))))
  have h := Option.some.inj h
  subst h
  exact ⟨.inr rfl, rfl, _, .int .i64 rv_827, hq [bk0_831, [(o2, .cells [.int .i64 k_829])], a3_g] [], rfl, VLe.refl _, hq_sub (.cons_cons _ (.cons_cons _ (.cons_cons _ .slnil))) .slnil, bk0_831, hB_832, rfl, rfl⟩

theorem slices_choosePivotCmpFunc_2int_ok (a0 : List Pr) (a1 : Int) (a2 : Int) (a3 : Pr → Pr → Option Int) (r : Int × Int × List Pr) (h : PL.slices_choosePivotCmpFunc_2int a0 a1 a2 a3 = some r) (v0 : VV) (b0 : Seg) (a3_f : Nat) (a3_a : List VV) (a3_c : List VV) (a3_g : Seg) (hB0 : Buf 2 (a0.map Pr.c) v0 b0) (a3_k : FnOK Try.prog a3_f) (a3_h : ∀ (y0 : Pr) (y1 : Pr) (z : Int), a3 y0 y1 = some z → VCalls Try.prog a3_f (a3_a ++ [.agg [.int .i64 y0.x0, .int .i64 y0.x1], .agg [.int .i64 y1.x0, .int .i64 y1.x1]] ++ a3_c) (hq [a3_g] []) (fun v H => .int .i64 z = v ∧ H = hq [a3_g] [])) :
    VCalls Try.prog 64 [v0, .int .i64 a1, .int .i64 a2, .func (.func a3_f) a3_a a3_c] (hq [b0, a3_g] []) (fun v H => ∃ bk0, Buf 2 (r.2.2.map Pr.c) v0 bk0 ∧ .tup [.int .i64 r.1, .int .i64 r.2.1] = v ∧ H = hq [bk0, a3_g] []) := by
  unfold PL.slices_choosePivotCmpFunc_2int at h
  refine VCalls.of_body 63 [8, 9] Try.func64 rfl rfl rfl (Nat.le_of_ble_eq_true rfl) (VW.subK (.c 0 rfl (.c 1 rfl (.c 2 rfl (.c 3 rfl .n)))) rfl (VW.seq (VW.region (VO.t (v := .int .i64 0) (t_assign rfl (fun _ _ => rfl)) rfl rfl (VO.t (v := .int .i64 0) (t_assign rfl (fun _ _ => rfl)) rfl rfl (VO.nil (thenQ_normal (VW.subK (.c 0 rfl (.c 1 rfl (.c 2 rfl (.c 3 rfl .n)))) rfl (VW.seq ?_)))))))))
  refine VW.region (VO.t (t_move rfl rfl) rfl rfl (VO.t (t_move rfl rfl) rfl rfl (VO.t (v := .int .i64 (w64 (a2 - a1))) (t_sub rfl rfl rfl rfl) rfl rfl (VO.t (v := .int .i64 (w64 (a2 - a1))) (t_assign rfl rfl) rfl rfl (VO.nil (thenQ_normal (VW.subK (.c 0 rfl (.c 1 rfl (.c 3 rfl (.c 10 rfl .n)))) rfl (VW.seq (VW.region ?_)))))))))
  refine VO.w (fun v H' => ∃ ob_833, .ptr ob_833 0 = v ∧ H' = hq ([[(ob_833, .cells [.int .i64 0])], b0, a3_g]) []) (w_alloc_q rfl zt3 (fun ob => ⟨ob, rfl, rfl⟩)) rfl rfl ?_
  rintro _ _ ⟨ob_833, rfl, rfl⟩
  refine VO.nil (thenQ_normal (VW.seq (VW.region (VO.t (t_move rfl rfl) rfl rfl (VO.t (t_move rfl rfl) rfl rfl (VO.t (v := .int .i64 (w64 (Int.tdiv (w64 (a2 - a1)) 4))) (t_quo rfl rfl (fun _ _ => rfl) (by decide) rfl) rfl rfl (VO.t (v := .int .i64 (w64 ((w64 (Int.tdiv (w64 (a2 - a1)) 4)) * 1))) (t_mul rfl rfl (fun _ _ => rfl) rfl) rfl rfl (VO.t (v := .int .i64 (w64 (a1 + (w64 ((w64 (Int.tdiv (w64 (a2 - a1)) 4)) * 1))))) (t_add rfl rfl rfl rfl) rfl rfl (VO.t (v := .int .i64 (w64 (a1 + (w64 ((w64 (Int.tdiv (w64 (a2 - a1)) 4)) * 1))))) (t_assign rfl rfl) rfl rfl ?_)))))))))
  refine VO.nil (thenQ_normal (VW.subK (.c 0 rfl (.c 1 rfl (.c 3 rfl (.c 10 rfl (.c 11 rfl (.c 12 rfl .n)))))) rfl (VW.seq (VW.region (VO.t (t_move rfl rfl) rfl rfl (VO.t (t_move rfl rfl) rfl rfl (VO.t (v := .int .i64 (w64 (Int.tdiv (w64 (a2 - a1)) 4))) (t_quo rfl rfl (fun _ _ => rfl) (by decide) rfl) rfl rfl (VO.t (v := .int .i64 (w64 ((w64 (Int.tdiv (w64 (a2 - a1)) 4)) * 2))) (t_mul rfl rfl (fun _ _ => rfl) rfl) rfl rfl (VO.t (v := .int .i64 (w64 (a1 + (w64 ((w64 (Int.tdiv (w64 (a2 - a1)) 4)) * 2))))) (t_add rfl rfl rfl rfl) rfl rfl ?_)))))))))
  refine VO.t (v := .int .i64 (w64 (a1 + (w64 ((w64 (Int.tdiv (w64 (a2 - a1)) 4)) * 2))))) (t_assign rfl rfl) rfl rfl (VO.nil (thenQ_normal (VW.subK (.c 0 rfl (.c 1 rfl (.c 3 rfl (.c 10 rfl (.c 11 rfl (.c 12 rfl (.c 13 rfl .n))))))) rfl (VW.seq (VW.region (VO.t (t_move rfl rfl) rfl rfl (VO.t (t_move rfl rfl) rfl rfl (VO.t (v := .int .i64 (w64 (Int.tdiv (w64 (a2 - a1)) 4))) (t_quo rfl rfl (fun _ _ => rfl) (by decide) rfl) rfl rfl (VO.t (v := .int .i64 (w64 ((w64 (Int.tdiv (w64 (a2 - a1)) 4)) * 3))) (t_mul rfl rfl (fun _ _ => rfl) rfl) rfl rfl ?_)))))))))
  refine VO.t (v := .int .i64 (w64 (a1 + (w64 ((w64 (Int.tdiv (w64 (a2 - a1)) 4)) * 3))))) (t_add rfl rfl rfl rfl) rfl rfl (VO.t (v := .int .i64 (w64 (a1 + (w64 ((w64 (Int.tdiv (w64 (a2 - a1)) 4)) * 3))))) (t_assign rfl rfl) rfl rfl (VO.nil (thenQ_normal (VW.subK (.c 0 rfl (.c 3 rfl (.c 10 rfl (.c 11 rfl (.c 12 rfl (.c 13 rfl (.c 14 rfl .n))))))) rfl (VW.seq (VW.seq (VW.region (VO.t (t_move rfl rfl) rfl rfl (VO.t (v := .bool (decide ((w64 (a2 - a1)) ≥ 8))) (t_cmp rfl rfl rfl (fun _ _ => rfl) rfl) rfl rfl ?_)))))))))
  refine VO.nil (thenQ_normal (VW.subK (.c 0 rfl (.c 3 rfl (.c 10 rfl (.c 11 rfl (.c 12 rfl (.c 13 rfl (.c 14 rfl (.c 34 rfl .n)))))))) rfl ?_))
  obtain ⟨o_897, h, hx_895⟩ := obind h
  refine VW.joinQ (E := List Pr × Int × Int × Seg) (I := fun ⟨bu_891, c_893, j_894, bp0_892⟩ => (bu_891, c_893, j_894) = o_897 ∧ Buf 2 (bu_891.map Pr.c) v0 bp0_892 ∧ True) (env' := fun ⟨bu_891, c_893, j_894, bp0_892⟩ => ⟨[(11, .ptr ob_833 0), (13, .int .i64 j_894)], []⟩) (H' := fun ⟨bu_891, c_893, j_894, bp0_892⟩ => hq ([bp0_892, a3_g, [(ob_833, .cells [.int .i64 c_893])]]) []) ?_ (fun J_896 => ?_)
  · rintro ⟨bu_891, c_893, j_894, bp0_892⟩ ⟨ho_, hbp0_892, _⟩
    subst ho_
    replace h := hx_895
    clear hx_895
    try dsimp only at h
    show VW _ _ _ _ ⟨[(11, .ptr ob_833 0), (13, .int .i64 j_894)], []⟩ (hq ([bp0_892, a3_g, [(ob_833, .cells [.int .i64 c_893])]]) [])
    refine VW.seq (VW.region (VO.r (v := .int .i64 c_893) (r_load_q (i := 2) rfl sz3 rfl rfl rfl) rfl rfl (VO.nil (thenQ_normal (VW.subK (.c 13 rfl (.c 55 rfl .n)) rfl (VW.hsub (A := hq ([bp0_892, a3_g]) []) (hq_sub (.cons_cons _ (.cons_cons _ (.cons _ .slnil))) .slnil) (VW.block (VW.seq (VW.region ?_)))))))))
    refine VO.t (v := .bool (c_893 == 0)) (t_cmp rfl rfl rfl (fun _ _ => rfl) rfl) rfl rfl (VO.t (v := .bool (c_893 == 0)) (t_assign rfl rfl) rfl rfl (VO.nil (thenQ_normal (VW.subK (.c 13 rfl (.c 55 rfl (.c 57 rfl .n))) rfl ?_))))
    refine VW.cond (b := (c_893 == 0)) rfl (fun hc_898 => ?_) (fun hc_898 => ?_)
    · replace h := iteT h hc_898
      refine VW.seq (VW.region (VO.t (t_move rfl rfl) rfl rfl (VO.t (v := .int .i64 j_894) (t_assign rfl rfl) rfl rfl (VO.t (v := .int .i64 1) (t_assign rfl (fun _ _ => rfl)) rfl rfl (VO.nil (thenQ_normal (VW.subK (.c 8 rfl (.c 9 rfl .n)) rfl (VW.ret (blockQ_ret ?_)))))))))
      have h := Option.some.inj h
      subst h
      exact ⟨.inr rfl, rfl, _, .tup [.int .i64 j_894, .int .i64 1], hq [bp0_892, a3_g] [], ⟨_, _, rfl, rfl, rfl⟩, VLe.tup ⟨VLe.refl _, VLe.refl _, trivial⟩, hq_sub (.cons_cons _ (.cons_cons _ .slnil)) .slnil, bp0_892, hbp0_892, rfl, rfl⟩
    · replace h := iteF h hc_898
      refine VW.seq (VW.region (VO.t (v := .bool (c_893 == 12)) (t_cmp rfl rfl rfl (fun _ _ => rfl) rfl) rfl rfl (VO.t (v := .bool (c_893 == 12)) (t_assign rfl rfl) rfl rfl (VO.nil (thenQ_normal (VW.subK (.c 13 rfl (.c 60 rfl .n)) rfl ?_))))))
      refine VW.cond (b := (c_893 == 12)) rfl (fun hc_899 => ?_) (fun hc_899 => ?_)
      · replace h := iteT h hc_899
        refine VW.seq (VW.region (VO.t (t_move rfl rfl) rfl rfl (VO.t (v := .int .i64 j_894) (t_assign rfl rfl) rfl rfl (VO.t (v := .int .i64 2) (t_assign rfl (fun _ _ => rfl)) rfl rfl (VO.nil (thenQ_normal (VW.subK (.c 8 rfl (.c 9 rfl .n)) rfl (VW.ret (blockQ_ret ?_)))))))))
        have h := Option.some.inj h
        subst h
        exact ⟨.inr rfl, rfl, _, .tup [.int .i64 j_894, .int .i64 2], hq [bp0_892, a3_g] [], ⟨_, _, rfl, rfl, rfl⟩, VLe.tup ⟨VLe.refl _, VLe.refl _, trivial⟩, hq_sub (.cons_cons _ (.cons_cons _ .slnil)) .slnil, bp0_892, hbp0_892, rfl, rfl⟩
      · replace h := iteF h hc_899
        refine VW.seq (VW.region (VO.t (t_move rfl rfl) rfl rfl (VO.t (v := .int .i64 j_894) (t_assign rfl rfl) rfl rfl (VO.t (v := .int .i64 0) (t_assign rfl (fun _ _ => rfl)) rfl rfl (VO.nil (thenQ_normal (VW.subK (.c 8 rfl (.c 9 rfl .n)) rfl (VW.ret (blockQ_ret ?_)))))))))
        have h := Option.some.inj h
        subst h
        exact ⟨.inr rfl, rfl, _, .tup [.int .i64 j_894, .int .i64 0], hq [bp0_892, a3_g] [], ⟨_, _, rfl, rfl, rfl⟩, VLe.tup ⟨VLe.refl _, VLe.refl _, trivial⟩, hq_sub (.cons_cons _ (.cons_cons _ .slnil)) .slnil, bp0_892, hbp0_892, rfl, rfl⟩
  · refine VW.cond (b := (decide ((w64 (a2 - a1)) ≥ 8))) rfl (fun hc_900 => ?_) (fun hc_900 => ?_)
    · replace h := iteT h hc_900
      refine VW.seq (VW.seq (VW.region (VO.t (t_move rfl rfl) rfl rfl (VO.t (v := .bool (decide ((w64 (a2 - a1)) ≥ 50))) (t_cmp rfl rfl rfl (fun _ _ => rfl) rfl) rfl rfl (VO.nil (thenQ_normal (VW.subK (.c 0 rfl (.c 3 rfl (.c 11 rfl (.c 12 rfl (.c 13 rfl (.c 14 rfl (.c 36 rfl .n))))))) rfl ?_)))))))
      obtain ⟨o_928, h, hx_926⟩ := obind h
      refine VW.joinQ (E := List Pr × Int × Int × Int × Int × Seg) (I := fun ⟨bu_920, c_922, i_923, j_924, k_925, bp0_921⟩ => (bu_920, c_922, i_923, j_924, k_925) = o_928 ∧ Buf 2 (bu_920.map Pr.c) v0 bp0_921 ∧ True) (env' := fun ⟨bu_920, c_922, i_923, j_924, k_925, bp0_921⟩ => ⟨[(0, v0), (3, .func (.func a3_f) a3_a a3_c), (11, .ptr ob_833 0), (12, .int .i64 i_923), (13, .int .i64 j_924), (14, .int .i64 k_925)], []⟩) (H' := fun ⟨bu_920, c_922, i_923, j_924, k_925, bp0_921⟩ => hq ([bp0_921, a3_g, [(ob_833, .cells [.int .i64 c_922])]]) []) ?_ (fun J_927 => ?_)
      · rintro ⟨bu_920, c_922, i_923, j_924, k_925, bp0_921⟩ ⟨ho_, hbp0_921, _⟩
        subst ho_
        replace h := hx_926
        clear hx_926
        try dsimp only at h
        show VW _ _ _ _ ⟨[(0, v0), (3, .func (.func a3_f) a3_a a3_c), (11, .ptr ob_833 0), (12, .int .i64 i_923), (13, .int .i64 j_924), (14, .int .i64 k_925)], []⟩ (hq ([bp0_921, a3_g, [(ob_833, .cells [.int .i64 c_922])]]) [])
        refine VW.region (VO.t (t_move rfl rfl) rfl rfl (VO.t (t_move rfl rfl) rfl rfl (VO.t (t_move rfl rfl) rfl rfl (VO.t (t_move rfl rfl) rfl rfl (VO.t (t_move rfl rfl) rfl rfl (VO.frontS 1 rfl (VO.frontS 2 rfl (VO.frontS 2 rfl ?_))))))))
        obtain ⟨⟨rv_929, k_930, k_931⟩, hx_932, h⟩ := obind h
        try dsimp only at h
        refine VO.w (fun v H' => ∃ bk0_933, Buf 2 (k_930.map Pr.c) v0 bk0_933 ∧ .int .i64 rv_929 = v ∧ H' = hq ([bk0_933, [(ob_833, .cells [.int .i64 k_931])], a3_g]) []) (w_call_q (sa := [bp0_921, [(ob_833, .cells [.int .i64 c_922])], a3_g]) (sg := []) (tks := []) rfl fn76 rfl ⟨_, _, rfl, rfl, _, _, rfl, rfl, _, _, rfl, rfl, _, _, rfl, rfl, _, _, rfl, rfl, _, _, rfl, rfl, rfl⟩ (slices_medianCmpFunc_2int_ok _ _ _ _ _ _ _ hx_932 v0 bp0_921 ob_833 a3_f a3_a a3_c a3_g hbp0_921 a3_k a3_h) (by rintro v H' ⟨bk0_933, h_0, rfl, rfl⟩; exact ⟨[bk0_933, [(ob_833, .cells [.int .i64 k_931])], a3_g], rfl, bk0_933, h_0, rfl, rfl⟩)) rfl rfl ?_
        rintro _ _ ⟨bk0_933, hB_934, rfl, rfl⟩
        refine VO.t (v := .int .i64 rv_929) (t_assign rfl rfl) rfl rfl (VO.subK (.c 11 rfl (.c 13 rfl .n)) rfl (VO.frontS 1 rfl (VO.frontS 2 rfl (VO.frontS 2 rfl (VO.nil ?_)))))
        exact thenQ_normal (J_896 ⟨k_930, k_931, rv_929, bk0_933⟩ ⟨Option.some.inj h, hB_934, trivial⟩)
      · refine VW.cond (b := (decide ((w64 (a2 - a1)) ≥ 50))) rfl (fun hc_935 => ?_) (fun hc_935 => ?_)
        · replace h := iteT h hc_935
          refine VW.seq (VW.region (VO.t (t_move rfl rfl) rfl rfl (VO.t (t_move rfl rfl) rfl rfl (VO.t (t_move rfl rfl) rfl rfl (VO.frontS 2 rfl (VO.frontS 1 rfl (VO.frontS 2 rfl ?_)))))))
          obtain ⟨⟨rv_936, k_937, k_938⟩, hx_939, h⟩ := obind h
          try dsimp only at h
          refine VO.w (fun v H' => ∃ bk0_940, Buf 2 (k_937.map Pr.c) v0 bk0_940 ∧ .int .i64 rv_936 = v ∧ H' = hq ([bk0_940, [(ob_833, .cells [.int .i64 k_938])], a3_g]) []) (w_call_q (sa := [b0, [(ob_833, .cells [.int .i64 0])], a3_g]) (sg := []) (tks := []) rfl fn75 rfl ⟨_, _, rfl, rfl, _, _, rfl, rfl, _, _, rfl, rfl, _, _, rfl, rfl, rfl⟩ (slices_medianAdjacentCmpFunc_2int_ok _ _ _ _ _ hx_939 v0 b0 ob_833 a3_f a3_a a3_c a3_g hB0 a3_k a3_h) (by rintro v H' ⟨bk0_940, h_0, rfl, rfl⟩; exact ⟨[bk0_940, [(ob_833, .cells [.int .i64 k_938])], a3_g], rfl, bk0_940, h_0, rfl, rfl⟩)) rfl rfl ?_
          rintro _ _ ⟨bk0_940, hB_941, rfl, rfl⟩
          refine VO.t (v := .int .i64 rv_936) (t_assign rfl rfl) rfl rfl (VO.nil (thenQ_normal (VW.subK (.c 0 rfl (.c 3 rfl (.c 11 rfl (.c 13 rfl (.c 14 rfl (.c 12 rfl .n)))))) rfl (VW.seq (VW.region (VO.t (t_move rfl rfl) rfl rfl (VO.t (t_move rfl rfl) rfl rfl (VO.t (t_move rfl rfl) rfl rfl ?_))))))))
          obtain ⟨⟨rv_942, k_943, k_944⟩, hx_945, h⟩ := obind h
          try dsimp only at h
          refine VO.w (fun v H' => ∃ bk0_946, Buf 2 (k_943.map Pr.c) v0 bk0_946 ∧ .int .i64 rv_942 = v ∧ H' = hq ([bk0_946, [(ob_833, .cells [.int .i64 k_944])], a3_g]) []) (w_call_q (sa := [bk0_940, [(ob_833, .cells [.int .i64 k_938])], a3_g]) (sg := []) (tks := []) rfl fn75 rfl ⟨_, _, rfl, rfl, _, _, rfl, rfl, _, _, rfl, rfl, _, _, rfl, rfl, rfl⟩ (slices_medianAdjacentCmpFunc_2int_ok _ _ _ _ _ hx_945 v0 bk0_940 ob_833 a3_f a3_a a3_c a3_g hB_941 a3_k a3_h) (by rintro v H' ⟨bk0_946, h_0, rfl, rfl⟩; exact ⟨[bk0_946, [(ob_833, .cells [.int .i64 k_944])], a3_g], rfl, bk0_946, h_0, rfl, rfl⟩)) rfl rfl ?_
          rintro _ _ ⟨bk0_946, hB_947, rfl, rfl⟩
          refine VO.t (v := .int .i64 rv_942) (t_assign rfl rfl) rfl rfl (VO.nil (thenQ_normal (VW.subK (.c 0 rfl (.c 3 rfl (.c 11 rfl (.c 14 rfl (.c 12 rfl (.c 13 rfl .n)))))) rfl (VW.region (VO.t (t_move rfl rfl) rfl rfl (VO.t (t_move rfl rfl) rfl rfl (VO.t (t_move rfl rfl) rfl rfl ?_)))))))
          obtain ⟨⟨rv_948, k_949, k_950⟩, hx_951, h⟩ := obind h
          try dsimp only at h
          refine VO.w (fun v H' => ∃ bk0_952, Buf 2 (k_949.map Pr.c) v0 bk0_952 ∧ .int .i64 rv_948 = v ∧ H' = hq ([bk0_952, [(ob_833, .cells [.int .i64 k_950])], a3_g]) []) (w_call_q (sa := [bk0_946, [(ob_833, .cells [.int .i64 k_944])], a3_g]) (sg := []) (tks := []) rfl fn75 rfl ⟨_, _, rfl, rfl, _, _, rfl, rfl, _, _, rfl, rfl, _, _, rfl, rfl, rfl⟩ (slices_medianAdjacentCmpFunc_2int_ok _ _ _ _ _ hx_951 v0 bk0_946 ob_833 a3_f a3_a a3_c a3_g hB_947 a3_k a3_h) (by rintro v H' ⟨bk0_952, h_0, rfl, rfl⟩; exact ⟨[bk0_952, [(ob_833, .cells [.int .i64 k_950])], a3_g], rfl, bk0_952, h_0, rfl, rfl⟩)) rfl rfl ?_
          rintro _ _ ⟨bk0_952, hB_953, rfl, rfl⟩
          refine VO.t (v := .int .i64 rv_948) (t_assign rfl rfl) rfl rfl (VO.subK (.c 0 rfl (.c 3 rfl (.c 11 rfl (.c 12 rfl (.c 13 rfl (.c 14 rfl .n)))))) rfl (VO.frontS 1 rfl (VO.frontS 2 rfl (VO.frontS 2 rfl (VO.nil ?_)))))
          exact thenQ_normal (J_927 ⟨k_949, k_950, rv_936, rv_942, rv_948, bk0_952⟩ ⟨Option.some.inj h, hB_953, trivial⟩)
        · replace h := iteF h hc_935
          refine VW.subK (.c 0 rfl (.c 3 rfl (.c 11 rfl (.c 12 rfl (.c 13 rfl (.c 14 rfl .n)))))) rfl (VW.frontS 0 rfl (VW.frontS 2 rfl (VW.frontS 2 rfl (VW.skip ?_))))
          exact thenQ_normal (J_927 ⟨a0, 0, w64 (a1 + (w64 ((w64 (Int.tdiv (w64 (a2 - a1)) 4)) * 1))), w64 (a1 + (w64 ((w64 (Int.tdiv (w64 (a2 - a1)) 4)) * 2))), w64 (a1 + (w64 ((w64 (Int.tdiv (w64 (a2 - a1)) 4)) * 3))), b0⟩ ⟨Option.some.inj h, hB0, trivial⟩)
    · replace h := iteF h hc_900
      refine VW.subK (.c 11 rfl (.c 13 rfl .n)) rfl (VW.frontS 0 rfl (VW.frontS 2 rfl (VW.frontS 2 rfl (VW.skip ?_))))
      exact thenQ_normal (J_896 ⟨a0, 0, w64 (a1 + (w64 ((w64 (Int.tdiv (w64 (a2 - a1)) 4)) * 2))), b0⟩ ⟨Option.some.inj h, hB0, trivial⟩)

theorem slices_reverseRangeCmpFunc_2int.l0_ok (a3 : Pr → Pr → Option Int) (a3_f : Nat) (a3_a a3_c : List VV) (a3_g : Seg) (a3_k : FnOK Try.prog a3_f) (a3_h : ∀ (y0 : Pr) (y1 : Pr) (z : Int), a3 y0 y1 = some z → VCalls Try.prog a3_f (a3_a ++ [.agg [.int .i64 y0.x0, .int .i64 y0.x1], .agg [.int .i64 y1.x0, .int .i64 y1.x1]] ++ a3_c) (hq [a3_g] []) (fun v H => .int .i64 z = v ∧ H = hq [a3_g] [])) {Q : Exit → Env → HH → Prop} :
    ∀ (bu_964 : List Pr) (i_966 : Int) (j_967 : Int) (o : (List Pr)), PL.slices_reverseRangeCmpFunc_2int.l0 a3 bu_964 i_966 j_967 = some o →
    ∀ (vp0_965 : VV) (bp0_965 : Seg) (hbp0_965 : Buf 2 (bu_964.map Pr.c) vp0_965 bp0_965) (hx0 : ∀ (bu_977 : List Pr) (bp0_978 : Seg), bu_977 = o → Buf 2 (bu_977.map Pr.c) vp0_965 bp0_978 → Q (.exit 0) ⟨[], []⟩ (hq ([bp0_978, a3_g]) [])), VW Try.prog 34 (codeAt [1, 1, 0, 0] (bodyOf Try.f65)) (thenQ (VL Try.prog 34 (codeAt [1, 1, 0, 0] (bodyOf Try.f65)) Q) Q) ⟨[(0, vp0_965), (8, .int .i64 i_966), (9, .int .i64 j_967)], []⟩ (hq ([bp0_965, a3_g]) []) := by
  refine PL.slices_reverseRangeCmpFunc_2int.l0.partial_correctness a3 (motive := fun bu_964 i_966 j_967 o => ∀ (vp0_965 : VV) (bp0_965 : Seg) (hbp0_965 : Buf 2 (bu_964.map Pr.c) vp0_965 bp0_965) (hx0 : ∀ (bu_977 : List Pr) (bp0_978 : Seg), bu_977 = o → Buf 2 (bu_977.map Pr.c) vp0_965 bp0_978 → Q (.exit 0) ⟨[], []⟩ (hq ([bp0_978, a3_g]) [])), VW Try.prog 34 (codeAt [1, 1, 0, 0] (bodyOf Try.f65)) (thenQ (VL Try.prog 34 (codeAt [1, 1, 0, 0] (bodyOf Try.f65)) Q) Q) ⟨[(0, vp0_965), (8, .int .i64 i_966), (9, .int .i64 j_967)], []⟩ (hq ([bp0_965, a3_g]) [])) ?_
  intro _ ih bu_964 i_966 j_967 o h vp0_965 bp0_965 hbp0_965 hx0
  refine VW.seq (VW.seq (VW.region (VO.t (t_move rfl rfl) rfl rfl (VO.t (t_move rfl rfl) rfl rfl (VO.t (v := .bool (decide (i_966 < j_967))) (t_cmp rfl rfl rfl rfl rfl) rfl rfl (VO.nil (thenQ_normal (VW.subK (.c 0 rfl (.c 8 rfl (.c 9 rfl (.c 15 rfl .n)))) rfl ?_))))))))
  refine VW.cond (b := (decide (i_966 < j_967))) rfl (fun hc_979 => ?_) (fun hc_979 => ?_)
  · replace h := iteT h hc_979
    refine VW.skip (thenQ_normal (VW.subK (.c 0 rfl (.c 8 rfl (.c 9 rfl .n))) rfl (VW.block (VW.seq (VW.draw 16 mix rfl (VA.t (i := 0) rfl (t_move rfl rfl) (.inl rfl) (by kernel_rfl) (VA.t (i := 1) rfl (t_move rfl rfl) (.inl rfl) (by kernel_rfl) (VA.t (i := 2) rfl (t_move rfl rfl) (.inl rfl) (by kernel_rfl) (VA.t (i := 3) rfl (t_move rfl rfl) (.inl rfl) (by kernel_rfl) ?_)))))))))
    refine VA.phase (g := 3) [4, 5, 6, 7, 8, 9, 10, 11, 12] 9 (VP.take (i := 4) rfl (TOp.r (t_move rfl rfl)) (.inl rfl) (by kernel_rfl) (VP.take (i := 5) rfl (TOp.r (t_move rfl rfl)) (.inl rfl) (by kernel_rfl) ?_))
    obtain ⟨c_980, hc_980, h⟩ := obind h
    obtain ⟨ob_981, cap_981, len_981, sl_981, rfl, rfl, hE_981, hl_981, hc_981, hs_981⟩ := buf_at hbp0_965 hc_980
    refine VP.take (i := 6) (v := .ptr ob_981 (j_967.toNat * 2 + 0)) rfl (TOp.r (t_index_own rfl sl22 rfl rfl (getI_some hc_980).1 (by rw [hl_981]; exact getI_lt hc_980) rfl)) (.inl rfl) (by kernel_rfl) (VP.take (i := 7) (v := .agg [.int .i64 c_980.x0, .int .i64 c_980.x1]) rfl (r_load_buf (n := 2) (f := 0) (j := 0) rfl sz49 rfl rfl hE_981 (map_get (getI_some hc_980).2 (Pr.c_eq c_980)) (Nat.le_of_ble_eq_true rfl) (fun _ => ofCells_agg rfl)) (.inl rfl) (by kernel_rfl) (VP.take (i := 8) rfl (TOp.r (t_move rfl rfl)) (.inl rfl) (by kernel_rfl) (VP.take (i := 9) rfl (TOp.r (t_move rfl rfl)) (.inl rfl) (by kernel_rfl) ?_)))
    obtain ⟨c_982, hc_982, h⟩ := obind h
    refine VP.take (i := 10) (v := .ptr ob_981 (i_966.toNat * 2 + 0)) rfl (TOp.r (t_index_own rfl sl22 rfl rfl (getI_some hc_982).1 (by rw [hl_981]; exact getI_lt hc_982) rfl)) (.inl rfl) (by kernel_rfl) (VP.take (i := 11) (v := .agg [.int .i64 c_982.x0, .int .i64 c_982.x1]) rfl (r_load_buf (n := 2) (f := 0) (j := 0) rfl sz49 rfl rfl hE_981 (map_get (getI_some hc_982).2 (Pr.c_eq c_982)) (Nat.le_of_ble_eq_true rfl) (fun _ => ofCells_agg rfl)) (.inl rfl) (by kernel_rfl) (VP.take (i := 12) (v := .ptr ob_981 (i_966.toNat * 2 + 0)) rfl (TOp.r (t_index_own rfl sl22 rfl rfl (getI_some hc_982).1 (by rw [hl_981]; exact getI_lt hc_982) rfl)) (.inl rfl) (by kernel_rfl) (VP.done (by kernel_rfl) (VA.w (i := 13) (fun v H' => .any = v ∧ H' = hq ([[(ob_981, .cells (((bu_964.set i_966.toNat c_980).map Pr.c).flatten ++ sl_981))], a3_g]) []) rfl (w_store_buf (n := 2) (f := 0) (j := 0) rfl sz49 rfl rfl rfl hE_981 (map_get (getI_some hc_982).2 (Pr.c_eq c_982)) rfl rfl (Nat.le_of_ble_eq_true rfl) rfl (map_set (Pr.c_eq c_980)) ⟨rfl, rfl⟩) (.inl rfl) (by kernel_rfl) rfl ?_))))
    rintro _ _ ⟨rfl, rfl⟩
    have hl_984 : len_981 = (bu_964.set i_966.toNat c_980).length := by simp [hl_981]
    obtain ⟨c_985, hc_985, h⟩ := obind h
    refine VA.t (i := 14) (v := .ptr ob_981 (j_967.toNat * 2 + 0)) rfl (t_index_own rfl sl22 rfl rfl (getI_some hc_985).1 (by rw [hl_984]; exact getI_lt hc_985) rfl) (.inl rfl) (by kernel_rfl) (VA.w (i := 15) (fun v H' => .any = v ∧ H' = hq ([[(ob_981, .cells ((((bu_964.set i_966.toNat c_980).set j_967.toNat c_982).map Pr.c).flatten ++ sl_981))], a3_g]) []) rfl (w_store_buf (n := 2) (f := 0) (j := 0) rfl sz49 rfl rfl rfl (elemsOK_map Pr.c_ok _) (map_get (getI_some hc_985).2 (Pr.c_eq c_985)) rfl rfl (Nat.le_of_ble_eq_true rfl) rfl (map_set (Pr.c_eq c_982)) ⟨rfl, rfl⟩) (.inl rfl) (by kernel_rfl) rfl ?_)
    rintro _ _ ⟨rfl, rfl⟩
    have hl_987 : len_981 = ((bu_964.set i_966.toNat c_980).set j_967.toNat c_982).length := by simp [hl_984]
    refine VA.done (by kernel_rfl) (thenQ_normal (VW.subK (.c 0 rfl (.c 8 rfl (.c 9 rfl .n))) rfl (VW.seq (VW.region (VO.t (t_move rfl rfl) rfl rfl (VO.t (v := .int .i64 (w64 (i_966 + 1))) (t_add rfl rfl (fun _ _ => rfl) rfl) rfl rfl (VO.t (v := .int .i64 (w64 (i_966 + 1))) (t_assign rfl rfl) rfl rfl (VO.nil (thenQ_normal ?_)))))))))
    refine VW.subK (.c 0 rfl (.c 9 rfl (.c 8 rfl .n))) rfl (VW.region (VO.t (t_move rfl rfl) rfl rfl (VO.t (v := .int .i64 (w64 (j_967 - 1))) (t_sub rfl rfl (fun _ _ => rfl) rfl) rfl rfl (VO.t (v := .int .i64 (w64 (j_967 - 1))) (t_assign rfl rfl) rfl rfl (VO.nil (blockQ_normal (thenQ_normal (VL.round ?_))))))))
    refine VW.subK (.c 0 rfl (.c 8 rfl (.c 9 rfl .n))) rfl ?_
    exact ih _ _ _ _ h (.own ob_981 cap_981 len_981) [(ob_981, .cells ((((bu_964.set i_966.toNat c_980).set j_967.toNat c_982).map Pr.c).flatten ++ sl_981))] (Buf.own (n := 2) (l := ((bu_964.set i_966.toNat c_980).set j_967.toNat c_982).map Pr.c) ob_981 cap_981 len_981 sl_981 (elemsOK_map Pr.c_ok _) (by simp [hl_987]) hc_981 hs_981) hx0
  · replace h := iteF h hc_979
    refine VW.subN (t' := []) trivial rfl (VW.exit (thenQ_exit (thenQ_exit ?_)))
    have h := Option.some.inj h
    subst h
    exact hx0 _ bp0_965 rfl hbp0_965

theorem slices_reverseRangeCmpFunc_2int_ok (a0 : List Pr) (a1 : Int) (a2 : Int) (a3 : Pr → Pr → Option Int) (r : List Pr) (h : PL.slices_reverseRangeCmpFunc_2int a0 a1 a2 a3 = some r) (v0 : VV) (b0 : Seg) (a3_f : Nat) (a3_a : List VV) (a3_c : List VV) (a3_g : Seg) (hB0 : Buf 2 (a0.map Pr.c) v0 b0) (a3_k : FnOK Try.prog a3_f) (a3_h : ∀ (y0 : Pr) (y1 : Pr) (z : Int), a3 y0 y1 = some z → VCalls Try.prog a3_f (a3_a ++ [.agg [.int .i64 y0.x0, .int .i64 y0.x1], .agg [.int .i64 y1.x0, .int .i64 y1.x1]] ++ a3_c) (hq [a3_g] []) (fun v H => .int .i64 z = v ∧ H = hq [a3_g] [])) :
    VCalls Try.prog 65 [v0, .int .i64 a1, .int .i64 a2, .func (.func a3_f) a3_a a3_c] (hq [b0, a3_g] []) (fun v H => ∃ bk0, Buf 2 (r.map Pr.c) v0 bk0 ∧ .tup [] = v ∧ H = hq [bk0, a3_g] []) := by
  unfold PL.slices_reverseRangeCmpFunc_2int at h
  refine VCalls.of_body 34 [] Try.func65 rfl rfl rfl (Nat.le_of_ble_eq_true rfl) (VW.subK (.c 0 rfl (.c 1 rfl (.c 2 rfl .n))) rfl (VW.seq (VW.region (VO.t (t_move rfl rfl) rfl rfl (VO.t (v := .int .i64 a1) (t_assign rfl rfl) rfl rfl (VO.nil (thenQ_normal (VW.subK (.c 0 rfl (.c 2 rfl (.c 8 rfl .n))) rfl (VW.seq ?_)))))))))
  refine VW.region (VO.t (t_move rfl rfl) rfl rfl (VO.t (v := .int .i64 (w64 (a2 - 1))) (t_sub rfl rfl (fun _ _ => rfl) rfl) rfl rfl (VO.t (v := .int .i64 (w64 (a2 - 1))) (t_assign rfl rfl) rfl rfl (VO.nil (thenQ_normal (VW.subK (.c 0 rfl (.c 8 rfl (.c 9 rfl .n))) rfl (VW.block (VW.subK (.c 0 rfl (.c 8 rfl (.c 9 rfl .n))) rfl ?_))))))))
  obtain ⟨o_988, hx_989, h⟩ := obind h
  refine VW.loopL (slices_reverseRangeCmpFunc_2int.l0_ok a3 a3_f a3_a a3_c a3_g a3_k a3_h _ _ _ _ hx_989 v0 b0 hB0 ?_)
  · intro bu_977 bp0_978 ho_ hbp0_978
    subst ho_
    try dsimp only at h
    refine blockQ_hit ?_
    have h := Option.some.inj h
    subst h
    exact ⟨.inl rfl, rfl, _, .tup [], hq [bp0_978, a3_g] [], rfl, VLe.refl _, hq_sub (.cons_cons _ (.cons_cons _ .slnil)) .slnil, bp0_978, hbp0_978, rfl, rfl⟩

theorem slices_partialInsertionSortCmpFunc_2int.l1_ok (a3 : Pr → Pr → Option Int) (a1 : Int) (a2 : Int) (bu_1829 : List Pr) (j_1832 : Int) (a3_f : Nat) (a3_a a3_c : List VV) (a3_g : Seg) (a3_k : FnOK Try.prog a3_f) (a3_h : ∀ (y0 : Pr) (y1 : Pr) (z : Int), a3 y0 y1 = some z → VCalls Try.prog a3_f (a3_a ++ [.agg [.int .i64 y0.x0, .int .i64 y0.x1], .agg [.int .i64 y1.x0, .int .i64 y1.x1]] ++ a3_c) (hq [a3_g] []) (fun v H => .int .i64 z = v ∧ H = hq [a3_g] [])) {Q : Exit → Env → HH → Prop} :
    ∀ (i_2083 : Int) (o : Int), PL.slices_partialInsertionSortCmpFunc_2int.l1 a3 a1 a2 bu_1829 j_1832 i_2083 = some o →
    ∀ (vp0_2082 : VV) (bp0_2082 : Seg) (hbp0_2082 : Buf 2 (bu_1829.map Pr.c) vp0_2082 bp0_2082) (hx0 : ∀ (i_2092 : Int) (bp0_2091 : Seg), i_2092 = o → Buf 2 (bu_1829.map Pr.c) vp0_2082 bp0_2091 → Q (.exit 2) ⟨[(0, vp0_2082), (1, .int .i64 a1), (2, .int .i64 a2), (3, .func (.func a3_f) a3_a a3_c), (9, .int .i64 i_2092), (10, .int .i64 j_1832)], []⟩ (hq ([a3_g, bp0_2091]) [])), VW Try.prog 141 (codeAt [1, 1, 0, 1, 0, 0, 1, 0, 0, 0, 0, 0] (bodyOf Try.f66)) (thenQ (VL Try.prog 141 (codeAt [1, 1, 0, 1, 0, 0, 1, 0, 0, 0, 0, 0] (bodyOf Try.f66)) Q) Q) ⟨[(0, vp0_2082), (1, .int .i64 a1), (2, .int .i64 a2), (3, .func (.func a3_f) a3_a a3_c), (9, .int .i64 i_2083), (10, .int .i64 j_1832)], []⟩ (hq ([bp0_2082, a3_g]) []) := by
  refine PL.slices_partialInsertionSortCmpFunc_2int.l1.partial_correctness a3 a1 a2 bu_1829 j_1832 (motive := fun i_2083 o => ∀ (vp0_2082 : VV) (bp0_2082 : Seg) (hbp0_2082 : Buf 2 (bu_1829.map Pr.c) vp0_2082 bp0_2082) (hx0 : ∀ (i_2092 : Int) (bp0_2091 : Seg), i_2092 = o → Buf 2 (bu_1829.map Pr.c) vp0_2082 bp0_2091 → Q (.exit 2) ⟨[(0, vp0_2082), (1, .int .i64 a1), (2, .int .i64 a2), (3, .func (.func a3_f) a3_a a3_c), (9, .int .i64 i_2092), (10, .int .i64 j_1832)], []⟩ (hq ([a3_g, bp0_2091]) [])), VW Try.prog 141 (codeAt [1, 1, 0, 1, 0, 0, 1, 0, 0, 0, 0, 0] (bodyOf Try.f66)) (thenQ (VL Try.prog 141 (codeAt [1, 1, 0, 1, 0, 0, 1, 0, 0, 0, 0, 0] (bodyOf Try.f66)) Q) Q) ⟨[(0, vp0_2082), (1, .int .i64 a1), (2, .int .i64 a2), (3, .func (.func a3_f) a3_a a3_c), (9, .int .i64 i_2083), (10, .int .i64 j_1832)], []⟩ (hq ([bp0_2082, a3_g]) [])) ?_
  intro _ ih i_2083 o h vp0_2082 bp0_2082 hbp0_2082 hx0
  refine VW.seq (VW.seq (VW.draw 18 mix rfl (VA.t (i := 0) rfl (t_move rfl rfl) (.inl rfl) (by kernel_rfl) (VA.t (i := 1) rfl (t_move rfl rfl) (.inl rfl) (by kernel_rfl) (VA.t (i := 2) (v := .bool (decide (i_2083 < a2))) rfl (t_cmp rfl rfl rfl rfl rfl) (.inl rfl) (by kernel_rfl) (VA.t (i := 3) rfl (t_move rfl rfl) (.inl rfl) (by kernel_rfl) ?_))))))
  refine VA.caseB (d := 22) (b := (decide (i_2083 < a2))) rfl (fun hc_2093 => ?_) (fun hc_2093 => ?_)
  · replace h := iteT h hc_2093
    refine VA.phase (g := 4) [4, 5, 6, 7, 8, 9, 10, 11, 12, 13] 10 (VP.take (i := 4) rfl (TOp.r (t_move rfl rfl)) (.inr ⟨_, _, _, rfl, rfl, rfl⟩) (by kernel_rfl) (VP.take (i := 5) rfl (TOp.r (t_move rfl rfl)) (.inr ⟨_, _, _, rfl, rfl, rfl⟩) (by kernel_rfl) (VP.take (i := 6) rfl (TOp.r (t_move rfl rfl)) (.inr ⟨_, _, _, rfl, rfl, rfl⟩) (by kernel_rfl) ?_)))
    obtain ⟨c_2094, hc_2094, h⟩ := obind h
    obtain ⟨ob_2095, cap_2095, len_2095, sl_2095, rfl, rfl, hE_2095, hl_2095, hc_2095, hs_2095⟩ := buf_at hbp0_2082 hc_2094
    refine VP.take (i := 7) (v := .ptr ob_2095 (i_2083.toNat * 2 + 0)) rfl (TOp.r (t_index_own rfl sl22 rfl rfl (getI_some hc_2094).1 (by rw [hl_2095]; exact getI_lt hc_2094) rfl)) (.inr ⟨_, _, _, rfl, rfl, rfl⟩) (by kernel_rfl) (VP.take (i := 8) (v := .agg [.int .i64 c_2094.x0, .int .i64 c_2094.x1]) rfl (r_load_buf (n := 2) (f := 0) (j := 0) rfl sz49 rfl rfl hE_2095 (map_get (getI_some hc_2094).2 (Pr.c_eq c_2094)) (Nat.le_of_ble_eq_true rfl) (fun _ => ofCells_agg rfl)) (.inr ⟨_, _, _, rfl, rfl, rfl⟩) (by kernel_rfl) (VP.take (i := 9) rfl (TOp.r (t_move rfl rfl)) (.inr ⟨_, _, _, rfl, rfl, rfl⟩) (by kernel_rfl) (VP.take (i := 10) rfl (TOp.r (t_move rfl rfl)) (.inr ⟨_, _, _, rfl, rfl, rfl⟩) (by kernel_rfl) (VP.take (i := 11) (v := .int .i64 (w64 (i_2083 - 1))) rfl (TOp.r (t_sub rfl rfl (fun _ _ => rfl) rfl)) (.inr ⟨_, _, _, rfl, rfl, rfl⟩) (by kernel_rfl) ?_))))
    obtain ⟨c_2096, hc_2096, h⟩ := obind h
    refine VP.take (i := 12) (v := .ptr ob_2095 ((w64 (i_2083 - 1)).toNat * 2 + 0)) rfl (TOp.r (t_index_own rfl sl22 rfl rfl (getI_some hc_2096).1 (by rw [hl_2095]; exact getI_lt hc_2096) rfl)) (.inr ⟨_, _, _, rfl, rfl, rfl⟩) (by kernel_rfl) (VP.take (i := 13) (v := .agg [.int .i64 c_2096.x0, .int .i64 c_2096.x1]) rfl (r_load_buf (n := 2) (f := 0) (j := 0) rfl sz49 rfl rfl hE_2095 (map_get (getI_some hc_2096).2 (Pr.c_eq c_2096)) (Nat.le_of_ble_eq_true rfl) (fun _ => ofCells_agg rfl)) (.inr ⟨_, _, _, rfl, rfl, rfl⟩) (by kernel_rfl) (VP.done (by kernel_rfl) (VA.frontS 1 rfl ?_)))
    obtain ⟨rv_2097, hx_2098, h⟩ := obind h
    refine VA.w (i := 14) (fun v H' => .int .i64 rv_2097 = v ∧ H' = hq ([a3_g, [(ob_2095, .cells ((bu_1829.map Pr.c).flatten ++ sl_2095))]]) []) rfl (w_call_q (sa := [a3_g]) (sg := [[(ob_2095, .cells ((bu_1829.map Pr.c).flatten ++ sl_2095))]]) (tks := []) rfl a3_k rfl ⟨_, _, rfl, rfl, _, _, rfl, rfl, rfl⟩ (a3_h _ _ _ hx_2098) (by rintro v H' ⟨rfl, rfl⟩; exact ⟨[a3_g], rfl, rfl, rfl⟩)) (.inr ⟨_, _, _, rfl, rfl, rfl⟩) (by kernel_rfl) rfl ?_
    rintro _ _ ⟨rfl, rfl⟩
    refine VA.t (i := 15) (v := .bool (decide (rv_2097 < 0))) rfl (t_cmp rfl rfl rfl (fun _ _ => rfl) rfl) (.inr ⟨_, _, _, rfl, rfl, rfl⟩) (by kernel_rfl) (VA.t (i := 16) (v := .bool (!(decide (rv_2097 < 0)))) rfl (t_not rfl rfl rfl) (.inr ⟨_, _, _, rfl, rfl, rfl⟩) (by kernel_rfl) (VA.t (i := 17) (v := .bool (!(decide (rv_2097 < 0)))) rfl (t_pick (b := true) rfl rfl (fun _ => rfl) (fun h => by cases h)) (.inl rfl) (by kernel_rfl) (VA.done (by kernel_rfl) (thenQ_normal (VW.subK (.c 0 rfl (.c 1 rfl (.c 2 rfl (.c 3 rfl (.c 9 rfl (.c 10 rfl (.c 23 rfl (.c 24 rfl (.c 25 rfl (.c 26 rfl (.c 27 rfl (.c 28 rfl (.c 29 rfl (.c 30 rfl (.c 31 rfl (.c 32 rfl (.c 33 rfl (.c 34 rfl (.c 35 rfl (.c 36 rfl .n)))))))))))))))))))) rfl ?_)))))
    refine VW.cond (b := (!(decide (rv_2097 < 0)))) rfl (fun hc_2099 => ?_) (fun hc_2099 => ?_)
    · replace h := iteT h hc_2099
      refine VW.skip (thenQ_normal (VW.subK (.c 0 rfl (.c 1 rfl (.c 2 rfl (.c 3 rfl (.c 9 rfl (.c 10 rfl (.c 23 rfl (.c 24 rfl (.c 25 rfl (.c 26 rfl (.c 27 rfl (.c 28 rfl (.c 29 rfl (.c 30 rfl (.c 31 rfl (.c 32 rfl (.c 33 rfl (.c 34 rfl (.c 35 rfl .n))))))))))))))))))) rfl (VW.block (VW.region (VO.t (t_move rfl rfl) rfl rfl (VO.t (v := .int .i64 (w64 (i_2083 + 1))) (t_add rfl rfl (fun _ _ => rfl) rfl) rfl rfl (VO.t (v := .int .i64 (w64 (i_2083 + 1))) (t_assign rfl rfl) rfl rfl (VO.nil (blockQ_normal ?_)))))))))
      refine thenQ_normal (VL.round ?_)
      refine VW.subK (.c 0 rfl (.c 1 rfl (.c 2 rfl (.c 3 rfl (.c 9 rfl (.c 10 rfl .n)))))) rfl (VW.frontS 0 rfl (VW.frontS 1 rfl ?_))
      exact ih _ _ h (.own ob_2095 cap_2095 len_2095) [(ob_2095, .cells ((bu_1829.map Pr.c).flatten ++ sl_2095))] (Buf.own (n := 2) (l := bu_1829.map Pr.c) ob_2095 cap_2095 len_2095 sl_2095 (elemsOK_map Pr.c_ok _) (by simp [hl_2095]) hc_2095 hs_2095) hx0
    · replace h := iteF h hc_2099
      refine VW.subK (.c 0 rfl (.c 1 rfl (.c 2 rfl (.c 3 rfl (.c 9 rfl (.c 10 rfl .n)))))) rfl (VW.exit (thenQ_exit (thenQ_exit ?_)))
      have h := Option.some.inj h
      subst h
      exact hx0 _ [(ob_2095, .cells ((bu_1829.map Pr.c).flatten ++ sl_2095))] rfl (Buf.own (n := 2) (l := bu_1829.map Pr.c) ob_2095 cap_2095 len_2095 sl_2095 (elemsOK_map Pr.c_ok _) (by simp [hl_2095]) hc_2095 hs_2095)
  · replace h := iteF h hc_2093
    refine VA.skip (i := 4) rfl rfl rfl rfl rfl (by kernel_rfl) (VA.skip (i := 5) rfl rfl rfl rfl rfl (by kernel_rfl) (VA.skip (i := 6) rfl rfl rfl rfl rfl (by kernel_rfl) (VA.skip (i := 7) rfl rfl rfl rfl rfl (by kernel_rfl) (VA.skip (i := 8) rfl rfl rfl rfl rfl (by kernel_rfl) (VA.skip (i := 9) rfl rfl rfl rfl rfl (by kernel_rfl) (VA.skip (i := 10) rfl rfl rfl rfl rfl (by kernel_rfl) (VA.skip (i := 11) rfl rfl rfl rfl rfl (by kernel_rfl) (VA.skip (i := 12) rfl rfl rfl rfl rfl (by kernel_rfl) (VA.skip (i := 13) rfl rfl rfl rfl rfl (by kernel_rfl) ?_)))))))))
    refine VA.skip (i := 14) rfl rfl rfl rfl rfl (by kernel_rfl) (VA.skip (i := 15) rfl rfl rfl rfl rfl (by kernel_rfl) (VA.skip (i := 16) rfl rfl rfl rfl rfl (by kernel_rfl) (VA.t (i := 17) (v := .bool false) rfl (t_pick (b := false) rfl rfl (fun h => by cases h) (fun _ => (fun _ _ => rfl))) (.inl rfl) (by kernel_rfl) (VA.done (by kernel_rfl) (thenQ_normal (VW.subK (.c 0 rfl (.c 1 rfl (.c 2 rfl (.c 3 rfl (.c 9 rfl (.c 10 rfl (.c 23 rfl (.c 24 rfl (.c 25 rfl (.c 26 rfl (.c 27 rfl (.c 28 rfl (.c 29 rfl (.c 30 rfl (.c 31 rfl (.c 32 rfl (.c 33 rfl (.c 34 rfl (.c 35 rfl (.c 36 rfl .n)))))))))))))))))))) rfl (VW.condF rfl (VW.subK (.c 0 rfl (.c 1 rfl (.c 2 rfl (.c 3 rfl (.c 9 rfl (.c 10 rfl .n)))))) rfl (VW.frontS 0 rfl ?_)))))))))
    refine VW.frontS 1 rfl (VW.exit (thenQ_exit (thenQ_exit ?_)))
    have h := Option.some.inj h
    subst h
    exact hx0 _ bp0_2082 rfl hbp0_2082

theorem slices_partialInsertionSortCmpFunc_2int.l2_ok (a3 : Pr → Pr → Option Int) (a1 : Int) (a2 : Int) (i_2092 : Int) (j_1832 : Int) (a3_f : Nat) (a3_a a3_c : List VV) (a3_g : Seg) (a3_k : FnOK Try.prog a3_f) (a3_h : ∀ (y0 : Pr) (y1 : Pr) (z : Int), a3 y0 y1 = some z → VCalls Try.prog a3_f (a3_a ++ [.agg [.int .i64 y0.x0, .int .i64 y0.x1], .agg [.int .i64 y1.x0, .int .i64 y1.x1]] ++ a3_c) (hq [a3_g] []) (fun v H => .int .i64 z = v ∧ H = hq [a3_g] [])) {Q : Exit → Env → HH → Prop} :
    ∀ (bu_2176 : List Pr) (j_2178 : Int) (o : (List Pr)), PL.slices_partialInsertionSortCmpFunc_2int.l2 a3 a1 a2 i_2092 j_1832 bu_2176 j_2178 = some o →
    ∀ (vp0_2177 : VV) (bp0_2177 : Seg) (hbp0_2177 : Buf 2 (bu_2176.map Pr.c) vp0_2177 bp0_2177) (hx0 : ∀ (bu_2191 : List Pr) (bp0_2192 : Seg), bu_2191 = o → Buf 2 (bu_2191.map Pr.c) vp0_2177 bp0_2192 → Q (.exit 6) ⟨[(0, vp0_2177), (1, .int .i64 a1), (2, .int .i64 a2), (3, .func (.func a3_f) a3_a a3_c), (9, .int .i64 i_2092), (10, .int .i64 j_1832)], []⟩ (hq ([a3_g, bp0_2192]) [])), VW Try.prog 141 (codeAt [1, 1, 0, 1, 0, 0, 1, 0, 0, 1, 1, 1, 1, 1, 1, 0, 1, 0, 0] (bodyOf Try.f66)) (thenQ (VL Try.prog 141 (codeAt [1, 1, 0, 1, 0, 0, 1, 0, 0, 1, 1, 1, 1, 1, 1, 0, 1, 0, 0] (bodyOf Try.f66)) Q) Q) ⟨[(0, vp0_2177), (1, .int .i64 a1), (2, .int .i64 a2), (3, .func (.func a3_f) a3_a a3_c), (9, .int .i64 i_2092), (10, .int .i64 j_1832), (12, .int .i64 j_2178)], []⟩ (hq ([a3_g, bp0_2177]) []) := by
  refine PL.slices_partialInsertionSortCmpFunc_2int.l2.partial_correctness a3 a1 a2 i_2092 j_1832 (motive := fun bu_2176 j_2178 o => ∀ (vp0_2177 : VV) (bp0_2177 : Seg) (hbp0_2177 : Buf 2 (bu_2176.map Pr.c) vp0_2177 bp0_2177) (hx0 : ∀ (bu_2191 : List Pr) (bp0_2192 : Seg), bu_2191 = o → Buf 2 (bu_2191.map Pr.c) vp0_2177 bp0_2192 → Q (.exit 6) ⟨[(0, vp0_2177), (1, .int .i64 a1), (2, .int .i64 a2), (3, .func (.func a3_f) a3_a a3_c), (9, .int .i64 i_2092), (10, .int .i64 j_1832)], []⟩ (hq ([a3_g, bp0_2192]) [])), VW Try.prog 141 (codeAt [1, 1, 0, 1, 0, 0, 1, 0, 0, 1, 1, 1, 1, 1, 1, 0, 1, 0, 0] (bodyOf Try.f66)) (thenQ (VL Try.prog 141 (codeAt [1, 1, 0, 1, 0, 0, 1, 0, 0, 1, 1, 1, 1, 1, 1, 0, 1, 0, 0] (bodyOf Try.f66)) Q) Q) ⟨[(0, vp0_2177), (1, .int .i64 a1), (2, .int .i64 a2), (3, .func (.func a3_f) a3_a a3_c), (9, .int .i64 i_2092), (10, .int .i64 j_1832), (12, .int .i64 j_2178)], []⟩ (hq ([a3_g, bp0_2177]) [])) ?_
  intro _ ih bu_2176 j_2178 o h vp0_2177 bp0_2177 hbp0_2177 hx0
  refine VW.seq (VW.seq (VW.region (VO.t (t_move rfl rfl) rfl rfl (VO.t (t_move rfl rfl) rfl rfl (VO.t (v := .bool (decide (j_2178 < a2))) (t_cmp rfl rfl rfl rfl rfl) rfl rfl (VO.nil (thenQ_normal (VW.subK (.c 0 rfl (.c 1 rfl (.c 2 rfl (.c 3 rfl (.c 9 rfl (.c 10 rfl (.c 12 rfl (.c 109 rfl .n)))))))) rfl ?_))))))))
  refine VW.cond (b := (decide (j_2178 < a2))) rfl (fun hc_2193 => ?_) (fun hc_2193 => ?_)
  · replace h := iteT h hc_2193
    refine VW.skip (thenQ_normal (VW.subK (.c 0 rfl (.c 1 rfl (.c 2 rfl (.c 3 rfl (.c 9 rfl (.c 10 rfl (.c 12 rfl .n))))))) rfl (VW.seq (VW.block (VW.seq (VW.seq (VW.draw 13 mix rfl (VA.phase (g := 3) [0, 1, 2, 3, 4, 5, 6, 7, 8, 9] 10 (VP.take (i := 0) rfl (TOp.r (t_move rfl rfl)) (.inl rfl) (by kernel_rfl) ?_)))))))))
    refine VP.take (i := 1) rfl (TOp.r (t_move rfl rfl)) (.inl rfl) (by kernel_rfl) (VP.take (i := 2) rfl (TOp.r (t_move rfl rfl)) (.inl rfl) (by kernel_rfl) ?_)
    obtain ⟨c_2194, hc_2194, h⟩ := obind h
    obtain ⟨ob_2195, cap_2195, len_2195, sl_2195, rfl, rfl, hE_2195, hl_2195, hc_2195, hs_2195⟩ := buf_at hbp0_2177 hc_2194
    refine VP.take (i := 3) (v := .ptr ob_2195 (j_2178.toNat * 2 + 0)) rfl (TOp.r (t_index_own rfl sl22 rfl rfl (getI_some hc_2194).1 (by rw [hl_2195]; exact getI_lt hc_2194) rfl)) (.inl rfl) (by kernel_rfl) (VP.take (i := 4) (v := .agg [.int .i64 c_2194.x0, .int .i64 c_2194.x1]) rfl (r_load_buf (n := 2) (f := 0) (j := 1) rfl sz49 rfl rfl hE_2195 (map_get (getI_some hc_2194).2 (Pr.c_eq c_2194)) (Nat.le_of_ble_eq_true rfl) (fun _ => ofCells_agg rfl)) (.inl rfl) (by kernel_rfl) (VP.take (i := 5) rfl (TOp.r (t_move rfl rfl)) (.inl rfl) (by kernel_rfl) (VP.take (i := 6) rfl (TOp.r (t_move rfl rfl)) (.inl rfl) (by kernel_rfl) (VP.take (i := 7) (v := .int .i64 (w64 (j_2178 - 1))) rfl (TOp.r (t_sub rfl rfl (fun _ _ => rfl) rfl)) (.inl rfl) (by kernel_rfl) ?_))))
    obtain ⟨c_2196, hc_2196, h⟩ := obind h
    refine VP.take (i := 8) (v := .ptr ob_2195 ((w64 (j_2178 - 1)).toNat * 2 + 0)) rfl (TOp.r (t_index_own rfl sl22 rfl rfl (getI_some hc_2196).1 (by rw [hl_2195]; exact getI_lt hc_2196) rfl)) (.inl rfl) (by kernel_rfl) (VP.take (i := 9) (v := .agg [.int .i64 c_2196.x0, .int .i64 c_2196.x1]) rfl (r_load_buf (n := 2) (f := 0) (j := 1) rfl sz49 rfl rfl hE_2195 (map_get (getI_some hc_2196).2 (Pr.c_eq c_2196)) (Nat.le_of_ble_eq_true rfl) (fun _ => ofCells_agg rfl)) (.inl rfl) (by kernel_rfl) (VP.done (by kernel_rfl) ?_))
    obtain ⟨rv_2197, hx_2198, h⟩ := obind h
    refine VA.w (i := 10) (fun v H' => .int .i64 rv_2197 = v ∧ H' = hq ([a3_g, [(ob_2195, .cells ((bu_2176.map Pr.c).flatten ++ sl_2195))]]) []) rfl (w_call_q (sa := [a3_g]) (sg := [[(ob_2195, .cells ((bu_2176.map Pr.c).flatten ++ sl_2195))]]) (tks := []) rfl a3_k rfl ⟨_, _, rfl, rfl, _, _, rfl, rfl, rfl⟩ (a3_h _ _ _ hx_2198) (by rintro v H' ⟨rfl, rfl⟩; exact ⟨[a3_g], rfl, rfl, rfl⟩)) (.inl rfl) (by kernel_rfl) rfl ?_
    rintro _ _ ⟨rfl, rfl⟩
    refine VA.t (i := 11) (v := .bool (decide (rv_2197 < 0))) rfl (t_cmp rfl rfl rfl (fun _ _ => rfl) rfl) (.inl rfl) (by kernel_rfl) (VA.t (i := 12) (v := .bool (!(decide (rv_2197 < 0)))) rfl (t_not rfl rfl rfl) (.inl rfl) (by kernel_rfl) (VA.done (by kernel_rfl) (thenQ_normal (VW.subK (.c 0 rfl (.c 1 rfl (.c 2 rfl (.c 3 rfl (.c 9 rfl (.c 10 rfl (.c 12 rfl (.c 124 rfl .n)))))))) rfl ?_))))
    refine VW.cond (b := (!(decide (rv_2197 < 0)))) rfl (fun hc_2199 => ?_) (fun hc_2199 => ?_)
    · replace h := iteT h hc_2199
      refine VW.subK (.c 0 rfl (.c 1 rfl (.c 2 rfl (.c 3 rfl (.c 9 rfl (.c 10 rfl .n)))))) rfl (VW.exit (thenQ_exit (blockQ_miss rfl (thenQ_exit (thenQ_exit ?_)))))
      have h := Option.some.inj h
      subst h
      exact hx0 _ [(ob_2195, .cells ((bu_2176.map Pr.c).flatten ++ sl_2195))] rfl (Buf.own (n := 2) (l := bu_2176.map Pr.c) ob_2195 cap_2195 len_2195 sl_2195 (elemsOK_map Pr.c_ok _) (by simp [hl_2195]) hc_2195 hs_2195)
    · replace h := iteF h hc_2199
      refine VW.skip (thenQ_normal (VW.subK (.c 0 rfl (.c 1 rfl (.c 2 rfl (.c 3 rfl (.c 9 rfl (.c 10 rfl (.c 12 rfl .n))))))) rfl (VW.draw 18 mix rfl (VA.t (i := 0) rfl (t_move rfl rfl) (.inl rfl) (by kernel_rfl) (VA.t (i := 1) rfl (t_move rfl rfl) (.inl rfl) (by kernel_rfl) (VA.t (i := 2) rfl (t_move rfl rfl) (.inl rfl) (by kernel_rfl) (VA.t (i := 3) rfl (t_move rfl rfl) (.inl rfl) (by kernel_rfl) (VA.t (i := 4) (v := .int .i64 (w64 (j_2178 - 1))) rfl (t_sub rfl rfl (fun _ _ => rfl) rfl) (.inl rfl) (by kernel_rfl) (VA.phase (g := 3) [5, 6, 7, 8, 9, 10, 11, 12, 13, 14] 10 ?_)))))))))
      refine VP.take (i := 5) rfl (TOp.r (t_move rfl rfl)) (.inl rfl) (by kernel_rfl) (VP.take (i := 6) rfl (TOp.r (t_move rfl rfl)) (.inl rfl) (by kernel_rfl) (VP.take (i := 7) (v := .int .i64 (w64 (j_2178 - 1))) rfl (TOp.r (t_sub rfl rfl (fun _ _ => rfl) rfl)) (.inl rfl) (by kernel_rfl) (VP.take (i := 8) (v := .ptr ob_2195 ((w64 (j_2178 - 1)).toNat * 2 + 0)) rfl (TOp.r (t_index_own rfl sl22 rfl rfl (getI_some hc_2196).1 (by rw [hl_2195]; exact getI_lt hc_2196) rfl)) (.inl rfl) (by kernel_rfl) (VP.take (i := 9) (v := .agg [.int .i64 c_2196.x0, .int .i64 c_2196.x1]) rfl (r_load_buf (n := 2) (f := 0) (j := 1) rfl sz49 rfl rfl hE_2195 (map_get (getI_some hc_2196).2 (Pr.c_eq c_2196)) (Nat.le_of_ble_eq_true rfl) (fun _ => ofCells_agg rfl)) (.inl rfl) (by kernel_rfl) (VP.take (i := 10) rfl (TOp.r (t_move rfl rfl)) (.inl rfl) (by kernel_rfl) (VP.take (i := 11) rfl (TOp.r (t_move rfl rfl)) (.inl rfl) (by kernel_rfl) (VP.take (i := 12) (v := .ptr ob_2195 (j_2178.toNat * 2 + 0)) rfl (TOp.r (t_index_own rfl sl22 rfl rfl (getI_some hc_2194).1 (by rw [hl_2195]; exact getI_lt hc_2194) rfl)) (.inl rfl) (by kernel_rfl) (VP.take (i := 13) (v := .agg [.int .i64 c_2194.x0, .int .i64 c_2194.x1]) rfl (r_load_buf (n := 2) (f := 0) (j := 1) rfl sz49 rfl rfl hE_2195 (map_get (getI_some hc_2194).2 (Pr.c_eq c_2194)) (Nat.le_of_ble_eq_true rfl) (fun _ => ofCells_agg rfl)) (.inl rfl) (by kernel_rfl) (VP.take (i := 14) (v := .ptr ob_2195 (j_2178.toNat * 2 + 0)) rfl (TOp.r (t_index_own rfl sl22 rfl rfl (getI_some hc_2194).1 (by rw [hl_2195]; exact getI_lt hc_2194) rfl)) (.inl rfl) (by kernel_rfl) ?_)))))))))
      refine VP.done (by kernel_rfl) (VA.w (i := 15) (fun v H' => .any = v ∧ H' = hq ([a3_g, [(ob_2195, .cells (((bu_2176.set j_2178.toNat c_2196).map Pr.c).flatten ++ sl_2195))]]) []) rfl (w_store_buf (n := 2) (f := 0) (j := 1) rfl sz49 rfl rfl rfl hE_2195 (map_get (getI_some hc_2194).2 (Pr.c_eq c_2194)) rfl rfl (Nat.le_of_ble_eq_true rfl) rfl (map_set (Pr.c_eq c_2196)) ⟨rfl, rfl⟩) (.inl rfl) (by kernel_rfl) rfl ?_)
      rintro _ _ ⟨rfl, rfl⟩
      have hl_2201 : len_2195 = (bu_2176.set j_2178.toNat c_2196).length := by simp [hl_2195]
      obtain ⟨c_2202, hc_2202, h⟩ := obind h
      refine VA.t (i := 16) (v := .ptr ob_2195 ((w64 (j_2178 - 1)).toNat * 2 + 0)) rfl (t_index_own rfl sl22 rfl rfl (getI_some hc_2202).1 (by rw [hl_2201]; exact getI_lt hc_2202) rfl) (.inl rfl) (by kernel_rfl) (VA.w (i := 17) (fun v H' => .any = v ∧ H' = hq ([a3_g, [(ob_2195, .cells ((((bu_2176.set j_2178.toNat c_2196).set (w64 (j_2178 - 1)).toNat c_2194).map Pr.c).flatten ++ sl_2195))]]) []) rfl (w_store_buf (n := 2) (f := 0) (j := 1) rfl sz49 rfl rfl rfl (elemsOK_map Pr.c_ok _) (map_get (getI_some hc_2202).2 (Pr.c_eq c_2202)) rfl rfl (Nat.le_of_ble_eq_true rfl) rfl (map_set (Pr.c_eq c_2194)) ⟨rfl, rfl⟩) (.inl rfl) (by kernel_rfl) rfl ?_)
      rintro _ _ ⟨rfl, rfl⟩
      have hl_2204 : len_2195 = ((bu_2176.set j_2178.toNat c_2196).set (w64 (j_2178 - 1)).toNat c_2194).length := by simp [hl_2201]
      refine VA.done (by kernel_rfl) (blockQ_normal (thenQ_normal (VW.subK (.c 0 rfl (.c 1 rfl (.c 2 rfl (.c 3 rfl (.c 9 rfl (.c 10 rfl (.c 12 rfl .n))))))) rfl (VW.region (VO.t (t_move rfl rfl) rfl rfl (VO.t (v := .int .i64 (w64 (j_2178 + 1))) (t_add rfl rfl (fun _ _ => rfl) rfl) rfl rfl (VO.t (v := .int .i64 (w64 (j_2178 + 1))) (t_assign rfl rfl) rfl rfl (VO.nil (thenQ_normal (VL.round ?_))))))))))
      refine VW.subK (.c 0 rfl (.c 1 rfl (.c 2 rfl (.c 3 rfl (.c 9 rfl (.c 10 rfl (.c 12 rfl .n))))))) rfl ?_
      exact ih _ _ _ h (.own ob_2195 cap_2195 len_2195) [(ob_2195, .cells ((((bu_2176.set j_2178.toNat c_2196).set (w64 (j_2178 - 1)).toNat c_2194).map Pr.c).flatten ++ sl_2195))] (Buf.own (n := 2) (l := ((bu_2176.set j_2178.toNat c_2196).set (w64 (j_2178 - 1)).toNat c_2194).map Pr.c) ob_2195 cap_2195 len_2195 sl_2195 (elemsOK_map Pr.c_ok _) (by simp [hl_2204]) hc_2195 hs_2195) hx0
  · replace h := iteF h hc_2193
    refine VW.subK (.c 0 rfl (.c 1 rfl (.c 2 rfl (.c 3 rfl (.c 9 rfl (.c 10 rfl .n)))))) rfl (VW.exit (thenQ_exit (thenQ_exit ?_)))
    have h := Option.some.inj h
    subst h
    exact hx0 _ bp0_2177 rfl hbp0_2177

theorem slices_partialInsertionSortCmpFunc_2int.l3_ok (a3 : Pr → Pr → Option Int) (a1 : Int) (a2 : Int) (i_2092 : Int) (j_1832 : Int) (a3_f : Nat) (a3_a a3_c : List VV) (a3_g : Seg) (a3_k : FnOK Try.prog a3_f) (a3_h : ∀ (y0 : Pr) (y1 : Pr) (z : Int), a3 y0 y1 = some z → VCalls Try.prog a3_f (a3_a ++ [.agg [.int .i64 y0.x0, .int .i64 y0.x1], .agg [.int .i64 y1.x0, .int .i64 y1.x1]] ++ a3_c) (hq [a3_g] []) (fun v H => .int .i64 z = v ∧ H = hq [a3_g] [])) {Q : Exit → Env → HH → Prop} :
    ∀ (bu_2221 : List Pr) (j_2223 : Int) (o : (List Pr)), PL.slices_partialInsertionSortCmpFunc_2int.l3 a3 a1 a2 i_2092 j_1832 bu_2221 j_2223 = some o →
    ∀ (vp0_2222 : VV) (bp0_2222 : Seg) (hbp0_2222 : Buf 2 (bu_2221.map Pr.c) vp0_2222 bp0_2222) (hx0 : ∀ (bu_2236 : List Pr) (bp0_2237 : Seg), bu_2236 = o → Buf 2 (bu_2236.map Pr.c) vp0_2222 bp0_2237 → Q (.exit 4) ⟨[(0, vp0_2222), (1, .int .i64 a1), (2, .int .i64 a2), (3, .func (.func a3_f) a3_a a3_c), (9, .int .i64 i_2092), (10, .int .i64 j_1832)], []⟩ (hq ([a3_g, bp0_2237]) [])), VW Try.prog 141 (codeAt [1, 1, 0, 1, 0, 0, 1, 0, 0, 1, 1, 1, 1, 0, 1, 0, 1, 0, 0] (bodyOf Try.f66)) (thenQ (VL Try.prog 141 (codeAt [1, 1, 0, 1, 0, 0, 1, 0, 0, 1, 1, 1, 1, 0, 1, 0, 1, 0, 0] (bodyOf Try.f66)) Q) Q) ⟨[(0, vp0_2222), (1, .int .i64 a1), (2, .int .i64 a2), (3, .func (.func a3_f) a3_a a3_c), (9, .int .i64 i_2092), (10, .int .i64 j_1832), (11, .int .i64 j_2223)], []⟩ (hq ([a3_g, bp0_2222]) []) := by
  refine PL.slices_partialInsertionSortCmpFunc_2int.l3.partial_correctness a3 a1 a2 i_2092 j_1832 (motive := fun bu_2221 j_2223 o => ∀ (vp0_2222 : VV) (bp0_2222 : Seg) (hbp0_2222 : Buf 2 (bu_2221.map Pr.c) vp0_2222 bp0_2222) (hx0 : ∀ (bu_2236 : List Pr) (bp0_2237 : Seg), bu_2236 = o → Buf 2 (bu_2236.map Pr.c) vp0_2222 bp0_2237 → Q (.exit 4) ⟨[(0, vp0_2222), (1, .int .i64 a1), (2, .int .i64 a2), (3, .func (.func a3_f) a3_a a3_c), (9, .int .i64 i_2092), (10, .int .i64 j_1832)], []⟩ (hq ([a3_g, bp0_2237]) [])), VW Try.prog 141 (codeAt [1, 1, 0, 1, 0, 0, 1, 0, 0, 1, 1, 1, 1, 0, 1, 0, 1, 0, 0] (bodyOf Try.f66)) (thenQ (VL Try.prog 141 (codeAt [1, 1, 0, 1, 0, 0, 1, 0, 0, 1, 1, 1, 1, 0, 1, 0, 1, 0, 0] (bodyOf Try.f66)) Q) Q) ⟨[(0, vp0_2222), (1, .int .i64 a1), (2, .int .i64 a2), (3, .func (.func a3_f) a3_a a3_c), (9, .int .i64 i_2092), (10, .int .i64 j_1832), (11, .int .i64 j_2223)], []⟩ (hq ([a3_g, bp0_2222]) [])) ?_
  intro _ ih bu_2221 j_2223 o h vp0_2222 bp0_2222 hbp0_2222 hx0
  refine VW.seq (VW.seq (VW.region (VO.t (t_move rfl rfl) rfl rfl (VO.t (v := .bool (decide (j_2223 ≥ 1))) (t_cmp rfl rfl rfl (fun _ _ => rfl) rfl) rfl rfl (VO.nil (thenQ_normal (VW.subK (.c 0 rfl (.c 1 rfl (.c 2 rfl (.c 3 rfl (.c 9 rfl (.c 10 rfl (.c 11 rfl (.c 69 rfl .n)))))))) rfl ?_)))))))
  refine VW.cond (b := (decide (j_2223 ≥ 1))) rfl (fun hc_2238 => ?_) (fun hc_2238 => ?_)
  · replace h := iteT h hc_2238
    refine VW.skip (thenQ_normal (VW.subK (.c 0 rfl (.c 1 rfl (.c 2 rfl (.c 3 rfl (.c 9 rfl (.c 10 rfl (.c 11 rfl .n))))))) rfl (VW.seq (VW.block (VW.seq (VW.seq (VW.draw 13 mix rfl (VA.phase (g := 3) [0, 1, 2, 3, 4, 5, 6, 7, 8, 9] 10 (VP.take (i := 0) rfl (TOp.r (t_move rfl rfl)) (.inl rfl) (by kernel_rfl) ?_)))))))))
    refine VP.take (i := 1) rfl (TOp.r (t_move rfl rfl)) (.inl rfl) (by kernel_rfl) (VP.take (i := 2) rfl (TOp.r (t_move rfl rfl)) (.inl rfl) (by kernel_rfl) ?_)
    obtain ⟨c_2239, hc_2239, h⟩ := obind h
    obtain ⟨ob_2240, cap_2240, len_2240, sl_2240, rfl, rfl, hE_2240, hl_2240, hc_2240, hs_2240⟩ := buf_at hbp0_2222 hc_2239
    refine VP.take (i := 3) (v := .ptr ob_2240 (j_2223.toNat * 2 + 0)) rfl (TOp.r (t_index_own rfl sl22 rfl rfl (getI_some hc_2239).1 (by rw [hl_2240]; exact getI_lt hc_2239) rfl)) (.inl rfl) (by kernel_rfl) (VP.take (i := 4) (v := .agg [.int .i64 c_2239.x0, .int .i64 c_2239.x1]) rfl (r_load_buf (n := 2) (f := 0) (j := 1) rfl sz49 rfl rfl hE_2240 (map_get (getI_some hc_2239).2 (Pr.c_eq c_2239)) (Nat.le_of_ble_eq_true rfl) (fun _ => ofCells_agg rfl)) (.inl rfl) (by kernel_rfl) (VP.take (i := 5) rfl (TOp.r (t_move rfl rfl)) (.inl rfl) (by kernel_rfl) (VP.take (i := 6) rfl (TOp.r (t_move rfl rfl)) (.inl rfl) (by kernel_rfl) (VP.take (i := 7) (v := .int .i64 (w64 (j_2223 - 1))) rfl (TOp.r (t_sub rfl rfl (fun _ _ => rfl) rfl)) (.inl rfl) (by kernel_rfl) ?_))))
    obtain ⟨c_2241, hc_2241, h⟩ := obind h
    refine VP.take (i := 8) (v := .ptr ob_2240 ((w64 (j_2223 - 1)).toNat * 2 + 0)) rfl (TOp.r (t_index_own rfl sl22 rfl rfl (getI_some hc_2241).1 (by rw [hl_2240]; exact getI_lt hc_2241) rfl)) (.inl rfl) (by kernel_rfl) (VP.take (i := 9) (v := .agg [.int .i64 c_2241.x0, .int .i64 c_2241.x1]) rfl (r_load_buf (n := 2) (f := 0) (j := 1) rfl sz49 rfl rfl hE_2240 (map_get (getI_some hc_2241).2 (Pr.c_eq c_2241)) (Nat.le_of_ble_eq_true rfl) (fun _ => ofCells_agg rfl)) (.inl rfl) (by kernel_rfl) (VP.done (by kernel_rfl) ?_))
    obtain ⟨rv_2242, hx_2243, h⟩ := obind h
    refine VA.w (i := 10) (fun v H' => .int .i64 rv_2242 = v ∧ H' = hq ([a3_g, [(ob_2240, .cells ((bu_2221.map Pr.c).flatten ++ sl_2240))]]) []) rfl (w_call_q (sa := [a3_g]) (sg := [[(ob_2240, .cells ((bu_2221.map Pr.c).flatten ++ sl_2240))]]) (tks := []) rfl a3_k rfl ⟨_, _, rfl, rfl, _, _, rfl, rfl, rfl⟩ (a3_h _ _ _ hx_2243) (by rintro v H' ⟨rfl, rfl⟩; exact ⟨[a3_g], rfl, rfl, rfl⟩)) (.inl rfl) (by kernel_rfl) rfl ?_
    rintro _ _ ⟨rfl, rfl⟩
    refine VA.t (i := 11) (v := .bool (decide (rv_2242 < 0))) rfl (t_cmp rfl rfl rfl (fun _ _ => rfl) rfl) (.inl rfl) (by kernel_rfl) (VA.t (i := 12) (v := .bool (!(decide (rv_2242 < 0)))) rfl (t_not rfl rfl rfl) (.inl rfl) (by kernel_rfl) (VA.done (by kernel_rfl) (thenQ_normal (VW.subK (.c 0 rfl (.c 1 rfl (.c 2 rfl (.c 3 rfl (.c 9 rfl (.c 10 rfl (.c 11 rfl (.c 84 rfl .n)))))))) rfl ?_))))
    refine VW.cond (b := (!(decide (rv_2242 < 0)))) rfl (fun hc_2244 => ?_) (fun hc_2244 => ?_)
    · replace h := iteT h hc_2244
      refine VW.subK (.c 0 rfl (.c 1 rfl (.c 2 rfl (.c 3 rfl (.c 9 rfl (.c 10 rfl .n)))))) rfl (VW.exit (thenQ_exit (blockQ_miss rfl (thenQ_exit (thenQ_exit ?_)))))
      have h := Option.some.inj h
      subst h
      exact hx0 _ [(ob_2240, .cells ((bu_2221.map Pr.c).flatten ++ sl_2240))] rfl (Buf.own (n := 2) (l := bu_2221.map Pr.c) ob_2240 cap_2240 len_2240 sl_2240 (elemsOK_map Pr.c_ok _) (by simp [hl_2240]) hc_2240 hs_2240)
    · replace h := iteF h hc_2244
      refine VW.skip (thenQ_normal (VW.subK (.c 0 rfl (.c 1 rfl (.c 2 rfl (.c 3 rfl (.c 9 rfl (.c 10 rfl (.c 11 rfl .n))))))) rfl (VW.draw 18 mix rfl (VA.t (i := 0) rfl (t_move rfl rfl) (.inl rfl) (by kernel_rfl) (VA.t (i := 1) rfl (t_move rfl rfl) (.inl rfl) (by kernel_rfl) (VA.t (i := 2) rfl (t_move rfl rfl) (.inl rfl) (by kernel_rfl) (VA.t (i := 3) rfl (t_move rfl rfl) (.inl rfl) (by kernel_rfl) (VA.t (i := 4) (v := .int .i64 (w64 (j_2223 - 1))) rfl (t_sub rfl rfl (fun _ _ => rfl) rfl) (.inl rfl) (by kernel_rfl) (VA.phase (g := 3) [5, 6, 7, 8, 9, 10, 11, 12, 13, 14] 10 ?_)))))))))
      refine VP.take (i := 5) rfl (TOp.r (t_move rfl rfl)) (.inl rfl) (by kernel_rfl) (VP.take (i := 6) rfl (TOp.r (t_move rfl rfl)) (.inl rfl) (by kernel_rfl) (VP.take (i := 7) (v := .int .i64 (w64 (j_2223 - 1))) rfl (TOp.r (t_sub rfl rfl (fun _ _ => rfl) rfl)) (.inl rfl) (by kernel_rfl) (VP.take (i := 8) (v := .ptr ob_2240 ((w64 (j_2223 - 1)).toNat * 2 + 0)) rfl (TOp.r (t_index_own rfl sl22 rfl rfl (getI_some hc_2241).1 (by rw [hl_2240]; exact getI_lt hc_2241) rfl)) (.inl rfl) (by kernel_rfl) (VP.take (i := 9) (v := .agg [.int .i64 c_2241.x0, .int .i64 c_2241.x1]) rfl (r_load_buf (n := 2) (f := 0) (j := 1) rfl sz49 rfl rfl hE_2240 (map_get (getI_some hc_2241).2 (Pr.c_eq c_2241)) (Nat.le_of_ble_eq_true rfl) (fun _ => ofCells_agg rfl)) (.inl rfl) (by kernel_rfl) (VP.take (i := 10) rfl (TOp.r (t_move rfl rfl)) (.inl rfl) (by kernel_rfl) (VP.take (i := 11) rfl (TOp.r (t_move rfl rfl)) (.inl rfl) (by kernel_rfl) (VP.take (i := 12) (v := .ptr ob_2240 (j_2223.toNat * 2 + 0)) rfl (TOp.r (t_index_own rfl sl22 rfl rfl (getI_some hc_2239).1 (by rw [hl_2240]; exact getI_lt hc_2239) rfl)) (.inl rfl) (by kernel_rfl) (VP.take (i := 13) (v := .agg [.int .i64 c_2239.x0, .int .i64 c_2239.x1]) rfl (r_load_buf (n := 2) (f := 0) (j := 1) rfl sz49 rfl rfl hE_2240 (map_get (getI_some hc_2239).2 (Pr.c_eq c_2239)) (Nat.le_of_ble_eq_true rfl) (fun _ => ofCells_agg rfl)) (.inl rfl) (by kernel_rfl) (VP.take (i := 14) (v := .ptr ob_2240 (j_2223.toNat * 2 + 0)) rfl (TOp.r (t_index_own rfl sl22 rfl rfl (getI_some hc_2239).1 (by rw [hl_2240]; exact getI_lt hc_2239) rfl)) (.inl rfl) (by kernel_rfl) ?_)))))))))
      refine VP.done (by kernel_rfl) (VA.w (i := 15) (fun v H' => .any = v ∧ H' = hq ([a3_g, [(ob_2240, .cells (((bu_2221.set j_2223.toNat c_2241).map Pr.c).flatten ++ sl_2240))]]) []) rfl (w_store_buf (n := 2) (f := 0) (j := 1) rfl sz49 rfl rfl rfl hE_2240 (map_get (getI_some hc_2239).2 (Pr.c_eq c_2239)) rfl rfl (Nat.le_of_ble_eq_true rfl) rfl (map_set (Pr.c_eq c_2241)) ⟨rfl, rfl⟩) (.inl rfl) (by kernel_rfl) rfl ?_)
      rintro _ _ ⟨rfl, rfl⟩
      have hl_2246 : len_2240 = (bu_2221.set j_2223.toNat c_2241).length := by simp [hl_2240]
      obtain ⟨c_2247, hc_2247, h⟩ := obind h
      refine VA.t (i := 16) (v := .ptr ob_2240 ((w64 (j_2223 - 1)).toNat * 2 + 0)) rfl (t_index_own rfl sl22 rfl rfl (getI_some hc_2247).1 (by rw [hl_2246]; exact getI_lt hc_2247) rfl) (.inl rfl) (by kernel_rfl) (VA.w (i := 17) (fun v H' => .any = v ∧ H' = hq ([a3_g, [(ob_2240, .cells ((((bu_2221.set j_2223.toNat c_2241).set (w64 (j_2223 - 1)).toNat c_2239).map Pr.c).flatten ++ sl_2240))]]) []) rfl (w_store_buf (n := 2) (f := 0) (j := 1) rfl sz49 rfl rfl rfl (elemsOK_map Pr.c_ok _) (map_get (getI_some hc_2247).2 (Pr.c_eq c_2247)) rfl rfl (Nat.le_of_ble_eq_true rfl) rfl (map_set (Pr.c_eq c_2239)) ⟨rfl, rfl⟩) (.inl rfl) (by kernel_rfl) rfl ?_)
      rintro _ _ ⟨rfl, rfl⟩
      have hl_2249 : len_2240 = ((bu_2221.set j_2223.toNat c_2241).set (w64 (j_2223 - 1)).toNat c_2239).length := by simp [hl_2246]
      refine VA.done (by kernel_rfl) (blockQ_normal (thenQ_normal (VW.subK (.c 0 rfl (.c 1 rfl (.c 2 rfl (.c 3 rfl (.c 9 rfl (.c 10 rfl (.c 11 rfl .n))))))) rfl (VW.region (VO.t (t_move rfl rfl) rfl rfl (VO.t (v := .int .i64 (w64 (j_2223 - 1))) (t_sub rfl rfl (fun _ _ => rfl) rfl) rfl rfl (VO.t (v := .int .i64 (w64 (j_2223 - 1))) (t_assign rfl rfl) rfl rfl (VO.nil (thenQ_normal (VL.round ?_))))))))))
      refine VW.subK (.c 0 rfl (.c 1 rfl (.c 2 rfl (.c 3 rfl (.c 9 rfl (.c 10 rfl (.c 11 rfl .n))))))) rfl ?_
      exact ih _ _ _ h (.own ob_2240 cap_2240 len_2240) [(ob_2240, .cells ((((bu_2221.set j_2223.toNat c_2241).set (w64 (j_2223 - 1)).toNat c_2239).map Pr.c).flatten ++ sl_2240))] (Buf.own (n := 2) (l := ((bu_2221.set j_2223.toNat c_2241).set (w64 (j_2223 - 1)).toNat c_2239).map Pr.c) ob_2240 cap_2240 len_2240 sl_2240 (elemsOK_map Pr.c_ok _) (by simp [hl_2249]) hc_2240 hs_2240) hx0
  · replace h := iteF h hc_2238
    refine VW.subK (.c 0 rfl (.c 1 rfl (.c 2 rfl (.c 3 rfl (.c 9 rfl (.c 10 rfl .n)))))) rfl (VW.exit (thenQ_exit (thenQ_exit ?_)))
    have h := Option.some.inj h
    subst h
    exact hx0 _ bp0_2222 rfl hbp0_2222

end Go.AV
