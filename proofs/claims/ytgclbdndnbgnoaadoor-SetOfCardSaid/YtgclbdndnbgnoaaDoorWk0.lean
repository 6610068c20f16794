/- The walks: each printed theorem says what a function of the program does. -/
import Derived.Test.YtgclbdndnbgnoaaDoorPl
import Derived.Test.YtgclbdndnbgnoaaDoorXw
import Derived.Test.YtgclbdndnbgnoaaDoorProg
namespace Go.AV
open Go.Proofs
set_option maxRecDepth 100000
set_option linter.all false

mutual
def Node.c : Node → List VV
  | ⟨a0, a1, a2, a3⟩ => [.int .i64 a0, .int .i64 a1, .int .i64 a2, .sl .fz (Node.cs a3)]
def Node.cs : List Node → List (List VV)
  | [] => []
  | k :: ks => Node.c k :: Node.cs ks
end
theorem Node.cs_eq : ∀ ks, Node.cs ks = ks.map Node.c
  | [] => by simp [Node.cs]
  | k :: ks => by simp [Node.cs, Node.cs_eq ks]
theorem Node.c_eq (x : Node) : Node.c x = [.int .i64 x.Op, .int .i64 x.Lo, .int .i64 x.Hi, .sl .fz (x.Kids.map Node.c)] := by
  cases x; simp [Node.c, Node.cs_eq]
@[reducible] def Node.l (x : Node) : List VV := [.int .i64 x.Op, .int .i64 x.Lo, .int .i64 x.Hi, .sl .fz (x.Kids.map Node.c)]
theorem Node.c_ok (x : Node) : (Node.c x).length = 4 ∧ (Node.c x).all isScalar = true := by rw [Node.c_eq]; exact ⟨rfl, rfl⟩

def Pr.c (x : Pr) : List VV := [.int .i64 x.x0, .int .i64 x.x1]
theorem Pr.c_eq (x : Pr) : Pr.c x = [.int .i64 x.x0, .int .i64 x.x1] := rfl
theorem Pr.c_ok (x : Pr) : (Pr.c x).length = 2 ∧ (Pr.c x).all isScalar = true := by rw [Pr.c_eq]; exact ⟨rfl, rfl⟩

def GoType.c (x : GoType) : List VV := [.int .i64 x.Kind, .str x.Name, .int .i64 x.Lo, .int .i64 x.Hi, .bool x.Free, .bool x.Ext, .sl .fz (x.Items.map cRaw), .sl .fz (x.Kids.map cRaw)]
theorem GoType.c_eq (x : GoType) : GoType.c x = [.int .i64 x.Kind, .str x.Name, .int .i64 x.Lo, .int .i64 x.Hi, .bool x.Free, .bool x.Ext, .sl .fz (x.Items.map cRaw), .sl .fz (x.Kids.map cRaw)] := rfl
theorem GoType.c_ok (x : GoType) : (GoType.c x).length = 8 ∧ (GoType.c x).all isScalar = true := by rw [GoType.c_eq]; exact ⟨rfl, rfl⟩

theorem sz22 : SizeTy Tryd.prog 22 1 false := SizeTy.of Tryd.underlying22 (by kernel_rfl) rfl
theorem fi24_3 : FieldTy Tryd.prog 24 3 3 1 false := FieldTy.of Tryd.underlying24 rfl sz22 (Nat.le_of_ble_eq_true rfl)
theorem sl22 : SliceTy Tryd.prog 22 24 4 := SliceTy.of Tryd.underlying22 (by kernel_rfl)
theorem sz24 : SizeTy Tryd.prog 24 4 true := SizeTy.of Tryd.underlying24 (by kernel_rfl) rfl
theorem fn20 : FnOK Tryd.prog 20 := FnOK.of Tryd.func20 (by kernel_rfl) (by kernel_rfl)
theorem sz27 : SizeTy Tryd.prog 27 1 false := SizeTy.of Tryd.underlying27 (by kernel_rfl) rfl
theorem fi29_3 : FieldTy Tryd.prog 29 3 3 1 false := FieldTy.of Tryd.underlying29 rfl sz27 (Nat.le_of_ble_eq_true rfl)
theorem sl27 : SliceTy Tryd.prog 27 29 4 := SliceTy.of Tryd.underlying27 (by kernel_rfl)
theorem sz29 : SizeTy Tryd.prog 29 4 true := SizeTy.of Tryd.underlying29 (by kernel_rfl) rfl
theorem zt29 : ZeroTy Tryd.prog 29 [.int .i64 0, .int .i64 0, .int .i64 0, .sl .nl []] := ZeroTy.of (vs := [.int .i64 0, .int .i64 0, .int .i64 0, .slice none 0 0]) (by kernel_rfl) (fun _ _ => ⟨_, _, rfl, rfl, _, _, rfl, rfl, _, _, rfl, rfl, _, _, rfl, .inl ⟨rfl, .inl rfl⟩, rfl⟩)
theorem fn37 : FnOK Tryd.prog 37 := FnOK.of Tryd.func37 (by kernel_rfl) (by kernel_rfl)
theorem fn38 : FnOK Tryd.prog 38 := FnOK.of Tryd.func38 (by kernel_rfl) (by kernel_rfl)
theorem fn54 : FnOK Tryd.prog 54 := FnOK.of Tryd.func54 (by kernel_rfl) (by kernel_rfl)
theorem fn59 : FnOK Tryd.prog 59 := FnOK.of Tryd.func59 (by kernel_rfl) (by kernel_rfl)
theorem sz3 : SizeTy Tryd.prog 3 1 false := SizeTy.of Tryd.underlying3 (by kernel_rfl) rfl
theorem fi29_0 : FieldTy Tryd.prog 29 0 0 1 false := FieldTy.of Tryd.underlying29 rfl sz3 (Nat.le_of_ble_eq_true rfl)
theorem fn48 : FnOK Tryd.prog 48 := FnOK.of Tryd.func48 (by kernel_rfl) (by kernel_rfl)
theorem fi29_1 : FieldTy Tryd.prog 29 1 1 1 false := FieldTy.of Tryd.underlying29 rfl sz3 (Nat.le_of_ble_eq_true rfl)
theorem fi29_2 : FieldTy Tryd.prog 29 2 2 1 false := FieldTy.of Tryd.underlying29 rfl sz3 (Nat.le_of_ble_eq_true rfl)
theorem sl31 : SliceTy Tryd.prog 31 59 2 := SliceTy.of Tryd.underlying31 (by kernel_rfl)
theorem sz59 : SizeTy Tryd.prog 59 2 true := SizeTy.of Tryd.underlying59 (by kernel_rfl) rfl
theorem mix : Tryd.prog.follows .mixedOrders = true := by kernel_rfl
theorem fn86 : FnOK Tryd.prog 86 := FnOK.of Tryd.func86 (by kernel_rfl) (by kernel_rfl)
theorem fn79 : FnOK Tryd.prog 79 := FnOK.of Tryd.func79 (by kernel_rfl) (by kernel_rfl)
theorem fn65 : FnOK Tryd.prog 65 := FnOK.of Tryd.func65 (by kernel_rfl) (by kernel_rfl)
theorem sz129 : SizeTy Tryd.prog 129 1 false := SizeTy.of Tryd.underlying129 (by kernel_rfl) rfl
theorem zt129 : ZeroTy Tryd.prog 129 [.int .u64 0] := ZeroTy.of (vs := [.int .u64 0]) (by kernel_rfl) (fun _ _ => ⟨_, _, rfl, rfl, rfl⟩)
theorem fn87 : FnOK Tryd.prog 87 := FnOK.of Tryd.func87 (by kernel_rfl) (by kernel_rfl)
theorem fn88 : FnOK Tryd.prog 88 := FnOK.of Tryd.func88 (by kernel_rfl) (by kernel_rfl)
theorem fn95 : FnOK Tryd.prog 95 := FnOK.of Tryd.func95 (by kernel_rfl) (by kernel_rfl)
theorem fn90 : FnOK Tryd.prog 90 := FnOK.of Tryd.func90 (by kernel_rfl) (by kernel_rfl)
theorem zt3 : ZeroTy Tryd.prog 3 [.int .i64 0] := ZeroTy.of (vs := [.int .i64 0]) (by kernel_rfl) (fun _ _ => ⟨_, _, rfl, rfl, rfl⟩)
theorem fn89 : FnOK Tryd.prog 89 := FnOK.of Tryd.func89 (by kernel_rfl) (by kernel_rfl)
theorem fn70 : FnOK Tryd.prog 70 := FnOK.of Tryd.func70 (by kernel_rfl) (by kernel_rfl)
theorem fn71 : FnOK Tryd.prog 71 := FnOK.of Tryd.func71 (by kernel_rfl) (by kernel_rfl)
theorem fn73 : FnOK Tryd.prog 73 := FnOK.of Tryd.func73 (by kernel_rfl) (by kernel_rfl)
theorem fn76 : FnOK Tryd.prog 76 := FnOK.of Tryd.func76 (by kernel_rfl) (by kernel_rfl)
theorem fn77 : FnOK Tryd.prog 77 := FnOK.of Tryd.func77 (by kernel_rfl) (by kernel_rfl)
theorem fn64 : FnOK Tryd.prog 64 := FnOK.of Tryd.func64 (by kernel_rfl) (by kernel_rfl)
theorem fn75 : FnOK Tryd.prog 75 := FnOK.of Tryd.func75 (by kernel_rfl) (by kernel_rfl)
theorem fn74 : FnOK Tryd.prog 74 := FnOK.of Tryd.func74 (by kernel_rfl) (by kernel_rfl)
theorem fn72 : FnOK Tryd.prog 72 := FnOK.of Tryd.func72 (by kernel_rfl) (by kernel_rfl)
theorem fn66 : FnOK Tryd.prog 66 := FnOK.of Tryd.func66 (by kernel_rfl) (by kernel_rfl)
theorem ar59 : ArrTy Tryd.prog 59 2 3 1 := ArrTy.of Tryd.underlying59 (by kernel_rfl)
theorem fn57 : FnOK Tryd.prog 57 := FnOK.of Tryd.func57 (by kernel_rfl) (by kernel_rfl)
theorem fn56 : FnOK Tryd.prog 56 := FnOK.of Tryd.func56 (by kernel_rfl) (by kernel_rfl)
theorem fn55 : FnOK Tryd.prog 55 := FnOK.of Tryd.func55 (by kernel_rfl) (by kernel_rfl)
theorem zt59 : ZeroTy Tryd.prog 59 [.int .i64 0, .int .i64 0] := ZeroTy.of (vs := [.int .i64 0, .int .i64 0]) (by kernel_rfl) (fun _ _ => ⟨_, _, rfl, rfl, _, _, rfl, rfl, rfl⟩)
theorem el31 : ElemTy Tryd.prog 31 59 2 16 := ElemTy.of Tryd.underlying31 (by kernel_rfl) (Nat.le_of_ble_eq_true rfl)
theorem mk31 : MakeTy Tryd.prog 31 59 2 16 [.int .i64 0, .int .i64 0] := MakeTy.of (vs := [.int .i64 0, .int .i64 0]) Tryd.underlying31 (by kernel_rfl) rfl (Nat.le_of_ble_eq_true rfl) (fun _ _ => ⟨_, _, rfl, rfl, _, _, rfl, rfl, rfl⟩)
theorem sl75 : SliceTy Tryd.prog 75 31 1 := SliceTy.of Tryd.underlying75 (by kernel_rfl)
theorem sz31 : SizeTy Tryd.prog 31 1 false := SizeTy.of Tryd.underlying31 (by kernel_rfl) rfl
theorem fn58 : FnOK Tryd.prog 58 := FnOK.of Tryd.func58 (by kernel_rfl) (by kernel_rfl)
theorem av59 : ArrValTy Tryd.prog 59 2 1 [.int .i64 0, .int .i64 0] := ArrValTy.of 2 (vs := [.int .i64 0, .int .i64 0]) Tryd.underlying59 (by kernel_rfl) (by kernel_rfl) (fun _ _ => ⟨_, _, rfl, rfl, _, _, rfl, rfl, rfl⟩)
theorem fn24 : FnOK Tryd.prog 24 := FnOK.of Tryd.func24 (by kernel_rfl) (by kernel_rfl)
theorem el75 : ElemTy Tryd.prog 75 31 1 24 := ElemTy.of Tryd.underlying75 (by kernel_rfl) (Nat.le_of_ble_eq_true rfl)
theorem fn40 : FnOK Tryd.prog 40 := FnOK.of Tryd.func40 (by kernel_rfl) (by kernel_rfl)
theorem fn39 : FnOK Tryd.prog 39 := FnOK.of Tryd.func39 (by kernel_rfl) (by kernel_rfl)
theorem fn41 : FnOK Tryd.prog 41 := FnOK.of Tryd.func41 (by kernel_rfl) (by kernel_rfl)
theorem fn42 : FnOK Tryd.prog 42 := FnOK.of Tryd.func42 (by kernel_rfl) (by kernel_rfl)
theorem fn22 : FnOK Tryd.prog 22 := FnOK.of Tryd.func22 (by kernel_rfl) (by kernel_rfl)
theorem fn23 : FnOK Tryd.prog 23 := FnOK.of Tryd.func23 (by kernel_rfl) (by kernel_rfl)
theorem ae59 : AeqTy Tryd.prog 59 := AeqTy.of Tryd.underlying59 Tryd.underlying3 sz3 (by kernel_rfl)
theorem fn36 : FnOK Tryd.prog 36 := FnOK.of Tryd.func36 (by kernel_rfl) (by kernel_rfl)
theorem st29 : StructTy Tryd.prog 29 [(0, 1), (1, 1), (2, 1), (3, 1)] [.int .i64 0, .int .i64 0, .int .i64 0, .sl .nl []] := StructTy.of 4 (vs := [.int .i64 0, .int .i64 0, .int .i64 0, .slice none 0 0]) Tryd.underlying29 (by kernel_rfl) (by kernel_rfl) (fun _ _ => ⟨_, _, rfl, rfl, _, _, rfl, rfl, _, _, rfl, rfl, _, _, rfl, .inl ⟨rfl, .inl rfl⟩, rfl⟩)
theorem el27 : ElemTy Tryd.prog 27 29 4 48 := ElemTy.of Tryd.underlying27 (by kernel_rfl) (Nat.le_of_ble_eq_true rfl)
theorem fn7 : FnOK Tryd.prog 7 := FnOK.of Tryd.func7 (by kernel_rfl) (by kernel_rfl)
theorem fn21 : FnOK Tryd.prog 21 := FnOK.of Tryd.func21 (by kernel_rfl) (by kernel_rfl)
theorem fn9 : FnOK Tryd.prog 9 := FnOK.of Tryd.func9 (by kernel_rfl) (by kernel_rfl)
theorem fi24_0 : FieldTy Tryd.prog 24 0 0 1 false := FieldTy.of Tryd.underlying24 rfl sz3 (Nat.le_of_ble_eq_true rfl)
theorem fi24_1 : FieldTy Tryd.prog 24 1 1 1 false := FieldTy.of Tryd.underlying24 rfl sz3 (Nat.le_of_ble_eq_true rfl)
theorem fi24_2 : FieldTy Tryd.prog 24 2 2 1 false := FieldTy.of Tryd.underlying24 rfl sz3 (Nat.le_of_ble_eq_true rfl)
theorem fn6 : FnOK Tryd.prog 6 := FnOK.of Tryd.func6 (by kernel_rfl) (by kernel_rfl)
theorem fn43 : FnOK Tryd.prog 43 := FnOK.of Tryd.func43 (by kernel_rfl) (by kernel_rfl)
theorem fn44 : FnOK Tryd.prog 44 := FnOK.of Tryd.func44 (by kernel_rfl) (by kernel_rfl)
theorem sl80 : SliceTy Tryd.prog 80 3 1 := SliceTy.of Tryd.underlying80 (by kernel_rfl)
theorem el80 : ElemTy Tryd.prog 80 3 1 8 := ElemTy.of Tryd.underlying80 (by kernel_rfl) (Nat.le_of_ble_eq_true rfl)
theorem fn46 : FnOK Tryd.prog 46 := FnOK.of Tryd.func46 (by kernel_rfl) (by kernel_rfl)
theorem fn45 : FnOK Tryd.prog 45 := FnOK.of Tryd.func45 (by kernel_rfl) (by kernel_rfl)
theorem fn47 : FnOK Tryd.prog 47 := FnOK.of Tryd.func47 (by kernel_rfl) (by kernel_rfl)
theorem fn25 : FnOK Tryd.prog 25 := FnOK.of Tryd.func25 (by kernel_rfl) (by kernel_rfl)
theorem fn27 : FnOK Tryd.prog 27 := FnOK.of Tryd.func27 (by kernel_rfl) (by kernel_rfl)
theorem fn26 : FnOK Tryd.prog 26 := FnOK.of Tryd.func26 (by kernel_rfl) (by kernel_rfl)
theorem fn28 : FnOK Tryd.prog 28 := FnOK.of Tryd.func28 (by kernel_rfl) (by kernel_rfl)
theorem fn49 : FnOK Tryd.prog 49 := FnOK.of Tryd.func49 (by kernel_rfl) (by kernel_rfl)
theorem fn29 : FnOK Tryd.prog 29 := FnOK.of Tryd.func29 (by kernel_rfl) (by kernel_rfl)
theorem fn30 : FnOK Tryd.prog 30 := FnOK.of Tryd.func30 (by kernel_rfl) (by kernel_rfl)
theorem zt24 : ZeroTy Tryd.prog 24 [.int .i64 0, .int .i64 0, .int .i64 0, .sl .nl []] := ZeroTy.of (vs := [.int .i64 0, .int .i64 0, .int .i64 0, .slice none 0 0]) (by kernel_rfl) (fun _ _ => ⟨_, _, rfl, rfl, _, _, rfl, rfl, _, _, rfl, rfl, _, _, rfl, .inl ⟨rfl, .inl rfl⟩, rfl⟩)
theorem fn31 : FnOK Tryd.prog 31 := FnOK.of Tryd.func31 (by kernel_rfl) (by kernel_rfl)
theorem st24 : StructTy Tryd.prog 24 [(0, 1), (1, 1), (2, 1), (3, 1)] [.int .i64 0, .int .i64 0, .int .i64 0, .sl .nl []] := StructTy.of 4 (vs := [.int .i64 0, .int .i64 0, .int .i64 0, .slice none 0 0]) Tryd.underlying24 (by kernel_rfl) (by kernel_rfl) (fun _ _ => ⟨_, _, rfl, rfl, _, _, rfl, rfl, _, _, rfl, rfl, _, _, rfl, .inl ⟨rfl, .inl rfl⟩, rfl⟩)
theorem el22 : ElemTy Tryd.prog 22 24 4 48 := ElemTy.of Tryd.underlying22 (by kernel_rfl) (Nat.le_of_ble_eq_true rfl)
theorem fn14 : FnOK Tryd.prog 14 := FnOK.of Tryd.func14 (by kernel_rfl) (by kernel_rfl)
theorem fn15 : FnOK Tryd.prog 15 := FnOK.of Tryd.func15 (by kernel_rfl) (by kernel_rfl)
theorem fn50 : FnOK Tryd.prog 50 := FnOK.of Tryd.func50 (by kernel_rfl) (by kernel_rfl)
theorem fn32 : FnOK Tryd.prog 32 := FnOK.of Tryd.func32 (by kernel_rfl) (by kernel_rfl)
theorem el86 : ElemTy Tryd.prog 86 9 1 16 := ElemTy.of Tryd.underlying86 (by kernel_rfl) (Nat.le_of_ble_eq_true rfl)
theorem fn52 : FnOK Tryd.prog 52 := FnOK.of Tryd.func52 (by kernel_rfl) (by kernel_rfl)
theorem fn51 : FnOK Tryd.prog 51 := FnOK.of Tryd.func51 (by kernel_rfl) (by kernel_rfl)
theorem fn33 : FnOK Tryd.prog 33 := FnOK.of Tryd.func33 (by kernel_rfl) (by kernel_rfl)
theorem zt52 : ZeroTy Tryd.prog 52 [.int .i64 0, .str ByteArray.empty, .int .i64 0, .int .i64 0, .bool false, .bool false, .sl .nl [], .sl .nl []] := ZeroTy.of (vs := [.int .i64 0, .string ⟨#[]⟩, .int .i64 0, .int .i64 0, .bool false, .bool false, .slice none 0 0, .slice none 0 0]) (by kernel_rfl) (fun _ _ => ⟨_, _, rfl, rfl, _, _, rfl, rfl, _, _, rfl, rfl, _, _, rfl, rfl, _, _, rfl, rfl, _, _, rfl, rfl, _, _, rfl, .inl ⟨rfl, .inl rfl⟩, _, _, rfl, .inl ⟨rfl, .inl rfl⟩, rfl⟩)
theorem st52 : StructTy Tryd.prog 52 [(0, 1), (1, 1), (2, 1), (3, 1), (4, 1), (5, 1), (6, 1), (7, 1)] [.int .i64 0, .str ByteArray.empty, .int .i64 0, .int .i64 0, .bool false, .bool false, .sl .nl [], .sl .nl []] := StructTy.of 8 (vs := [.int .i64 0, .string ⟨#[]⟩, .int .i64 0, .int .i64 0, .bool false, .bool false, .slice none 0 0, .slice none 0 0]) Tryd.underlying52 (by kernel_rfl) (by kernel_rfl) (fun _ _ => ⟨_, _, rfl, rfl, _, _, rfl, rfl, _, _, rfl, rfl, _, _, rfl, rfl, _, _, rfl, rfl, _, _, rfl, rfl, _, _, rfl, .inl ⟨rfl, .inl rfl⟩, _, _, rfl, .inl ⟨rfl, .inl rfl⟩, rfl⟩)
theorem sz52 : SizeTy Tryd.prog 52 8 true := SizeTy.of Tryd.underlying52 (by kernel_rfl) rfl
theorem fn34 : FnOK Tryd.prog 34 := FnOK.of Tryd.func34 (by kernel_rfl) (by kernel_rfl)
theorem fn53 : FnOK Tryd.prog 53 := FnOK.of Tryd.func53 (by kernel_rfl) (by kernel_rfl)
theorem fn8 : FnOK Tryd.prog 8 := FnOK.of Tryd.func8 (by kernel_rfl) (by kernel_rfl)
theorem fn35 : FnOK Tryd.prog 35 := FnOK.of Tryd.func35 (by kernel_rfl) (by kernel_rfl)
theorem fn4 : FnOK Tryd.prog 4 := FnOK.of Tryd.func4 (by kernel_rfl) (by kernel_rfl)
theorem fn5 : FnOK Tryd.prog 5 := FnOK.of Tryd.func5 (by kernel_rfl) (by kernel_rfl)
theorem fn10 : FnOK Tryd.prog 10 := FnOK.of Tryd.func10 (by kernel_rfl) (by kernel_rfl)
theorem fn11 : FnOK Tryd.prog 11 := FnOK.of Tryd.func11 (by kernel_rfl) (by kernel_rfl)
theorem fn12 : FnOK Tryd.prog 12 := FnOK.of Tryd.func12 (by kernel_rfl) (by kernel_rfl)
theorem fn13 : FnOK Tryd.prog 13 := FnOK.of Tryd.func13 (by kernel_rfl) (by kernel_rfl)
theorem fn16 : FnOK Tryd.prog 16 := FnOK.of Tryd.func16 (by kernel_rfl) (by kernel_rfl)
theorem fn17 : FnOK Tryd.prog 17 := FnOK.of Tryd.func17 (by kernel_rfl) (by kernel_rfl)
theorem fn18 : FnOK Tryd.prog 18 := FnOK.of Tryd.func18 (by kernel_rfl) (by kernel_rfl)
theorem fn19 : FnOK Tryd.prog 19 := FnOK.of Tryd.func19 (by kernel_rfl) (by kernel_rfl)
theorem fi52_0 : FieldTy Tryd.prog 52 0 0 1 false := FieldTy.of Tryd.underlying52 rfl sz3 (Nat.le_of_ble_eq_true rfl)
theorem fi52_2 : FieldTy Tryd.prog 52 2 2 1 false := FieldTy.of Tryd.underlying52 rfl sz3 (Nat.le_of_ble_eq_true rfl)
theorem fi52_3 : FieldTy Tryd.prog 52 3 3 1 false := FieldTy.of Tryd.underlying52 rfl sz3 (Nat.le_of_ble_eq_true rfl)
theorem sz4 : SizeTy Tryd.prog 4 1 false := SizeTy.of Tryd.underlying4 (by kernel_rfl) rfl
theorem fi52_4 : FieldTy Tryd.prog 52 4 4 1 false := FieldTy.of Tryd.underlying52 rfl sz4 (Nat.le_of_ble_eq_true rfl)
theorem fi52_5 : FieldTy Tryd.prog 52 5 5 1 false := FieldTy.of Tryd.underlying52 rfl sz4 (Nat.le_of_ble_eq_true rfl)
theorem sz9 : SizeTy Tryd.prog 9 1 false := SizeTy.of Tryd.underlying9 (by kernel_rfl) rfl
theorem fi52_1 : FieldTy Tryd.prog 52 1 1 1 false := FieldTy.of Tryd.underlying52 rfl sz9 (Nat.le_of_ble_eq_true rfl)
theorem sz49 : SizeTy Tryd.prog 49 1 false := SizeTy.of Tryd.underlying49 (by kernel_rfl) rfl
theorem fi52_6 : FieldTy Tryd.prog 52 6 6 1 false := FieldTy.of Tryd.underlying52 rfl sz49 (Nat.le_of_ble_eq_true rfl)
theorem sz50 : SizeTy Tryd.prog 50 1 false := SizeTy.of Tryd.underlying50 (by kernel_rfl) rfl
theorem fi52_7 : FieldTy Tryd.prog 52 7 7 1 false := FieldTy.of Tryd.underlying52 rfl sz50 (Nat.le_of_ble_eq_true rfl)

theorem law03_count_ok (a0 : Node) (a1 : Int) (r : Int) (h : PL.law03_count a0 a1 = some r) :
    VCalls Tryd.prog 20 [.agg (Node.l a0), .i a1] (hq [] []) (fun v H => .i r = v ∧ H = hq [] []) := by
  revert h
  refine (PL.law03_count.l0.mutual_partial_correctness (motive_1 := fun a0 left_0 i_1 o => ∀ (Q : Exit → Env → HH → Prop) (ob_2 : Nat) (hx0 : ∀ (left_3 : Int), left_3 = o → Q (.exit 0) ⟨[(1, .i left_3)], []⟩ (hq [] [])), VW Tryd.prog 27 (codeAt [1, 1, 0, 1, 0, 0] (bodyOf Tryd.f20)) (thenQ (VL Tryd.prog 27 (codeAt [1, 1, 0, 1, 0, 0] (bodyOf Tryd.f20)) Q) Q) ⟨[(2, .ptr ob_2 0), (1, .i left_0), (5, .i i_1)], []⟩ (hq ([[(ob_2, .cells (Node.l a0))]]) [])) (motive_2 := fun a0 a1 r => VCalls Tryd.prog 20 [.agg (Node.l a0), .i a1] (hq [] []) (fun v H => .i r = v ∧ H = hq [] [])) ?_ ?_).2 a0 a1 r
  · intro _ _ ih_law03_count_l0 ih_law03_count a0 left_0 i_1 o h Q ob_2 hx0
    refine VW.seq (VW.q (VO.m rfl rfl (VO.t (v := .ptr ob_2 3) (t_fieldAddr_ptr rfl fi24_3 rfl rfl) rfl rfl (VO.r (v := .sl .fz (a0.Kids.map Node.c)) (r_load_q (i := 0) rfl sz22 rfl rfl rfl) rfl rfl (VO.t (v := .i (a0.Kids.length : Int)) (t_len rfl ⟨_, Tryd.underlying22⟩ rfl (by rw [List.length_map])) rfl rfl (VO.t (v := .bool (decide (i_1 < (a0.Kids.length : Int)))) (t_cmp rfl rfl rfl rfl rfl) rfl rfl (VO.m rfl rfl ?_)))))))
    refine VO.caseB (d := 13) (b := (decide (i_1 < (a0.Kids.length : Int)))) rfl (fun hc_4 => ?_) (fun hc_4 => ?_)
    · replace h := iteT h hc_4
      refine VO.gt (v := .i left_0) (t_move rfl rfl) rfl rfl rfl rfl (VO.gt (v := .bool (decide (left_0 > 0))) (t_cmp rfl rfl rfl (fun _ _ => rfl) rfl) rfl rfl rfl rfl (VO.t (v := .bool (decide (left_0 > 0))) (t_pick (b := true) rfl rfl (fun _ => rfl) (fun h => by cases h)) rfl rfl (VO.n (VW.k6 2 1 5 14 15 16 rfl ?_))))
      refine VW.cond (b := (decide (left_0 > 0))) rfl (fun hc_5 => ?_) (fun hc_5 => ?_)
      · replace h := iteT h hc_5
        refine VW.skip (thenQ_normal (VW.k5 2 1 5 14 15 rfl (VW.seq (VW.block (VW.region (VO.t (v := .ptr ob_2 3) (t_fieldAddr_ptr rfl fi24_3 rfl rfl) rfl rfl (VO.r (v := .sl .fz (a0.Kids.map Node.c)) (r_load_q (i := 0) rfl sz22 rfl rfl rfl) rfl rfl (VO.m rfl rfl ?_))))))))
        obtain ⟨c_6, hc_6, h⟩ := obind h
        refine VO.t (v := .vptr (Node.l c_6)) (t_indexAddr rfl sl22 rfl rfl (getI_some hc_6).1 (map_get (getI_some hc_6).2 (Node.c_eq c_6)) rfl) rfl rfl (VO.r (v := .agg (Node.l c_6)) (r_load_v rfl sz24 rfl rfl) rfl rfl (VO.m rfl rfl ?_))
        obtain ⟨rv_7, hx_8, h⟩ := obind h
        refine VO.k (w_keep rfl fn20 rfl ⟨_, _, rfl, rfl, _, _, rfl, rfl, rfl⟩ (ih_law03_count _ _ _ hx_8)) rfl rfl (VO.a (v := .i rv_7) rfl rfl (VO.nil (blockQ_normal (thenQ_normal (VW.k5 2 5 14 15 1 rfl (VW.region (VO.m rfl rfl (VO.t (v := .i (w64 (i_1 + 1))) (t_add rfl rfl (fun _ _ => rfl) rfl) rfl rfl (VO.a (v := .i (w64 (i_1 + 1))) rfl rfl ?_)))))))))
        refine VO.nil (thenQ_normal (VL.round ?_))
        refine VW.k3 2 1 5 rfl ?_
        exact ih_law03_count_l0 _ _ _ _ h _ ob_2 hx0
      · replace h := iteF h hc_5
        refine VW.k1 1 rfl (VW.hsub (A := hq [] []) (hq_sub (.cons _ .slnil) .slnil) (VW.exit (thenQ_exit (thenQ_exit ?_))))
        obtain rfl := oi h
        exact hx0 _ rfl
    · replace h := iteF h hc_4
      refine VO.s rfl (VO.s rfl (VO.t (v := .bool false) (t_pick (b := false) rfl rfl (fun h => by cases h) (fun _ => (fun _ _ => rfl))) rfl rfl (VO.n (VW.k6 2 1 5 14 15 16 rfl (VW.condF rfl (VW.k1 1 rfl (VW.hsub (A := hq [] []) (hq_sub (.cons _ .slnil) .slnil) (VW.exit (thenQ_exit ?_)))))))))
      refine thenQ_exit ?_
      obtain rfl := oi h
      exact hx0 _ rfl
  · intro _ ih_law03_count_l0 a0 a1 r h 
    refine VCalls.of_body 27 [4] Tryd.func20 rfl rfl rfl (nle rfl) (VW.k2 0 1 rfl (VW.q (VO.w (fun v H' => ∃ ob_2, .ptr ob_2 0 = v ∧ H' = hq ([[(ob_2, .cells (Node.l a0))]]) []) (w_box_q rfl rfl rfl (fun ob => ⟨ob, rfl, rfl⟩)) rfl rfl ?_)))
    rintro _ _ ⟨ob_2, rfl, rfl⟩
    refine VO.a (v := .i 0) rfl (fun _ _ => rfl) (VO.n (VW.k2 1 2 rfl (VW.q (VO.m rfl rfl (VO.t (v := .i (w64 (a1 - 1))) (t_sub rfl rfl (fun _ _ => rfl) rfl) rfl rfl (VO.a (v := .i (w64 (a1 - 1))) rfl rfl (VO.n (VW.k2 2 1 rfl (VW.seq ?_)))))))))
    refine VW.q (VO.a (v := .i 0) rfl (fun _ _ => rfl) (VO.n (VW.block (VW.k3 2 1 5 rfl ?_))))
    obtain ⟨o_9, hx_10, h⟩ := obind h
    refine VW.loopL (ih_law03_count_l0 _ _ _ _ hx_10 _ ob_2 ?_)
    · intro left_3 ho_
      subst ho_
      try dsimp only at h
      refine blockQ_hit (thenQ_normal (VW.q (VO.m rfl rfl (VO.a (v := .i left_3) rfl rfl (VO.n (VW.ret ?_))))))
      cases oi h
      exact ret0 rfl rfl ⟨rfl, rfl⟩

theorem law03_large_ok (a0 : Node) (r : Bool) (h : PL.law03_large a0 = some r) :
    VCalls Tryd.prog 4 [.agg (Node.l a0)] (hq [] []) (fun v H => .bool r = v ∧ H = hq [] []) := by
  unfold PL.law03_large at h
  refine VCalls.of_body 6 [2] Tryd.func4 rfl rfl rfl (nle rfl) (VW.k1 0 rfl (VW.q (VO.w (fun v H' => ∃ ob_0, .ptr ob_0 0 = v ∧ H' = hq ([[(ob_0, .cells (Node.l a0))]]) []) (w_box_q rfl rfl rfl (fun ob => ⟨ob, rfl, rfl⟩)) rfl rfl ?_)))
  rintro _ _ ⟨ob_0, rfl, rfl⟩
  refine VO.a (v := .bool false) rfl (fun _ _ => rfl) (VO.n (VW.k1 1 rfl (VW.q (VO.r (v := .agg (Node.l a0)) (r_load_q (i := 0) rfl sz24 rfl rfl rfl) rfl rfl ?_))))
  obtain ⟨rv_1, hx_2, h⟩ := obind h
  refine VO.k (w_keep rfl fn20 rfl ⟨_, _, rfl, rfl, .i 400, _, rfl, (fun _ _ => rfl), rfl⟩ (law03_count_ok _ _ _ hx_2)) rfl rfl (VO.t (v := .bool (decide (rv_1 ≤ 0))) (t_cmp rfl rfl rfl (fun _ _ => rfl) rfl) rfl rfl (VO.a (v := .bool (decide (rv_1 ≤ 0))) rfl rfl (VO.n (VW.ret ?_))))
  cases oi h
  exact ret0 rfl rfl ⟨rfl, rfl⟩

theorem set_size_ok (a0 : Node) (r : Int × Int) (h : PL.set_size a0 = some r) :
    VCalls Tryd.prog 37 [.agg (Node.l a0)] (hq [] []) (fun v H => .tup [.i r.1, .i r.2] = v ∧ H = hq [] []) := by
  revert h
  refine (PL.set_size.l0.mutual_partial_correctness (motive_1 := fun a0 deep_0 nodes_1 x_2 o => ∀ (Q : Exit → Env → HH → Prop) (hx0 : ∀ (deep_3 : Int) (nodes_4 : Int), (deep_3, nodes_4) = o → Q (.exit 0) ⟨[(3, .i deep_3), (2, .i nodes_4)], []⟩ (hq [] [])), VW Tryd.prog 30 (codeAt [1, 1, 0, 1, 0, 0] (bodyOf Tryd.f37)) (thenQ (VL Tryd.prog 30 (codeAt [1, 1, 0, 1, 0, 0] (bodyOf Tryd.f37)) Q) Q) ⟨[(3, .i deep_0), (2, .i nodes_1), (9, .sl .fz (a0.Kids.map Node.c)), (10, .i (a0.Kids.length : Int)), (11, .i x_2)], []⟩ (hq [] [])) (motive_2 := fun a0 r => VCalls Tryd.prog 37 [.agg (Node.l a0)] (hq [] []) (fun v H => .tup [.i r.1, .i r.2] = v ∧ H = hq [] [])) ?_ ?_).2 a0 r
  · intro _ _ ih_set_size_l0 ih_set_size a0 deep_0 nodes_1 x_2 o h Q hx0
    refine VW.q (VO.t (v := .bool (decide (x_2 < (a0.Kids.length : Int)))) (t_cmp rfl rfl rfl rfl rfl) rfl rfl (VO.n (VW.seq ?_)))
    refine VW.cond (b := (decide (x_2 < (a0.Kids.length : Int)))) rfl (fun hc_5 => ?_) (fun hc_5 => ?_)
    · replace h := iteT h hc_5
      refine VW.skip (thenQ_normal (VW.k5 3 2 9 10 11 rfl (VW.seq (VW.block (VW.q ?_)))))
      obtain ⟨c_6, hc_6, h⟩ := obind h
      refine VO.t (v := .vptr (Node.l c_6)) (t_indexAddr rfl sl27 rfl rfl (getI_some hc_6).1 (map_get (getI_some hc_6).2 (Node.c_eq c_6)) rfl) rfl rfl (VO.r (v := .agg (Node.l c_6)) (r_load_v rfl sz29 rfl rfl) rfl rfl (VO.w (fun v H' => ∃ ob_7, .ptr ob_7 0 = v ∧ H' = hq ([[(ob_7, .cells [.i 0, .i 0, .i 0, .sl .nl []])]]) []) (w_alloc_q rfl zt29 (fun ob => ⟨ob, rfl, rfl⟩)) rfl rfl ?_))
      rintro _ _ ⟨ob_7, rfl, rfl⟩
      refine VO.w (fun v H' => .any = v ∧ H' = hq ([[(ob_7, .cells (Node.l c_6))]]) []) (w_store_q (i := 0) rfl sz29 rfl rfl rfl rfl rfl (nle rfl) ⟨rfl, rfl⟩) rfl rfl ?_
      rintro _ _ ⟨rfl, rfl⟩
      refine VO.n (VW.k6 3 2 9 10 11 5 rfl (VW.q (VO.r (v := .agg (Node.l c_6)) (r_load_q (i := 0) rfl sz29 rfl rfl rfl) rfl rfl ?_)))
      obtain ⟨⟨rv_8, rv_9⟩, hx_10, h⟩ := obind h
      try dsimp only at h
      refine VO.k (w_keep rfl fn37 rfl ⟨_, _, rfl, rfl, rfl⟩ (ih_set_size _ _ hx_10)) rfl rfl (VO.m rfl rfl (VO.t (v := .i rv_8) (t_extract rfl rfl rfl) rfl rfl (VO.t (v := .i rv_9) (t_extract rfl rfl rfl) rfl rfl (VO.a (v := .i rv_8) rfl rfl (VO.a (v := .i rv_9) rfl rfl (VO.n (VW.k7 3 2 9 10 11 6 7 rfl (VW.hsub (A := hq [] []) (hq_sub (.cons _ .slnil) .slnil) (VW.q ?_)))))))))
      refine VO.m rfl rfl (VO.m rfl rfl (VO.t (v := .i (w64 (nodes_1 + rv_8))) (t_add rfl rfl rfl rfl) rfl rfl (VO.a (v := .i (w64 (nodes_1 + rv_8))) rfl rfl (VO.n (VW.k6 3 9 10 11 7 2 rfl (VW.region (VO.m rfl rfl (VO.m rfl rfl (VO.t (v := .i (max deep_0 rv_9)) (t_max rfl rfl rfl rfl) rfl rfl ?_)))))))))
      refine VO.a (v := .i (max deep_0 rv_9)) rfl rfl (VO.nil (blockQ_normal (thenQ_normal (VW.k5 9 10 11 2 3 rfl (VW.region (VO.t (v := .i (w64 (x_2 + 1))) (t_add rfl rfl (fun _ _ => rfl) rfl) rfl rfl (VO.m rfl rfl (VO.nil (thenQ_normal (VL.round ?_))))))))))
      refine VW.k5 3 2 9 10 11 rfl ?_
      exact ih_set_size_l0 _ _ _ _ _ h _ hx0
    · replace h := iteF h hc_5
      refine VW.k2 3 2 rfl (VW.exit (thenQ_exit (thenQ_exit ?_)))
      obtain rfl := oi h
      exact hx0 _ _ rfl
  · intro _ ih_set_size_l0 a0 r h 
    refine VCalls.of_body 30 [2, 3] Tryd.func37 rfl rfl rfl (nle rfl) (VW.k1 0 rfl (VW.q (VO.w (fun v H' => ∃ ob_11, .ptr ob_11 0 = v ∧ H' = hq ([[(ob_11, .cells (Node.l a0))]]) []) (w_box_q rfl rfl rfl (fun ob => ⟨ob, rfl, rfl⟩)) rfl rfl ?_)))
    rintro _ _ ⟨ob_11, rfl, rfl⟩
    refine VO.a (v := .i 0) rfl (fun _ _ => rfl) (VO.a (v := .i 0) rfl (fun _ _ => rfl) (VO.n (VW.k2 1 3 rfl (VW.q (VO.a (v := .i 1) rfl (fun _ _ => rfl) (VO.n (VW.seq (VW.q (VO.t (v := .ptr ob_11 3) (t_fieldAddr_ptr rfl fi29_3 rfl rfl) rfl rfl ?_)))))))))
    refine VO.r (v := .sl .fz (a0.Kids.map Node.c)) (r_load_q (i := 0) rfl sz27 rfl rfl rfl) rfl rfl (VO.t (v := .i (a0.Kids.length : Int)) (t_len rfl ⟨_, Tryd.underlying27⟩ rfl (by rw [List.length_map])) rfl rfl (VO.m (v := .i 0) rfl (fun _ _ => rfl) (VO.n (VW.k5 3 2 9 10 11 rfl (VW.hsub (A := hq [] []) (hq_sub (.cons _ .slnil) .slnil) (VW.block (VW.k5 3 2 9 10 11 rfl ?_)))))))
    obtain ⟨o_12, hx_13, h⟩ := obind h
    refine VW.loopL (ih_set_size_l0 _ _ _ _ _ hx_13 _ ?_)
    · intro deep_3 nodes_4 ho_
      subst ho_
      try dsimp only at h
      refine blockQ_hit (thenQ_normal (VW.q (VO.m rfl rfl (VO.m rfl rfl (VO.t (v := .i (w64 (deep_3 + 1))) (t_add rfl rfl (fun _ _ => rfl) rfl) rfl rfl (VO.a (v := .i nodes_4) rfl rfl (VO.a (v := .i (w64 (deep_3 + 1))) rfl rfl (VO.n (VW.k2 2 3 rfl ?_)))))))))
      refine VW.ret ?_
      obtain rfl := oi h
      exact ⟨.inr rfl, rfl, _, .tup [.i nodes_4, .i (w64 (deep_3 + 1))], hq [] [], ⟨_, _, rfl, rfl, rfl⟩, VLe.tup ⟨VLe.refl _, VLe.refl _, trivial⟩, hq_sub .slnil .slnil, rfl, rfl⟩

theorem set_formed_ok (a0 : Node) (r : Bool) (h : PL.set_formed a0 = some r) :
    VCalls Tryd.prog 38 [.agg (Node.l a0)] (hq [] []) (fun v H => .bool r = v ∧ H = hq [] []) := by
  revert h
  refine (PL.set_formed_1.mutual_partial_correctness (motive_1 := fun a0 r => VCalls Tryd.prog 54 [.agg (Node.l a0)] (hq [] []) (fun v H => .bool r = v ∧ H = hq [] [])) (motive_2 := fun a0 r => VCalls Tryd.prog 38 [.agg (Node.l a0)] (hq [] []) (fun v H => .bool r = v ∧ H = hq [] [])) (motive_3 := fun a0 r => VCalls Tryd.prog 48 [.sl .fz (a0.map Node.c), .func (.func 54) [] []] (hq [] []) (fun v H => .bool r = v ∧ H = hq [] [])) (motive_4 := fun a0 r => VCalls Tryd.prog 59 [.sl .fz (a0.map Node.c), .func (.func 54) [] []] (hq [] []) (fun v H => .i r = v ∧ H = hq [] [])) (motive_5 := fun a0 x_0 o => ∀ (Q : Exit → Env → HH → Prop) (hx0 : Sum.inl () = o → Q (.exit 0) ⟨[], []⟩ (hq [] [])) (hx1 : ∀ (x_1 : Int), Sum.inr x_1 = o → Q .ret ⟨[(4, .i x_1)], []⟩ (hq [] [])), VW Tryd.prog 19 (codeAt [1, 0, 1, 0, 0] (bodyOf Tryd.f59)) (thenQ (VL Tryd.prog 19 (codeAt [1, 0, 1, 0, 0] (bodyOf Tryd.f59)) Q) Q) ⟨[(0, .sl .fz (a0.map Node.c)), (1, .func (.func 54) [] []), (7, .i (a0.length : Int)), (8, .i x_0)], []⟩ (hq [] [])) ?_ ?_ ?_ ?_ ?_).2.1 a0 r
  · intro _ ih_set_formed a0 r h 
    refine VCalls.of_body 6 [2] Tryd.func54 rfl rfl rfl (nle rfl) (VW.k1 0 rfl (VW.q (VO.w (fun v H' => ∃ ob_2, .ptr ob_2 0 = v ∧ H' = hq ([[(ob_2, .cells (Node.l a0))]]) []) (w_box_q rfl rfl rfl (fun ob => ⟨ob, rfl, rfl⟩)) rfl rfl ?_)))
    rintro _ _ ⟨ob_2, rfl, rfl⟩
    refine VO.a (v := .bool false) rfl (fun _ _ => rfl) (VO.n (VW.k1 1 rfl (VW.q (VO.r (v := .agg (Node.l a0)) (r_load_q (i := 0) rfl sz29 rfl rfl rfl) rfl rfl ?_))))
    obtain ⟨rv_3, hx_4, h⟩ := obind h
    refine VO.k (w_keep rfl fn38 rfl ⟨_, _, rfl, rfl, rfl⟩ (ih_set_formed _ _ hx_4)) rfl rfl (VO.t (v := .bool (!rv_3)) (t_not rfl rfl rfl) rfl rfl (VO.a (v := .bool (!rv_3)) rfl rfl (VO.n (VW.ret ?_))))
    cases oi h
    exact ret0 rfl rfl ⟨rfl, rfl⟩
  · intro _ ih_slices_ContainsFunc_of_set_formed_1 a0 r h 
    refine VCalls.of_body 81 [2] Tryd.func38 rfl rfl rfl (nle rfl) (VW.k1 0 rfl (VW.q (VO.w (fun v H' => ∃ ob_5, .ptr ob_5 0 = v ∧ H' = hq ([[(ob_5, .cells (Node.l a0))]]) []) (w_box_q rfl rfl rfl (fun ob => ⟨ob, rfl, rfl⟩)) rfl rfl ?_)))
    rintro _ _ ⟨ob_5, rfl, rfl⟩
    refine VO.a (v := .bool false) rfl (fun _ _ => rfl) (VO.n (VW.k1 1 rfl (VW.seq ?_)))
    obtain ⟨o_6, h, hx_7⟩ := obind h
    refine VW.joinQ (E := Bool) (I := fun ok_8 => ok_8 = o_6 ∧ True) (env' := fun ok_8 => ⟨[(1, .ptr ob_5 0), (3, .bool ok_8)], []⟩) (H' := fun ok_8 => hq ([[(ob_5, .cells (Node.l a0))]]) []) ?_ (fun J_9 => ?_)
    · rintro ok_8 ⟨ho_, _⟩
      subst ho_
      replace h := hx_7
      clear hx_7
      try dsimp only at h
      show VW _ _ _ _ ⟨[(1, .ptr ob_5 0), (3, .bool ok_8)], []⟩ (hq ([[(ob_5, .cells (Node.l a0))]]) [])
      refine VW.seq (VW.q (VO.t (v := .ptr ob_5 0) (t_fieldAddr_ptr rfl fi29_0 rfl rfl) rfl rfl (VO.r (v := .i a0.Op) (r_load_q (i := 0) rfl sz3 rfl rfl rfl) rfl rfl (VO.n (VW.k3 1 3 13 rfl ?_)))))
      obtain ⟨o_10, h, hx_11⟩ := obind h
      refine VW.joinQ (E := Bool) (I := fun ok_12 => Sum.inl ok_12 = o_10 ∧ True) (env' := fun ok_12 => ⟨[(1, .ptr ob_5 0), (3, .bool ok_12)], []⟩) (H' := fun ok_12 => hq ([[(ob_5, .cells (Node.l a0))]]) []) ?_ (fun J_13 => ?_)
      · rintro ok_12 ⟨ho_, _⟩
        subst ho_
        replace h := hx_11
        clear hx_11
        try dsimp only at h
        show VW _ _ _ _ ⟨[(1, .ptr ob_5 0), (3, .bool ok_12)], []⟩ (hq ([[(ob_5, .cells (Node.l a0))]]) [])
        refine VW.q (VO.m rfl rfl (VO.m rfl rfl ?_))
        refine VO.caseB (d := 75) (b := ok_12) rfl (fun hc_14 => ?_) (fun hc_14 => ?_)
        · replace h := iteT h hc_14
          refine VO.gt (v := .ptr ob_5 3) (t_fieldAddr_ptr rfl fi29_3 rfl rfl) rfl rfl rfl rfl (VO.gr (v := .sl .fz (a0.Kids.map Node.c)) (r_load_q (i := 0) rfl sz27 rfl rfl rfl) rfl rfl rfl rfl ?_)
          obtain ⟨rv_15, hx_16, h⟩ := obind h
          refine VO.gk (w_keep rfl fn48 rfl ⟨_, _, rfl, rfl, _, _, rfl, rfl, rfl⟩ (ih_slices_ContainsFunc_of_set_formed_1 _ _ hx_16)) rfl rfl rfl rfl (VO.gt (v := .bool (!rv_15)) (t_not rfl rfl rfl) rfl rfl rfl rfl (VO.t (v := .bool (!rv_15)) (t_pick (b := true) rfl rfl (fun _ => rfl) (fun h => by cases h)) rfl rfl (VO.a (v := .bool (!rv_15)) rfl rfl (VO.n (VW.ret ?_)))))
          cases oi h
          exact ret0 rfl rfl ⟨rfl, rfl⟩
        · replace h := iteF h hc_14
          refine VO.s rfl (VO.s rfl (VO.s rfl (VO.s rfl (VO.t (v := .bool false) (t_pick (b := false) rfl rfl (fun h => by cases h) (fun _ => (fun _ _ => rfl))) rfl rfl (VO.a (v := .bool false) rfl rfl (VO.n (VW.ret ?_)))))))
          cases oi h
          exact ret0 rfl rfl ⟨rfl, rfl⟩
      · refine VW.block (VW.q (VO.t (v := .bool (a0.Op == 0)) (t_cmp rfl rfl rfl (fun _ _ => rfl) rfl) rfl rfl (VO.a (v := .bool (a0.Op == 0)) rfl rfl (VO.n (VW.k4 1 3 13 14 rfl ?_)))))
        refine VW.cond (b := (a0.Op == 0)) rfl (fun hc_17 => ?_) (fun hc_17 => ?_)
        · replace h := iteT h hc_17
          refine VW.q (VO.t (v := .ptr ob_5 3) (t_fieldAddr_ptr rfl fi29_3 rfl rfl) rfl rfl (VO.r (v := .sl .fz (a0.Kids.map Node.c)) (r_load_q (i := 0) rfl sz27 rfl rfl rfl) rfl rfl (VO.t (v := .i (a0.Kids.length : Int)) (t_len rfl ⟨_, Tryd.underlying27⟩ rfl (by rw [List.length_map])) rfl rfl (VO.t (v := .bool ((a0.Kids.length : Int) == 0)) (t_cmp rfl rfl rfl (fun _ _ => rfl) rfl) rfl rfl (VO.m rfl rfl ?_)))))
          refine VO.caseB (d := 20) (b := ((a0.Kids.length : Int) == 0)) rfl (fun hc_18 => ?_) (fun hc_18 => ?_)
          · replace h := iteT h hc_18
            refine VO.gt (v := .ptr ob_5 1) (t_fieldAddr_ptr rfl fi29_1 rfl rfl) rfl rfl rfl rfl (VO.gr (v := .i a0.Lo) (r_load_q (i := 0) rfl sz3 rfl rfl rfl) rfl rfl rfl rfl (VO.gt (v := .ptr ob_5 2) (t_fieldAddr_ptr rfl fi29_2 rfl rfl) rfl rfl rfl rfl (VO.gr (v := .i a0.Hi) (r_load_q (i := 0) rfl sz3 rfl rfl rfl) rfl rfl rfl rfl (VO.gt (v := .bool (decide (a0.Lo ≤ a0.Hi))) (t_cmp rfl rfl rfl rfl rfl) rfl rfl rfl rfl (VO.t (v := .bool (decide (a0.Lo ≤ a0.Hi))) (t_pick (b := true) rfl rfl (fun _ => rfl) (fun h => by cases h)) rfl rfl (VO.m rfl rfl ?_))))))
            refine VO.caseB (d := 27) (b := (decide (a0.Lo ≤ a0.Hi))) rfl (fun hc_19 => ?_) (fun hc_19 => ?_)
            · replace h := iteT h hc_19
              refine VO.gt (v := .ptr ob_5 1) (t_fieldAddr_ptr rfl fi29_1 rfl rfl) rfl rfl rfl rfl (VO.gr (v := .i a0.Lo) (r_load_q (i := 0) rfl sz3 rfl rfl rfl) rfl rfl rfl rfl (VO.gt (v := .bool (decide (a0.Lo ≥ (-1000000000000000)))) (t_cmp rfl rfl rfl (fun _ _ => rfl) rfl) rfl rfl rfl rfl (VO.t (v := .bool (decide (a0.Lo ≥ (-1000000000000000)))) (t_pick (b := true) rfl rfl (fun _ => rfl) (fun h => by cases h)) rfl rfl (VO.m rfl rfl ?_))))
              refine VO.caseB (d := 32) (b := (decide (a0.Lo ≥ (-1000000000000000)))) rfl (fun hc_20 => ?_) (fun hc_20 => ?_)
              · replace h := iteT h hc_20
                refine VO.gt (v := .ptr ob_5 2) (t_fieldAddr_ptr rfl fi29_2 rfl rfl) rfl rfl rfl rfl (VO.gr (v := .i a0.Hi) (r_load_q (i := 0) rfl sz3 rfl rfl rfl) rfl rfl rfl rfl (VO.gt (v := .bool (decide (a0.Hi ≤ 1000000000000000))) (t_cmp rfl rfl rfl (fun _ _ => rfl) rfl) rfl rfl rfl rfl (VO.t (v := .bool (decide (a0.Hi ≤ 1000000000000000))) (t_pick (b := true) rfl rfl (fun _ => rfl) (fun h => by cases h)) rfl rfl (VO.a (v := .bool (decide (a0.Hi ≤ 1000000000000000))) rfl rfl (VO.n (VW.k1 2 rfl (VW.hsub (A := hq [] []) (hq_sub (.cons _ .slnil) .slnil) (VW.ret (blockQ_ret ?_)))))))))
                obtain ⟨z_21, hz_22, h⟩ := obind h
                obtain rfl := oi h
                try dsimp only at hx_11
                have hx_11 := Option.some.inj hx_11
                subst hx_11
                have h := hz_22
                refine thenQ_ret ?_
                obtain rfl := oi h
                exact ⟨.inr rfl, rfl, _, .bool (decide (a0.Hi ≤ 1000000000000000)), hq [] [], rfl, VLe.refl _, hq_sub .slnil .slnil, rfl, rfl⟩
              · replace h := iteF h hc_20
                refine VO.s rfl (VO.s rfl (VO.s rfl (VO.t (v := .bool false) (t_pick (b := false) rfl rfl (fun h => by cases h) (fun _ => (fun _ _ => rfl))) rfl rfl (VO.a (v := .bool false) rfl rfl (VO.n (VW.k1 2 rfl (VW.hsub (A := hq [] []) (hq_sub (.cons _ .slnil) .slnil) (VW.ret (blockQ_ret ?_)))))))))
                obtain ⟨z_23, hz_24, h⟩ := obind h
                obtain rfl := oi h
                try dsimp only at hx_11
                have hx_11 := Option.some.inj hx_11
                subst hx_11
                have h := hz_24
                refine thenQ_ret ?_
                obtain rfl := oi h
                exact ⟨.inr rfl, rfl, _, .bool false, hq [] [], rfl, VLe.refl _, hq_sub .slnil .slnil, rfl, rfl⟩
            · replace h := iteF h hc_19
              refine VO.s rfl (VO.s rfl (VO.s rfl (VO.t (v := .bool false) (t_pick (b := false) rfl rfl (fun h => by cases h) (fun _ => (fun _ _ => rfl))) rfl rfl (VO.m rfl rfl (VO.s rfl (VO.s rfl (VO.s rfl (VO.t (v := .bool false) (t_pick (b := false) rfl rfl (fun h => by cases h) (fun _ => (fun _ _ => rfl))) rfl rfl (VO.a (v := .bool false) rfl rfl ?_)))))))))
              refine VO.n (VW.k1 2 rfl (VW.hsub (A := hq [] []) (hq_sub (.cons _ .slnil) .slnil) (VW.ret (blockQ_ret ?_))))
              obtain ⟨z_25, hz_26, h⟩ := obind h
              obtain rfl := oi h
              try dsimp only at hx_11
              have hx_11 := Option.some.inj hx_11
              subst hx_11
              have h := hz_26
              refine thenQ_ret ?_
              obtain rfl := oi h
              exact ⟨.inr rfl, rfl, _, .bool false, hq [] [], rfl, VLe.refl _, hq_sub .slnil .slnil, rfl, rfl⟩
          · replace h := iteF h hc_18
            refine VO.s rfl (VO.s rfl (VO.s rfl (VO.s rfl (VO.s rfl (VO.t (v := .bool false) (t_pick (b := false) rfl rfl (fun h => by cases h) (fun _ => (fun _ _ => rfl))) rfl rfl (VO.m rfl rfl (VO.s rfl (VO.s rfl (VO.s rfl ?_)))))))))
            refine VO.t (v := .bool false) (t_pick (b := false) rfl rfl (fun h => by cases h) (fun _ => (fun _ _ => rfl))) rfl rfl (VO.m rfl rfl (VO.s rfl (VO.s rfl (VO.s rfl (VO.t (v := .bool false) (t_pick (b := false) rfl rfl (fun h => by cases h) (fun _ => (fun _ _ => rfl))) rfl rfl (VO.a (v := .bool false) rfl rfl (VO.n (VW.k1 2 rfl (VW.hsub (A := hq [] []) (hq_sub (.cons _ .slnil) .slnil) ?_)))))))))
            refine VW.ret (blockQ_ret ?_)
            obtain ⟨z_27, hz_28, h⟩ := obind h
            obtain rfl := oi h
            try dsimp only at hx_11
            have hx_11 := Option.some.inj hx_11
            subst hx_11
            have h := hz_28
            refine thenQ_ret ?_
            obtain rfl := oi h
            exact ⟨.inr rfl, rfl, _, .bool false, hq [] [], rfl, VLe.refl _, hq_sub .slnil .slnil, rfl, rfl⟩
        · replace h := iteF h hc_17
          refine VW.seq (VW.q (VO.t (v := .bool (a0.Op == 1)) (t_cmp rfl rfl rfl (fun _ _ => rfl) rfl) rfl rfl (VO.a (v := .bool (a0.Op == 1)) rfl rfl (VO.n (VW.k4 1 3 13 37 rfl ?_)))))
          obtain ⟨o_29, h, hx_30⟩ := obind h
          refine VW.joinQ (E := Bool) (I := fun x_31 => x_31 = o_29 ∧ True) (env' := fun x_31 => ⟨[(1, .ptr ob_5 0), (3, .bool ok_8), (13, .i a0.Op), (37, .bool x_31)], []⟩) (H' := fun x_31 => hq ([[(ob_5, .cells (Node.l a0))]]) []) ?_ (fun J_32 => ?_)
          · rintro x_31 ⟨ho_, _⟩
            subst ho_
            replace h := hx_30
            clear hx_30
            try dsimp only at h
            show VW _ _ _ _ ⟨[(1, .ptr ob_5 0), (3, .bool ok_8), (13, .i a0.Op), (37, .bool x_31)], []⟩ (hq ([[(ob_5, .cells (Node.l a0))]]) [])
            refine VW.cond (b := x_31) rfl (fun hc_33 => ?_) (fun hc_33 => ?_)
            · replace h := iteT h hc_33
              refine VW.region (VO.m rfl rfl (VO.m rfl rfl ?_))
              refine VO.caseB (d := 41) (b := ok_8) rfl (fun hc_34 => ?_) (fun hc_34 => ?_)
              · replace h := iteT h hc_34
                refine VO.gt (v := .ptr ob_5 3) (t_fieldAddr_ptr rfl fi29_3 rfl rfl) rfl rfl rfl rfl (VO.gr (v := .sl .fz (a0.Kids.map Node.c)) (r_load_q (i := 0) rfl sz27 rfl rfl rfl) rfl rfl rfl rfl (VO.gt (v := .i (a0.Kids.length : Int)) (t_len rfl ⟨_, Tryd.underlying27⟩ rfl (by rw [List.length_map])) rfl rfl rfl rfl (VO.gt (v := .bool (decide ((a0.Kids.length : Int) ≥ 2))) (t_cmp rfl rfl rfl (fun _ _ => rfl) rfl) rfl rfl rfl rfl (VO.t (v := .bool (decide ((a0.Kids.length : Int) ≥ 2))) (t_pick (b := true) rfl rfl (fun _ => rfl) (fun h => by cases h)) rfl rfl (VO.a (v := .bool (decide ((a0.Kids.length : Int) ≥ 2))) rfl rfl (VO.subK (.c 1 rfl (.c 3 rfl .n)) rfl (VO.nil (blockQ_normal ?_))))))))
                exact thenQ_normal (J_13 (decide ((a0.Kids.length : Int) ≥ 2)) ⟨Option.some.inj h, trivial⟩)
              · replace h := iteF h hc_34
                refine VO.s rfl (VO.s rfl (VO.s rfl (VO.s rfl (VO.t (v := .bool false) (t_pick (b := false) rfl rfl (fun h => by cases h) (fun _ => (fun _ _ => rfl))) rfl rfl (VO.a (v := .bool false) rfl rfl (VO.subK (.c 1 rfl (.c 3 rfl .n)) rfl (VO.nil (blockQ_normal ?_))))))))
                exact thenQ_normal (J_13 false ⟨Option.some.inj h, trivial⟩)
            · replace h := iteF h hc_33
              refine VW.q (VO.t (v := .bool (a0.Op == 3)) (t_cmp rfl rfl rfl (fun _ _ => rfl) rfl) rfl rfl (VO.a (v := .bool (a0.Op == 3)) rfl rfl (VO.n (VW.k4 1 3 13 47 rfl ?_))))
              refine VW.cond (b := (a0.Op == 3)) rfl (fun hc_35 => ?_) (fun hc_35 => ?_)
              · replace h := iteT h hc_35
                refine VW.region (VO.m rfl rfl (VO.m rfl rfl ?_))
                refine VO.caseB (d := 50) (b := ok_8) rfl (fun hc_36 => ?_) (fun hc_36 => ?_)
                · replace h := iteT h hc_36
                  refine VO.gt (v := .ptr ob_5 3) (t_fieldAddr_ptr rfl fi29_3 rfl rfl) rfl rfl rfl rfl (VO.gr (v := .sl .fz (a0.Kids.map Node.c)) (r_load_q (i := 0) rfl sz27 rfl rfl rfl) rfl rfl rfl rfl (VO.gt (v := .i (a0.Kids.length : Int)) (t_len rfl ⟨_, Tryd.underlying27⟩ rfl (by rw [List.length_map])) rfl rfl rfl rfl (VO.gt (v := .bool ((a0.Kids.length : Int) == 2)) (t_cmp rfl rfl rfl (fun _ _ => rfl) rfl) rfl rfl rfl rfl (VO.t (v := .bool ((a0.Kids.length : Int) == 2)) (t_pick (b := true) rfl rfl (fun _ => rfl) (fun h => by cases h)) rfl rfl (VO.a (v := .bool ((a0.Kids.length : Int) == 2)) rfl rfl (VO.subK (.c 1 rfl (.c 3 rfl .n)) rfl (VO.nil (blockQ_normal ?_))))))))
                  exact thenQ_normal (J_13 ((a0.Kids.length : Int) == 2) ⟨Option.some.inj h, trivial⟩)
                · replace h := iteF h hc_36
                  refine VO.s rfl (VO.s rfl (VO.s rfl (VO.s rfl (VO.t (v := .bool false) (t_pick (b := false) rfl rfl (fun h => by cases h) (fun _ => (fun _ _ => rfl))) rfl rfl (VO.a (v := .bool false) rfl rfl (VO.subK (.c 1 rfl (.c 3 rfl .n)) rfl (VO.nil (blockQ_normal ?_))))))))
                  exact thenQ_normal (J_13 false ⟨Option.some.inj h, trivial⟩)
              · replace h := iteF h hc_35
                refine VW.q (VO.t (v := .bool (a0.Op == 4)) (t_cmp rfl rfl rfl (fun _ _ => rfl) rfl) rfl rfl (VO.a (v := .bool (a0.Op == 4)) rfl rfl (VO.n (VW.k4 1 3 13 56 rfl ?_))))
                refine VW.cond (b := (a0.Op == 4)) rfl (fun hc_37 => ?_) (fun hc_37 => ?_)
                · replace h := iteT h hc_37
                  refine VW.region (VO.m rfl rfl (VO.m rfl rfl ?_))
                  refine VO.caseB (d := 59) (b := ok_8) rfl (fun hc_38 => ?_) (fun hc_38 => ?_)
                  · replace h := iteT h hc_38
                    refine VO.gt (v := .ptr ob_5 3) (t_fieldAddr_ptr rfl fi29_3 rfl rfl) rfl rfl rfl rfl (VO.gr (v := .sl .fz (a0.Kids.map Node.c)) (r_load_q (i := 0) rfl sz27 rfl rfl rfl) rfl rfl rfl rfl (VO.gt (v := .i (a0.Kids.length : Int)) (t_len rfl ⟨_, Tryd.underlying27⟩ rfl (by rw [List.length_map])) rfl rfl rfl rfl (VO.gt (v := .bool ((a0.Kids.length : Int) == 0)) (t_cmp rfl rfl rfl (fun _ _ => rfl) rfl) rfl rfl rfl rfl (VO.t (v := .bool ((a0.Kids.length : Int) == 0)) (t_pick (b := true) rfl rfl (fun _ => rfl) (fun h => by cases h)) rfl rfl (VO.a (v := .bool ((a0.Kids.length : Int) == 0)) rfl rfl (VO.subK (.c 1 rfl (.c 3 rfl .n)) rfl (VO.nil (blockQ_normal ?_))))))))
                    exact thenQ_normal (J_13 ((a0.Kids.length : Int) == 0) ⟨Option.some.inj h, trivial⟩)
                  · replace h := iteF h hc_38
                    refine VO.s rfl (VO.s rfl (VO.s rfl (VO.s rfl (VO.t (v := .bool false) (t_pick (b := false) rfl rfl (fun h => by cases h) (fun _ => (fun _ _ => rfl))) rfl rfl (VO.a (v := .bool false) rfl rfl (VO.subK (.c 1 rfl (.c 3 rfl .n)) rfl (VO.nil (blockQ_normal ?_))))))))
                    exact thenQ_normal (J_13 false ⟨Option.some.inj h, trivial⟩)
                · replace h := iteF h hc_37
                  refine VW.q (VO.t (v := .bool (a0.Op == 5)) (t_cmp rfl rfl rfl (fun _ _ => rfl) rfl) rfl rfl (VO.a (v := .bool (a0.Op == 5)) rfl rfl (VO.n (VW.k3 1 3 65 rfl ?_))))
                  refine VW.cond (b := (a0.Op == 5)) rfl (fun hc_39 => ?_) (fun hc_39 => ?_)
                  · replace h := iteT h hc_39
                    refine VW.region (VO.m rfl rfl (VO.m rfl rfl ?_))
                    refine VO.caseB (d := 68) (b := ok_8) rfl (fun hc_40 => ?_) (fun hc_40 => ?_)
                    · replace h := iteT h hc_40
                      refine VO.gt (v := .ptr ob_5 3) (t_fieldAddr_ptr rfl fi29_3 rfl rfl) rfl rfl rfl rfl (VO.gr (v := .sl .fz (a0.Kids.map Node.c)) (r_load_q (i := 0) rfl sz27 rfl rfl rfl) rfl rfl rfl rfl (VO.gt (v := .i (a0.Kids.length : Int)) (t_len rfl ⟨_, Tryd.underlying27⟩ rfl (by rw [List.length_map])) rfl rfl rfl rfl (VO.gt (v := .bool ((a0.Kids.length : Int) == 1)) (t_cmp rfl rfl rfl (fun _ _ => rfl) rfl) rfl rfl rfl rfl (VO.t (v := .bool ((a0.Kids.length : Int) == 1)) (t_pick (b := true) rfl rfl (fun _ => rfl) (fun h => by cases h)) rfl rfl (VO.a (v := .bool ((a0.Kids.length : Int) == 1)) rfl rfl (VO.subK (.c 1 rfl (.c 3 rfl .n)) rfl (VO.nil (blockQ_normal ?_))))))))
                      exact thenQ_normal (J_13 ((a0.Kids.length : Int) == 1) ⟨Option.some.inj h, trivial⟩)
                    · replace h := iteF h hc_40
                      refine VO.s rfl (VO.s rfl (VO.s rfl (VO.s rfl (VO.t (v := .bool false) (t_pick (b := false) rfl rfl (fun h => by cases h) (fun _ => (fun _ _ => rfl))) rfl rfl (VO.a (v := .bool false) rfl rfl (VO.subK (.c 1 rfl (.c 3 rfl .n)) rfl (VO.nil (blockQ_normal ?_))))))))
                      exact thenQ_normal (J_13 false ⟨Option.some.inj h, trivial⟩)
                  · replace h := iteF h hc_39
                    refine VW.q (VO.a (v := .bool false) rfl (fun _ _ => rfl) (VO.n (VW.k1 2 rfl (VW.hsub (A := hq [] []) (hq_sub (.cons _ .slnil) .slnil) (VW.ret (blockQ_ret ?_))))))
                    obtain ⟨z_41, hz_42, h⟩ := obind h
                    obtain rfl := oi h
                    try dsimp only at hx_11
                    have hx_11 := Option.some.inj hx_11
                    subst hx_11
                    have h := hz_42
                    refine thenQ_ret ?_
                    obtain rfl := oi h
                    exact ⟨.inr rfl, rfl, _, .bool false, hq [] [], rfl, VLe.refl _, hq_sub .slnil .slnil, rfl, rfl⟩
          · refine VW.cond (b := (a0.Op == 1)) rfl (fun hc_43 => ?_) (fun hc_43 => ?_)
            · replace h := iteT h hc_43
              refine VW.k4 1 3 13 37 rfl (VW.skip ?_)
              exact thenQ_normal (J_32 (a0.Op == 1) ⟨Option.some.inj h, trivial⟩)
            · replace h := iteF h hc_43
              refine VW.region (VO.t (v := .bool (a0.Op == 2)) (t_cmp rfl rfl rfl (fun _ _ => rfl) rfl) rfl rfl (VO.a (v := .bool (a0.Op == 2)) rfl rfl (VO.subK (.c 1 rfl (.c 3 rfl (.c 13 rfl (.c 37 rfl .n)))) rfl (VO.nil ?_))))
              exact thenQ_normal (J_32 (a0.Op == 2) ⟨Option.some.inj h, trivial⟩)
    · refine VW.region (VO.t (v := .ptr ob_5 1) (t_fieldAddr_ptr rfl fi29_1 rfl rfl) rfl rfl (VO.r (v := .i a0.Lo) (r_load_q (i := 0) rfl sz3 rfl rfl rfl) rfl rfl (VO.t (v := .bool (a0.Lo == 0)) (t_cmp rfl rfl rfl (fun _ _ => rfl) rfl) rfl rfl (VO.m rfl rfl ?_))))
      refine VO.caseB (d := 7) (b := (a0.Lo == 0)) rfl (fun hc_44 => ?_) (fun hc_44 => ?_)
      · replace h := iteT h hc_44
        refine VO.gt (v := .ptr ob_5 2) (t_fieldAddr_ptr rfl fi29_2 rfl rfl) rfl rfl rfl rfl (VO.gr (v := .i a0.Hi) (r_load_q (i := 0) rfl sz3 rfl rfl rfl) rfl rfl rfl rfl (VO.gt (v := .bool (a0.Hi == 0)) (t_cmp rfl rfl rfl (fun _ _ => rfl) rfl) rfl rfl rfl rfl (VO.t (v := .bool (a0.Hi == 0)) (t_pick (b := true) rfl rfl (fun _ => rfl) (fun h => by cases h)) rfl rfl (VO.a (v := .bool (a0.Hi == 0)) rfl rfl (VO.subK (.c 1 rfl (.c 3 rfl .n)) rfl (VO.nil ?_))))))
        exact thenQ_normal (J_9 (a0.Hi == 0) ⟨Option.some.inj h, trivial⟩)
      · replace h := iteF h hc_44
        refine VO.s rfl (VO.s rfl (VO.s rfl (VO.t (v := .bool false) (t_pick (b := false) rfl rfl (fun h => by cases h) (fun _ => (fun _ _ => rfl))) rfl rfl (VO.a (v := .bool false) rfl rfl (VO.subK (.c 1 rfl (.c 3 rfl .n)) rfl (VO.nil ?_))))))
        exact thenQ_normal (J_9 false ⟨Option.some.inj h, trivial⟩)
  · intro _ ih_slices_IndexFunc_of_set_formed_1 a0 r h 
    refine VCalls.of_body 9 [4] Tryd.func48 rfl rfl rfl (nle rfl) (VW.k2 0 1 rfl (VW.q (VO.a (v := .bool false) rfl (fun _ _ => rfl) (VO.n (VW.k2 0 1 rfl (VW.q (VO.m rfl rfl (VO.m rfl rfl ?_))))))))
    obtain ⟨rv_45, hx_46, h⟩ := obind h
    refine VO.k (w_keep rfl fn59 rfl ⟨_, _, rfl, rfl, _, _, rfl, rfl, rfl⟩ (ih_slices_IndexFunc_of_set_formed_1 _ _ hx_46)) rfl rfl (VO.t (v := .bool (decide (rv_45 ≥ 0))) (t_cmp rfl rfl rfl (fun _ _ => rfl) rfl) rfl rfl (VO.a (v := .bool (decide (rv_45 ≥ 0))) rfl rfl (VO.n (VW.ret ?_))))
    cases oi h
    exact ret0 rfl rfl ⟨rfl, rfl⟩
  · intro _ ih_slices_IndexFunc_of_set_formed_1_l0 a0 r h 
    refine VCalls.of_body 19 [4] Tryd.func59 rfl rfl rfl (nle rfl) (VW.k2 0 1 rfl (VW.q (VO.a (v := .i 0) rfl (fun _ _ => rfl) (VO.n (VW.k2 0 1 rfl (VW.seq (VW.q (VO.m rfl rfl (VO.t (v := .i (a0.length : Int)) (t_len rfl ⟨_, Tryd.underlying27⟩ rfl (by rw [List.length_map])) rfl rfl ?_)))))))))
    refine VO.m (v := .i 0) rfl (fun _ _ => rfl) (VO.n (VW.k4 0 1 7 8 rfl (VW.block (VW.k4 0 1 7 8 rfl ?_))))
    obtain ⟨o_47, hx_48, h⟩ := obind h
    refine VW.loopL (ih_slices_IndexFunc_of_set_formed_1_l0 _ _ _ hx_48 _ ?_ ?_)
    · intro ho_
      subst ho_
      try dsimp only at h
      refine blockQ_hit (thenQ_normal (VW.q (VO.a (v := .i (-1)) rfl (fun _ _ => rfl) (VO.n (VW.ret ?_)))))
      cases oi h
      exact ret0 rfl rfl ⟨rfl, rfl⟩
    · intro x_1 ho_
      subst ho_
      try dsimp only at h
      refine blockQ_ret (thenQ_ret ?_)
      obtain rfl := oi h
      exact ⟨.inr rfl, rfl, _, .i x_1, hq [] [], rfl, VLe.refl _, hq_sub .slnil .slnil, rfl, rfl⟩
  · intro _ _ ih_set_formed_1 ih_slices_IndexFunc_of_set_formed_1_l0 a0 x_0 o h Q hx0 hx1
    refine VW.q (VO.t (v := .bool (decide (x_0 < (a0.length : Int)))) (t_cmp rfl rfl rfl rfl rfl) rfl rfl (VO.n (VW.seq ?_)))
    refine VW.cond (b := (decide (x_0 < (a0.length : Int)))) rfl (fun hc_49 => ?_) (fun hc_49 => ?_)
    · replace h := iteT h hc_49
      refine VW.skip (thenQ_normal (VW.k4 0 1 7 8 rfl (VW.seq (VW.block (VW.q (VO.m rfl rfl (VO.a (v := .i x_0) rfl rfl (VO.n (VW.k5 0 1 7 8 5 rfl ?_)))))))))
      refine VW.q (VO.m rfl rfl (VO.m rfl rfl (VO.m rfl rfl ?_)))
      obtain ⟨c_50, hc_50, h⟩ := obind h
      refine VO.t (v := .vptr (Node.l c_50)) (t_indexAddr rfl sl27 rfl rfl (getI_some hc_50).1 (map_get (getI_some hc_50).2 (Node.c_eq c_50)) rfl) rfl rfl (VO.r (v := .agg (Node.l c_50)) (r_load_v rfl sz29 rfl rfl) rfl rfl ?_)
      obtain ⟨rv_51, hx_52, h⟩ := obind h
      refine VO.k (w_keep rfl fn54 rfl ⟨_, _, rfl, rfl, rfl⟩ (ih_set_formed_1 _ _ hx_52)) rfl rfl (VO.n (VW.k6 0 1 7 8 5 16 rfl ?_))
      refine VW.cond (b := rv_51) rfl (fun hc_53 => ?_) (fun hc_53 => ?_)
      · replace h := iteT h hc_53
        refine VW.q (VO.m rfl rfl (VO.a (v := .i x_0) rfl rfl (VO.n (VW.k1 4 rfl (VW.k1 4 rfl (VW.ret (blockQ_ret (thenQ_ret (thenQ_ret ?_)))))))))
        obtain rfl := oi h
        exact hx1 _ rfl
      · replace h := iteF h hc_53
        refine VW.skip (blockQ_normal (thenQ_normal (VW.k4 0 1 7 8 rfl (VW.region (VO.t (v := .i (w64 (x_0 + 1))) (t_add rfl rfl (fun _ _ => rfl) rfl) rfl rfl (VO.m rfl rfl (VO.nil (thenQ_normal (VL.round ?_)))))))))
        refine VW.k4 0 1 7 8 rfl ?_
        exact ih_slices_IndexFunc_of_set_formed_1_l0 _ _ _ h _ hx0 hx1
    · replace h := iteF h hc_49
      refine VW.subN (t' := []) trivial rfl (VW.exit (thenQ_exit (thenQ_exit ?_)))
      obtain rfl := oi h
      exact hx0  rfl

theorem set_check_ok (a0 : Node) (r : Int) (h : PL.set_check a0 = some r) :
    VCalls Tryd.prog 22 [.agg (Node.l a0)] (hq [] []) (fun v H => .i r = v ∧ H = hq [] []) := by
  unfold PL.set_check at h
  refine VCalls.of_body 19 [2] Tryd.func22 rfl rfl rfl (nle rfl) (VW.k1 0 rfl (VW.q (VO.w (fun v H' => ∃ ob_0, .ptr ob_0 0 = v ∧ H' = hq ([[(ob_0, .cells (Node.l a0))]]) []) (w_box_q rfl rfl rfl (fun ob => ⟨ob, rfl, rfl⟩)) rfl rfl ?_)))
  rintro _ _ ⟨ob_0, rfl, rfl⟩
  refine VO.a (v := .i 0) rfl (fun _ _ => rfl) (VO.n (VW.k1 1 rfl (VW.seq (VW.q (VO.r (v := .agg (Node.l a0)) (r_load_q (i := 0) rfl sz29 rfl rfl rfl) rfl rfl ?_)))))
  obtain ⟨⟨rv_1, rv_2⟩, hx_3, h⟩ := obind h
  try dsimp only at h
  refine VO.k (w_keep rfl fn37 rfl ⟨_, _, rfl, rfl, rfl⟩ (set_size_ok _ _ hx_3)) rfl rfl (VO.m rfl rfl (VO.t (v := .i rv_1) (t_extract rfl rfl rfl) rfl rfl (VO.t (v := .i rv_2) (t_extract rfl rfl rfl) rfl rfl (VO.a (v := .i rv_1) rfl rfl (VO.a (v := .i rv_2) rfl rfl (VO.n (VW.k3 1 3 4 rfl (VW.q (VO.m rfl rfl ?_)))))))))
  refine VO.t (v := .bool (decide (rv_1 > 200))) (t_cmp rfl rfl rfl (fun _ _ => rfl) rfl) rfl rfl (VO.m rfl rfl ?_)
  refine VO.caseB (d := 12) (b := (decide (rv_1 > 200))) rfl (fun hc_4 => ?_) (fun hc_4 => ?_)
  · replace h := iteT h hc_4
    refine VO.s rfl (VO.s rfl (VO.t (v := .bool true) (t_pick (b := true) rfl rfl (fun _ => (fun _ _ => rfl)) (fun h => by cases h)) rfl rfl (VO.n (VW.k2 1 15 rfl (VW.condT rfl (VW.q (VO.a (v := .i 2) rfl (fun _ _ => rfl) (VO.n (VW.ret ?_)))))))))
    refine thenQ_ret ?_
    cases oi h
    exact ret0 rfl rfl ⟨rfl, rfl⟩
  · replace h := iteF h hc_4
    refine VO.gt (v := .i rv_2) (t_move rfl rfl) rfl rfl rfl rfl (VO.gt (v := .bool (decide (rv_2 > 20))) (t_cmp rfl rfl rfl (fun _ _ => rfl) rfl) rfl rfl rfl rfl (VO.t (v := .bool (decide (rv_2 > 20))) (t_pick (b := false) rfl rfl (fun h => by cases h) (fun _ => rfl)) rfl rfl (VO.n (VW.k2 1 15 rfl ?_))))
    refine VW.cond (b := (decide (rv_2 > 20))) rfl (fun hc_5 => ?_) (fun hc_5 => ?_)
    · replace h := iteT h hc_5
      refine VW.q (VO.a (v := .i 2) rfl (fun _ _ => rfl) (VO.n (VW.ret (thenQ_ret ?_))))
      cases oi h
      exact ret0 rfl rfl ⟨rfl, rfl⟩
    · replace h := iteF h hc_5
      refine VW.skip (thenQ_normal (VW.k1 1 rfl (VW.seq (VW.q (VO.r (v := .agg (Node.l a0)) (r_load_q (i := 0) rfl sz29 rfl rfl rfl) rfl rfl ?_)))))
      obtain ⟨rv_6, hx_7, h⟩ := obind h
      refine VO.k (w_keep rfl fn38 rfl ⟨_, _, rfl, rfl, rfl⟩ (set_formed_ok _ _ hx_7)) rfl rfl (VO.t (v := .bool (!rv_6)) (t_not rfl rfl rfl) rfl rfl (VO.n (VW.k1 18 rfl (VW.hsub (A := hq [] []) (hq_sub (.cons _ .slnil) .slnil) ?_))))
      refine VW.cond (b := (!rv_6)) rfl (fun hc_8 => ?_) (fun hc_8 => ?_)
      · replace h := iteT h hc_8
        refine VW.q (VO.a (v := .i 1) rfl (fun _ _ => rfl) (VO.n (VW.ret (thenQ_ret ?_))))
        cases oi h
        exact ret0 rfl rfl ⟨rfl, rfl⟩
      · replace h := iteF h hc_8
        refine VW.skip (thenQ_normal (VW.subN (t' := []) trivial rfl (VW.q (VO.a (v := .i 0) rfl (fun _ _ => rfl) (VO.n (VW.ret ?_))))))
        cases oi h
        exact ret0 rfl rfl ⟨rfl, rfl⟩

theorem set_limited_ok (a0 : List Pr) (r : List Pr × Int) (h : PL.set_limited a0 = some r) :
    VCalls Tryd.prog 23 [.sl .fz (a0.map Pr.c)] (hq [] []) (fun v H => .tup [.sl .fz (r.1.map Pr.c), .i r.2] = v ∧ H = hq [] []) := by
  unfold PL.set_limited at h
  refine VCalls.of_body 8 [2, 3] Tryd.func23 rfl rfl rfl (nle rfl) (VW.k1 0 rfl (VW.q (VO.a (v := .sl .nl []) rfl (fun _ _ => .inl ⟨rfl, .inl rfl⟩) (VO.a (v := .i 0) rfl (fun _ _ => rfl) (VO.n (VW.k1 0 rfl (VW.seq (VW.q (VO.m rfl rfl ?_)))))))))
  refine VO.t (v := .i (a0.length : Int)) (t_len rfl ⟨_, Tryd.underlying31⟩ rfl (by rw [List.length_map])) rfl rfl (VO.t (v := .bool (decide ((a0.length : Int) > 100))) (t_cmp rfl rfl rfl (fun _ _ => rfl) rfl) rfl rfl (VO.n (VW.k2 0 6 rfl ?_)))
  refine VW.cond (b := (decide ((a0.length : Int) > 100))) rfl (fun hc_0 => ?_) (fun hc_0 => ?_)
  · replace h := iteT h hc_0
    refine VW.q (VO.a (v := .sl .nl []) rfl (fun _ _ => .inl ⟨rfl, .inl rfl⟩) (VO.a (v := .i 2) rfl (fun _ _ => rfl) (VO.n (VW.k2 2 3 rfl (VW.ret (thenQ_ret ?_))))))
    obtain rfl := oi h
    exact ⟨.inr rfl, rfl, _, .tup [.sl .fz [], .i 2], hq [] [], ⟨_, _, rfl, rfl, rfl⟩, VLe.tup ⟨VLe.sl _ _, VLe.refl _, trivial⟩, hq_sub .slnil .slnil, rfl, rfl⟩
  · replace h := iteF h hc_0
    refine VW.skip (thenQ_normal (VW.k1 0 rfl (VW.q (VO.m rfl rfl (VO.a (v := .sl .fz (a0.map Pr.c)) rfl rfl (VO.a (v := .i 0) rfl (fun _ _ => rfl) (VO.n (VW.k2 2 3 rfl (VW.ret ?_)))))))))
    obtain rfl := oi h
    exact ⟨.inr rfl, rfl, _, .tup [.sl .fz (a0.map Pr.c), .i 0], hq [] [], ⟨_, _, rfl, rfl, rfl⟩, VLe.tup ⟨VLe.refl _, VLe.refl _, trivial⟩, hq_sub .slnil .slnil, rfl, rfl⟩

theorem slices_insertionSortCmpFunc_2int.l1_ok (a3 : Pr → Pr → Option Int) (a1 : Int) (a2 : Int) (i_0 : Int) (a3_f : Nat) (a3_a a3_c : List VV) (a3_g : Seg) (a3_k : FnOK Tryd.prog a3_f) (a3_h : ∀ (y0 : Pr) (y1 : Pr) (z : Int), a3 y0 y1 = some z → VCalls Tryd.prog a3_f (a3_a ++ [.agg (Pr.c y0), .agg (Pr.c y1)] ++ a3_c) (hq [a3_g] []) (fun v H => .i z = v ∧ H = hq [a3_g] [])) {Q : Exit → Env → HH → Prop} :
    ∀ (bu_1 : List Pr) (j_2 : Int) (o : (List Pr)), PL.slices_insertionSortCmpFunc_2int.l1 a3 a1 a2 i_0 bu_1 j_2 = some o →
    ∀ (vp0_3 : VV) (bp0_3 : Seg) (hbp0_3 : Buf 2 (bu_1.map Pr.c) vp0_3 bp0_3) (hx0 : ∀ (bu_4 : List Pr) (bp0_5 : Seg), bu_4 = o → Buf 2 (bu_4.map Pr.c) vp0_3 bp0_5 → Q (.exit 2) ⟨[(0, vp0_3), (1, .i a1), (2, .i a2), (3, .func (.func a3_f) a3_a a3_c), (8, .i i_0)], []⟩ (hq ([a3_g, bp0_5]) [])), VW Tryd.prog 53 (codeAt [1, 0, 0, 1, 0, 0, 1, 0, 0] (bodyOf Tryd.f70)) (thenQ (VL Tryd.prog 53 (codeAt [1, 0, 0, 1, 0, 0, 1, 0, 0] (bodyOf Tryd.f70)) Q) Q) ⟨[(0, vp0_3), (1, .i a1), (2, .i a2), (3, .func (.func a3_f) a3_a a3_c), (8, .i i_0), (9, .i j_2)], []⟩ (hq ([bp0_3, a3_g]) []) := by
  refine PL.slices_insertionSortCmpFunc_2int.l1.partial_correctness a3 a1 a2 i_0 (motive := fun bu_1 j_2 o => ∀ (vp0_3 : VV) (bp0_3 : Seg) (hbp0_3 : Buf 2 (bu_1.map Pr.c) vp0_3 bp0_3) (hx0 : ∀ (bu_4 : List Pr) (bp0_5 : Seg), bu_4 = o → Buf 2 (bu_4.map Pr.c) vp0_3 bp0_5 → Q (.exit 2) ⟨[(0, vp0_3), (1, .i a1), (2, .i a2), (3, .func (.func a3_f) a3_a a3_c), (8, .i i_0)], []⟩ (hq ([a3_g, bp0_5]) [])), VW Tryd.prog 53 (codeAt [1, 0, 0, 1, 0, 0, 1, 0, 0] (bodyOf Tryd.f70)) (thenQ (VL Tryd.prog 53 (codeAt [1, 0, 0, 1, 0, 0, 1, 0, 0] (bodyOf Tryd.f70)) Q) Q) ⟨[(0, vp0_3), (1, .i a1), (2, .i a2), (3, .func (.func a3_f) a3_a a3_c), (8, .i i_0), (9, .i j_2)], []⟩ (hq ([bp0_3, a3_g]) [])) ?_
  intro _ ih bu_1 j_2 o h vp0_3 bp0_3 hbp0_3 hx0
  refine VW.seq (VW.seq (VW.draw 17 mix rfl (VA.t (i := 0) rfl (t_move rfl rfl) (.inl rfl) (by kernel_rfl) (VA.t (i := 1) rfl (t_move rfl rfl) (.inl rfl) (by kernel_rfl) (VA.t (i := 2) (v := .bool (decide (j_2 > a1))) rfl (t_cmp rfl rfl rfl rfl rfl) (.inl rfl) (by kernel_rfl) (VA.t (i := 3) rfl (t_move rfl rfl) (.inl rfl) (by kernel_rfl) ?_))))))
  refine VA.caseB (d := 21) (b := (decide (j_2 > a1))) rfl (fun hc_6 => ?_) (fun hc_6 => ?_)
  · replace h := iteT h hc_6
    refine VA.phase (g := 3) [4, 5, 6, 7, 8, 9, 10, 11, 12, 13] 10 (VP.take (i := 4) rfl (TOp.r (t_move rfl rfl)) (.inr ⟨_, _, _, rfl, rfl, rfl⟩) (by kernel_rfl) (VP.take (i := 5) rfl (TOp.r (t_move rfl rfl)) (.inr ⟨_, _, _, rfl, rfl, rfl⟩) (by kernel_rfl) (VP.take (i := 6) rfl (TOp.r (t_move rfl rfl)) (.inr ⟨_, _, _, rfl, rfl, rfl⟩) (by kernel_rfl) ?_)))
    obtain ⟨c_7, hc_7, h⟩ := obind h
    obtain ⟨ob_8, cap_8, len_8, sl_8, rfl, rfl, hE_8, hl_8, hc_8, hs_8⟩ := buf_at hbp0_3 hc_7
    refine VP.take (i := 7) (v := .ptr ob_8 (j_2.toNat * 2 + 0)) rfl (TOp.r (t_index_own rfl sl31 rfl rfl (getI_some hc_7).1 (by rw [hl_8]; exact getI_lt hc_7) rfl)) (.inr ⟨_, _, _, rfl, rfl, rfl⟩) (by kernel_rfl) (VP.take (i := 8) (v := .agg (Pr.c c_7)) rfl (r_load_buf (n := 2) (f := 0) (j := 0) rfl sz59 rfl rfl hE_8 (map_get (getI_some hc_7).2 (Pr.c_eq c_7)) (nle rfl) (fun _ => ofCells_agg rfl)) (.inr ⟨_, _, _, rfl, rfl, rfl⟩) (by kernel_rfl) (VP.take (i := 9) rfl (TOp.r (t_move rfl rfl)) (.inr ⟨_, _, _, rfl, rfl, rfl⟩) (by kernel_rfl) (VP.take (i := 10) rfl (TOp.r (t_move rfl rfl)) (.inr ⟨_, _, _, rfl, rfl, rfl⟩) (by kernel_rfl) (VP.take (i := 11) (v := .i (w64 (j_2 - 1))) rfl (TOp.r (t_sub rfl rfl (fun _ _ => rfl) rfl)) (.inr ⟨_, _, _, rfl, rfl, rfl⟩) (by kernel_rfl) ?_))))
    obtain ⟨c_9, hc_9, h⟩ := obind h
    refine VP.take (i := 12) (v := .ptr ob_8 ((w64 (j_2 - 1)).toNat * 2 + 0)) rfl (TOp.r (t_index_own rfl sl31 rfl rfl (getI_some hc_9).1 (by rw [hl_8]; exact getI_lt hc_9) rfl)) (.inr ⟨_, _, _, rfl, rfl, rfl⟩) (by kernel_rfl) (VP.take (i := 13) (v := .agg (Pr.c c_9)) rfl (r_load_buf (n := 2) (f := 0) (j := 0) rfl sz59 rfl rfl hE_8 (map_get (getI_some hc_9).2 (Pr.c_eq c_9)) (nle rfl) (fun _ => ofCells_agg rfl)) (.inr ⟨_, _, _, rfl, rfl, rfl⟩) (by kernel_rfl) (VP.done (by kernel_rfl) (VA.frontS 1 rfl ?_)))
    obtain ⟨rv_10, hx_11, h⟩ := obind h
    refine VA.w (i := 14) (fun v H' => .i rv_10 = v ∧ H' = hq ([a3_g, [(ob_8, .cells ((bu_1.map Pr.c).flatten ++ sl_8))]]) []) rfl (w_call_q (sa := [a3_g]) (sg := [[(ob_8, .cells ((bu_1.map Pr.c).flatten ++ sl_8))]]) (tks := []) rfl a3_k rfl ⟨_, _, rfl, rfl, _, _, rfl, rfl, rfl⟩ (a3_h _ _ _ hx_11) (by rintro v H' ⟨rfl, rfl⟩; exact ⟨[a3_g], rfl, rfl, rfl⟩)) (.inr ⟨_, _, _, rfl, rfl, rfl⟩) (by kernel_rfl) rfl ?_
    rintro _ _ ⟨rfl, rfl⟩
    refine VA.t (i := 15) (v := .bool (decide (rv_10 < 0))) rfl (t_cmp rfl rfl rfl (fun _ _ => rfl) rfl) (.inr ⟨_, _, _, rfl, rfl, rfl⟩) (by kernel_rfl) (VA.t (i := 16) (v := .bool (decide (rv_10 < 0))) rfl (t_pick (b := true) rfl rfl (fun _ => rfl) (fun h => by cases h)) (.inl rfl) (by kernel_rfl) (VA.done (by kernel_rfl) (thenQ_normal (VW.subK (.c 0 rfl (.c 1 rfl (.c 2 rfl (.c 3 rfl (.c 8 rfl (.c 9 rfl (.c 22 rfl (.c 23 rfl (.c 24 rfl (.c 25 rfl (.c 26 rfl (.c 27 rfl (.c 28 rfl (.c 29 rfl (.c 30 rfl (.c 31 rfl (.c 32 rfl (.c 33 rfl (.c 34 rfl .n))))))))))))))))))) rfl ?_))))
    refine VW.cond (b := (decide (rv_10 < 0))) rfl (fun hc_12 => ?_) (fun hc_12 => ?_)
    · replace h := iteT h hc_12
      refine VW.skip (thenQ_normal (VW.subK (.c 0 rfl (.c 1 rfl (.c 2 rfl (.c 3 rfl (.c 8 rfl (.c 9 rfl (.c 22 rfl (.c 23 rfl (.c 24 rfl (.c 25 rfl (.c 26 rfl (.c 27 rfl (.c 28 rfl (.c 29 rfl (.c 30 rfl (.c 31 rfl (.c 32 rfl (.c 33 rfl .n)))))))))))))))))) rfl (VW.seq (VW.block (VW.draw 18 mix rfl (VA.t (i := 0) rfl (t_move rfl rfl) (.inl rfl) (by kernel_rfl) (VA.t (i := 1) rfl (t_move rfl rfl) (.inl rfl) (by kernel_rfl) (VA.t (i := 2) rfl (t_move rfl rfl) (.inl rfl) (by kernel_rfl) (VA.t (i := 3) rfl (t_move rfl rfl) (.inl rfl) (by kernel_rfl) ?_)))))))))
      refine VA.t (i := 4) (v := .i (w64 (j_2 - 1))) rfl (t_sub rfl rfl (fun _ _ => rfl) rfl) (.inl rfl) (by kernel_rfl) (VA.phase (g := 3) [5, 6, 7, 8, 9, 10, 11, 12, 13, 14] 10 (VP.take (i := 5) rfl (TOp.r (t_move rfl rfl)) (.inl rfl) (by kernel_rfl) (VP.take (i := 6) rfl (TOp.r (t_move rfl rfl)) (.inl rfl) (by kernel_rfl) (VP.take (i := 7) (v := .i (w64 (j_2 - 1))) rfl (TOp.r (t_sub rfl rfl (fun _ _ => rfl) rfl)) (.inl rfl) (by kernel_rfl) (VP.take (i := 8) (v := .ptr ob_8 ((w64 (j_2 - 1)).toNat * 2 + 0)) rfl (TOp.r (t_index_own rfl sl31 rfl rfl (getI_some hc_9).1 (by rw [hl_8]; exact getI_lt hc_9) rfl)) (.inl rfl) (by kernel_rfl) (VP.take (i := 9) (v := .agg (Pr.c c_9)) rfl (r_load_buf (n := 2) (f := 0) (j := 1) rfl sz59 rfl rfl hE_8 (map_get (getI_some hc_9).2 (Pr.c_eq c_9)) (nle rfl) (fun _ => ofCells_agg rfl)) (.inl rfl) (by kernel_rfl) (VP.take (i := 10) rfl (TOp.r (t_move rfl rfl)) (.inl rfl) (by kernel_rfl) (VP.take (i := 11) rfl (TOp.r (t_move rfl rfl)) (.inl rfl) (by kernel_rfl) (VP.take (i := 12) (v := .ptr ob_8 (j_2.toNat * 2 + 0)) rfl (TOp.r (t_index_own rfl sl31 rfl rfl (getI_some hc_7).1 (by rw [hl_8]; exact getI_lt hc_7) rfl)) (.inl rfl) (by kernel_rfl) ?_)))))))))
      refine VP.take (i := 13) (v := .agg (Pr.c c_7)) rfl (r_load_buf (n := 2) (f := 0) (j := 1) rfl sz59 rfl rfl hE_8 (map_get (getI_some hc_7).2 (Pr.c_eq c_7)) (nle rfl) (fun _ => ofCells_agg rfl)) (.inl rfl) (by kernel_rfl) (VP.take (i := 14) (v := .ptr ob_8 (j_2.toNat * 2 + 0)) rfl (TOp.r (t_index_own rfl sl31 rfl rfl (getI_some hc_7).1 (by rw [hl_8]; exact getI_lt hc_7) rfl)) (.inl rfl) (by kernel_rfl) (VP.done (by kernel_rfl) (VA.w (i := 15) (fun v H' => .any = v ∧ H' = hq ([a3_g, [(ob_8, .cells (((bu_1.set j_2.toNat c_9).map Pr.c).flatten ++ sl_8))]]) []) rfl (w_store_buf (n := 2) (f := 0) (j := 1) rfl sz59 rfl rfl rfl hE_8 (map_get (getI_some hc_7).2 (Pr.c_eq c_7)) rfl rfl (nle rfl) rfl (map_set (Pr.c_eq c_9)) ⟨rfl, rfl⟩) (.inl rfl) (by kernel_rfl) rfl ?_)))
      rintro _ _ ⟨rfl, rfl⟩
      have hl_13 : len_8 = (bu_1.set j_2.toNat c_9).length := by simp [hl_8]
      obtain ⟨c_14, hc_14, h⟩ := obind h
      refine VA.t (i := 16) (v := .ptr ob_8 ((w64 (j_2 - 1)).toNat * 2 + 0)) rfl (t_index_own rfl sl31 rfl rfl (getI_some hc_14).1 (by rw [hl_13]; exact getI_lt hc_14) rfl) (.inl rfl) (by kernel_rfl) (VA.w (i := 17) (fun v H' => .any = v ∧ H' = hq ([a3_g, [(ob_8, .cells ((((bu_1.set j_2.toNat c_9).set (w64 (j_2 - 1)).toNat c_7).map Pr.c).flatten ++ sl_8))]]) []) rfl (w_store_buf (n := 2) (f := 0) (j := 1) rfl sz59 rfl rfl rfl (elemsOK_map Pr.c_ok _) (map_get (getI_some hc_14).2 (Pr.c_eq c_14)) rfl rfl (nle rfl) rfl (map_set (Pr.c_eq c_7)) ⟨rfl, rfl⟩) (.inl rfl) (by kernel_rfl) rfl ?_)
      rintro _ _ ⟨rfl, rfl⟩
      have hl_15 : len_8 = ((bu_1.set j_2.toNat c_9).set (w64 (j_2 - 1)).toNat c_7).length := by simp [hl_13]
      refine VA.done (by kernel_rfl) (blockQ_normal (thenQ_normal (VW.subK (.c 0 rfl (.c 1 rfl (.c 2 rfl (.c 3 rfl (.c 8 rfl (.c 9 rfl (.c 22 rfl (.c 23 rfl (.c 24 rfl (.c 25 rfl (.c 26 rfl (.c 27 rfl (.c 28 rfl (.c 29 rfl (.c 30 rfl (.c 31 rfl (.c 32 rfl (.c 33 rfl .n)))))))))))))))))) rfl (VW.region (VO.m rfl rfl (VO.t (v := .i (w64 (j_2 - 1))) (t_sub rfl rfl (fun _ _ => rfl) rfl) rfl rfl (VO.a (v := .i (w64 (j_2 - 1))) rfl rfl (VO.nil (thenQ_normal (VL.round ?_))))))))))
      refine VW.k6 0 1 2 3 8 9 rfl (VW.frontS 0 rfl (VW.frontS 1 rfl ?_))
      exact ih _ _ _ h (.own ob_8 cap_8 len_8) [(ob_8, .cells ((((bu_1.set j_2.toNat c_9).set (w64 (j_2 - 1)).toNat c_7).map Pr.c).flatten ++ sl_8))] (Buf.own (n := 2) (l := ((bu_1.set j_2.toNat c_9).set (w64 (j_2 - 1)).toNat c_7).map Pr.c) ob_8 cap_8 len_8 sl_8 (elemsOK_map Pr.c_ok _) (by simp [hl_15]) hc_8 hs_8) hx0
    · replace h := iteF h hc_12
      refine VW.k5 0 1 2 3 8 rfl (VW.exit (thenQ_exit (thenQ_exit ?_)))
      obtain rfl := oi h
      exact hx0 _ [(ob_8, .cells ((bu_1.map Pr.c).flatten ++ sl_8))] rfl (Buf.own (n := 2) (l := bu_1.map Pr.c) ob_8 cap_8 len_8 sl_8 (elemsOK_map Pr.c_ok _) (by simp [hl_8]) hc_8 hs_8)
  · replace h := iteF h hc_6
    refine VA.s 4 rfl (by kernel_rfl) (VA.s 5 rfl (by kernel_rfl) (VA.s 6 rfl (by kernel_rfl) (VA.s 7 rfl (by kernel_rfl) (VA.s 8 rfl (by kernel_rfl) (VA.s 9 rfl (by kernel_rfl) (VA.s 10 rfl (by kernel_rfl) (VA.s 11 rfl (by kernel_rfl) (VA.s 12 rfl (by kernel_rfl) (VA.s 13 rfl (by kernel_rfl) ?_)))))))))
    refine VA.s 14 rfl (by kernel_rfl) (VA.s 15 rfl (by kernel_rfl) (VA.t (i := 16) (v := .bool false) rfl (t_pick (b := false) rfl rfl (fun h => by cases h) (fun _ => (fun _ _ => rfl))) (.inl rfl) (by kernel_rfl) (VA.done (by kernel_rfl) (thenQ_normal (VW.subK (.c 0 rfl (.c 1 rfl (.c 2 rfl (.c 3 rfl (.c 8 rfl (.c 9 rfl (.c 22 rfl (.c 23 rfl (.c 24 rfl (.c 25 rfl (.c 26 rfl (.c 27 rfl (.c 28 rfl (.c 29 rfl (.c 30 rfl (.c 31 rfl (.c 32 rfl (.c 33 rfl (.c 34 rfl .n))))))))))))))))))) rfl (VW.condF rfl (VW.k5 0 1 2 3 8 rfl (VW.frontS 0 rfl (VW.frontS 1 rfl ?_)))))))))
    refine VW.exit (thenQ_exit (thenQ_exit ?_))
    obtain rfl := oi h
    exact hx0 _ bp0_3 rfl hbp0_3

theorem slices_insertionSortCmpFunc_2int.l0_ok (a3 : Pr → Pr → Option Int) (a1 : Int) (a2 : Int) (a3_f : Nat) (a3_a a3_c : List VV) (a3_g : Seg) (a3_k : FnOK Tryd.prog a3_f) (a3_h : ∀ (y0 : Pr) (y1 : Pr) (z : Int), a3 y0 y1 = some z → VCalls Tryd.prog a3_f (a3_a ++ [.agg (Pr.c y0), .agg (Pr.c y1)] ++ a3_c) (hq [a3_g] []) (fun v H => .i z = v ∧ H = hq [a3_g] [])) {Q : Exit → Env → HH → Prop} :
    ∀ (bu_0 : List Pr) (i_1 : Int) (o : (List Pr)), PL.slices_insertionSortCmpFunc_2int.l0 a3 a1 a2 bu_0 i_1 = some o →
    ∀ (vp0_2 : VV) (bp0_2 : Seg) (hbp0_2 : Buf 2 (bu_0.map Pr.c) vp0_2 bp0_2) (hx0 : ∀ (bu_3 : List Pr) (bp0_4 : Seg), bu_3 = o → Buf 2 (bu_3.map Pr.c) vp0_2 bp0_4 → Q (.exit 0) ⟨[], []⟩ (hq ([bp0_4, a3_g]) [])), VW Tryd.prog 53 (codeAt [1, 0, 0] (bodyOf Tryd.f70)) (thenQ (VL Tryd.prog 53 (codeAt [1, 0, 0] (bodyOf Tryd.f70)) Q) Q) ⟨[(0, vp0_2), (1, .i a1), (2, .i a2), (3, .func (.func a3_f) a3_a a3_c), (8, .i i_1)], []⟩ (hq ([bp0_2, a3_g]) []) := by
  refine PL.slices_insertionSortCmpFunc_2int.l0.partial_correctness a3 a1 a2 (motive := fun bu_0 i_1 o => ∀ (vp0_2 : VV) (bp0_2 : Seg) (hbp0_2 : Buf 2 (bu_0.map Pr.c) vp0_2 bp0_2) (hx0 : ∀ (bu_3 : List Pr) (bp0_4 : Seg), bu_3 = o → Buf 2 (bu_3.map Pr.c) vp0_2 bp0_4 → Q (.exit 0) ⟨[], []⟩ (hq ([bp0_4, a3_g]) [])), VW Tryd.prog 53 (codeAt [1, 0, 0] (bodyOf Tryd.f70)) (thenQ (VL Tryd.prog 53 (codeAt [1, 0, 0] (bodyOf Tryd.f70)) Q) Q) ⟨[(0, vp0_2), (1, .i a1), (2, .i a2), (3, .func (.func a3_f) a3_a a3_c), (8, .i i_1)], []⟩ (hq ([bp0_2, a3_g]) [])) ?_
  intro _ ih bu_0 i_1 o h vp0_2 bp0_2 hbp0_2 hx0
  refine VW.seq (VW.q (VO.m rfl rfl (VO.m rfl rfl (VO.t (v := .bool (decide (i_1 < a2))) (t_cmp rfl rfl rfl rfl rfl) rfl rfl (VO.n (VW.k6 0 1 2 3 8 14 rfl ?_))))))
  refine VW.cond (b := (decide (i_1 < a2))) rfl (fun hc_5 => ?_) (fun hc_5 => ?_)
  · replace h := iteT h hc_5
    refine VW.skip (thenQ_normal (VW.k5 0 1 2 3 8 rfl (VW.seq (VW.block (VW.q (VO.m rfl rfl (VO.a (v := .i i_1) rfl rfl (VO.n (VW.k6 0 1 2 3 8 9 rfl ?_)))))))))
    refine VW.block (VW.k6 0 1 2 3 8 9 rfl ?_)
    obtain ⟨o_6, hx_7, h⟩ := obind h
    refine VW.loopL (slices_insertionSortCmpFunc_2int.l1_ok a3 a1 a2 i_1 a3_f a3_a a3_c a3_g a3_k a3_h _ _ _ hx_7 vp0_2 bp0_2 hbp0_2 ?_)
    · intro bu_8 bp0_9 ho_ hbp0_9
      subst ho_
      try dsimp only at h
      refine blockQ_hit (blockQ_normal (thenQ_normal (VW.region (VO.m rfl rfl (VO.t (v := .i (w64 (i_1 + 1))) (t_add rfl rfl (fun _ _ => rfl) rfl) rfl rfl (VO.a (v := .i (w64 (i_1 + 1))) rfl rfl (VO.nil (thenQ_normal (VL.round ?_)))))))))
      refine VW.k5 0 1 2 3 8 rfl (VW.frontS 0 rfl (VW.frontS 1 rfl ?_))
      exact ih _ _ _ h vp0_2 bp0_9 hbp0_9 hx0
  · replace h := iteF h hc_5
    refine VW.subN (t' := []) trivial rfl (VW.exit (thenQ_exit (thenQ_exit ?_)))
    obtain rfl := oi h
    exact hx0 _ bp0_2 rfl hbp0_2

theorem slices_insertionSortCmpFunc_2int_ok (a0 : List Pr) (a1 : Int) (a2 : Int) (a3 : Pr → Pr → Option Int) (r : List Pr) (h : PL.slices_insertionSortCmpFunc_2int a0 a1 a2 a3 = some r) (v0 : VV) (b0 : Seg) (a3_f : Nat) (a3_a : List VV) (a3_c : List VV) (a3_g : Seg) (hB0 : Buf 2 (a0.map Pr.c) v0 b0) (a3_k : FnOK Tryd.prog a3_f) (a3_h : ∀ (y0 : Pr) (y1 : Pr) (z : Int), a3 y0 y1 = some z → VCalls Tryd.prog a3_f (a3_a ++ [.agg (Pr.c y0), .agg (Pr.c y1)] ++ a3_c) (hq [a3_g] []) (fun v H => .i z = v ∧ H = hq [a3_g] [])) :
    VCalls Tryd.prog 70 [v0, .i a1, .i a2, .func (.func a3_f) a3_a a3_c] (hq [b0, a3_g] []) (fun v H => ∃ bk0, Buf 2 (r.map Pr.c) v0 bk0 ∧ .tup [] = v ∧ H = hq [bk0, a3_g] []) := by
  unfold PL.slices_insertionSortCmpFunc_2int at h
  refine VCalls.of_body 53 [] Tryd.func70 rfl rfl rfl (nle rfl) (VW.k4 0 1 2 3 rfl (VW.q (VO.m rfl rfl (VO.t (v := .i (w64 (a1 + 1))) (t_add rfl rfl (fun _ _ => rfl) rfl) rfl rfl (VO.a (v := .i (w64 (a1 + 1))) rfl rfl (VO.n (VW.k5 0 1 2 3 8 rfl (VW.block (VW.k5 0 1 2 3 8 rfl ?_)))))))))
  obtain ⟨o_0, hx_1, h⟩ := obind h
  refine VW.loopL (slices_insertionSortCmpFunc_2int.l0_ok a3 a1 a2 a3_f a3_a a3_c a3_g a3_k a3_h _ _ _ hx_1 v0 b0 hB0 ?_)
  · intro bu_2 bp0_3 ho_ hbp0_3
    subst ho_
    try dsimp only at h
    refine blockQ_hit ?_
    obtain rfl := oi h
    exact ⟨.inl rfl, rfl, _, .tup [], hq [bp0_3, a3_g] [], rfl, VLe.refl _, hq_sub (.cons_cons _ (.cons_cons _ .slnil)) .slnil, bp0_3, hbp0_3, rfl, rfl⟩

theorem slices_siftDownCmpFunc_2int.l0_ok (a4 : Pr → Pr → Option Int) (a2 : Int) (a3 : Int) (a4_f : Nat) (a4_a a4_c : List VV) (a4_g : Seg) (a4_k : FnOK Tryd.prog a4_f) (a4_h : ∀ (y0 : Pr) (y1 : Pr) (z : Int), a4 y0 y1 = some z → VCalls Tryd.prog a4_f (a4_a ++ [.agg (Pr.c y0), .agg (Pr.c y1)] ++ a4_c) (hq [a4_g] []) (fun v H => .i z = v ∧ H = hq [a4_g] [])) {Q : Exit → Env → HH → Prop} :
    ∀ (bu_0 : List Pr) (root_1 : Int) (o : (List Pr) ⊕ (List Pr)), PL.slices_siftDownCmpFunc_2int.l0 a4 a2 a3 bu_0 root_1 = some o →
    ∀ (vp0_2 : VV) (bp0_2 : Seg) (hbp0_2 : Buf 2 (bu_0.map Pr.c) vp0_2 bp0_2) (hx0 : ∀ (bu_3 : List Pr) (bp0_4 : Seg), Sum.inl bu_3 = o → Buf 2 (bu_3.map Pr.c) vp0_2 bp0_4 → Q (.exit 0) ⟨[], []⟩ (hq ([bp0_4, a4_g]) [])) (hx1 : ∀ (bu_5 : List Pr) (bp0_6 : Seg), Sum.inr bu_5 = o → Buf 2 (bu_5.map Pr.c) vp0_2 bp0_6 → Q .ret ⟨[], []⟩ (hq ([bp0_6, a4_g]) [])), VW Tryd.prog 82 (codeAt [1, 0, 0] (bodyOf Tryd.f86)) (thenQ (VL Tryd.prog 82 (codeAt [1, 0, 0] (bodyOf Tryd.f86)) Q) Q) ⟨[(0, vp0_2), (2, .i a2), (3, .i a3), (4, .func (.func a4_f) a4_a a4_c), (10, .i root_1)], []⟩ (hq ([bp0_2, a4_g]) []) := by
  refine PL.slices_siftDownCmpFunc_2int.l0.partial_correctness a4 a2 a3 (motive := fun bu_0 root_1 o => ∀ (vp0_2 : VV) (bp0_2 : Seg) (hbp0_2 : Buf 2 (bu_0.map Pr.c) vp0_2 bp0_2) (hx0 : ∀ (bu_3 : List Pr) (bp0_4 : Seg), Sum.inl bu_3 = o → Buf 2 (bu_3.map Pr.c) vp0_2 bp0_4 → Q (.exit 0) ⟨[], []⟩ (hq ([bp0_4, a4_g]) [])) (hx1 : ∀ (bu_5 : List Pr) (bp0_6 : Seg), Sum.inr bu_5 = o → Buf 2 (bu_5.map Pr.c) vp0_2 bp0_6 → Q .ret ⟨[], []⟩ (hq ([bp0_6, a4_g]) [])), VW Tryd.prog 82 (codeAt [1, 0, 0] (bodyOf Tryd.f86)) (thenQ (VL Tryd.prog 82 (codeAt [1, 0, 0] (bodyOf Tryd.f86)) Q) Q) ⟨[(0, vp0_2), (2, .i a2), (3, .i a3), (4, .func (.func a4_f) a4_a a4_c), (10, .i root_1)], []⟩ (hq ([bp0_2, a4_g]) [])) ?_
  intro _ ih bu_0 root_1 o h vp0_2 bp0_2 hbp0_2 hx0 hx1
  refine VW.block (VW.q (VO.m rfl rfl (VO.t (v := .i (w64 (2 * root_1))) (t_mul rfl (fun _ _ => rfl) rfl rfl) rfl rfl (VO.t (v := .i (w64 ((w64 (2 * root_1)) + 1))) (t_add rfl rfl (fun _ _ => rfl) rfl) rfl rfl (VO.a (v := .i (w64 ((w64 (2 * root_1)) + 1))) rfl rfl (VO.n (VW.k6 0 2 3 4 10 11 rfl (VW.seq (VW.q ?_)))))))))
  refine VO.m rfl rfl (VO.m rfl rfl (VO.t (v := .bool (decide ((w64 ((w64 (2 * root_1)) + 1)) ≥ a2))) (t_cmp rfl rfl rfl rfl rfl) rfl rfl (VO.n (VW.k7 0 2 3 4 10 11 18 rfl ?_))))
  refine VW.cond (b := (decide ((w64 ((w64 (2 * root_1)) + 1)) ≥ a2))) rfl (fun hc_7 => ?_) (fun hc_7 => ?_)
  · replace h := iteT h hc_7
    refine VW.subN (t' := []) trivial rfl (VW.exit (thenQ_exit (blockQ_miss rfl (thenQ_exit ?_))))
    obtain rfl := oi h
    exact hx0 _ bp0_2 rfl hbp0_2
  · replace h := iteF h hc_7
    refine VW.skip (thenQ_normal (VW.k6 0 2 3 4 10 11 rfl (VW.seq (VW.seq (VW.draw 22 mix rfl (VA.t (i := 0) rfl (t_move rfl rfl) (.inl rfl) (by kernel_rfl) (VA.t (i := 1) (v := .i (w64 ((w64 ((w64 (2 * root_1)) + 1)) + 1))) rfl (t_add rfl rfl (fun _ _ => rfl) rfl) (.inl rfl) (by kernel_rfl) (VA.t (i := 2) rfl (t_move rfl rfl) (.inl rfl) (by kernel_rfl) (VA.t (i := 3) (v := .bool (decide ((w64 ((w64 ((w64 (2 * root_1)) + 1)) + 1)) < a2))) rfl (t_cmp rfl rfl rfl rfl rfl) (.inl rfl) (by kernel_rfl) ?_)))))))))
    refine VA.t (i := 4) rfl (t_move rfl rfl) (.inl rfl) (by kernel_rfl) ?_
    refine VA.caseB (d := 23) (b := (decide ((w64 ((w64 ((w64 (2 * root_1)) + 1)) + 1)) < a2))) rfl (fun hc_8 => ?_) (fun hc_8 => ?_)
    · replace h := iteT h hc_8
      refine VA.phase (g := 3) [5, 6, 7, 8, 9, 10, 11, 12, 13, 14, 15, 16, 17, 18] 14 (VP.take (i := 5) rfl (TOp.r (t_move rfl rfl)) (.inr ⟨_, _, _, rfl, rfl, rfl⟩) (by kernel_rfl) (VP.take (i := 6) rfl (TOp.r (t_move rfl rfl)) (.inr ⟨_, _, _, rfl, rfl, rfl⟩) (by kernel_rfl) (VP.take (i := 7) rfl (TOp.r (t_move rfl rfl)) (.inr ⟨_, _, _, rfl, rfl, rfl⟩) (by kernel_rfl) (VP.take (i := 8) rfl (TOp.r (t_move rfl rfl)) (.inr ⟨_, _, _, rfl, rfl, rfl⟩) (by kernel_rfl) (VP.take (i := 9) (v := .i (w64 (a3 + (w64 ((w64 (2 * root_1)) + 1))))) rfl (TOp.r (t_add rfl rfl rfl rfl)) (.inr ⟨_, _, _, rfl, rfl, rfl⟩) (by kernel_rfl) ?_)))))
      obtain ⟨c_9, hc_9, h⟩ := obind h
      obtain ⟨ob_10, cap_10, len_10, sl_10, rfl, rfl, hE_10, hl_10, hc_10, hs_10⟩ := buf_at hbp0_2 hc_9
      refine VP.take (i := 10) (v := .ptr ob_10 ((w64 (a3 + (w64 ((w64 (2 * root_1)) + 1)))).toNat * 2 + 0)) rfl (TOp.r (t_index_own rfl sl31 rfl rfl (getI_some hc_9).1 (by rw [hl_10]; exact getI_lt hc_9) rfl)) (.inr ⟨_, _, _, rfl, rfl, rfl⟩) (by kernel_rfl) (VP.take (i := 11) (v := .agg (Pr.c c_9)) rfl (r_load_buf (n := 2) (f := 0) (j := 0) rfl sz59 rfl rfl hE_10 (map_get (getI_some hc_9).2 (Pr.c_eq c_9)) (nle rfl) (fun _ => ofCells_agg rfl)) (.inr ⟨_, _, _, rfl, rfl, rfl⟩) (by kernel_rfl) (VP.take (i := 12) rfl (TOp.r (t_move rfl rfl)) (.inr ⟨_, _, _, rfl, rfl, rfl⟩) (by kernel_rfl) (VP.take (i := 13) rfl (TOp.r (t_move rfl rfl)) (.inr ⟨_, _, _, rfl, rfl, rfl⟩) (by kernel_rfl) (VP.take (i := 14) rfl (TOp.r (t_move rfl rfl)) (.inr ⟨_, _, _, rfl, rfl, rfl⟩) (by kernel_rfl) (VP.take (i := 15) (v := .i (w64 (a3 + (w64 ((w64 (2 * root_1)) + 1))))) rfl (TOp.r (t_add rfl rfl rfl rfl)) (.inr ⟨_, _, _, rfl, rfl, rfl⟩) (by kernel_rfl) (VP.take (i := 16) (v := .i (w64 ((w64 (a3 + (w64 ((w64 (2 * root_1)) + 1)))) + 1))) rfl (TOp.r (t_add rfl rfl (fun _ _ => rfl) rfl)) (.inr ⟨_, _, _, rfl, rfl, rfl⟩) (by kernel_rfl) ?_))))))
      obtain ⟨c_11, hc_11, h⟩ := obind h
      refine VP.take (i := 17) (v := .ptr ob_10 ((w64 ((w64 (a3 + (w64 ((w64 (2 * root_1)) + 1)))) + 1)).toNat * 2 + 0)) rfl (TOp.r (t_index_own rfl sl31 rfl rfl (getI_some hc_11).1 (by rw [hl_10]; exact getI_lt hc_11) rfl)) (.inr ⟨_, _, _, rfl, rfl, rfl⟩) (by kernel_rfl) (VP.take (i := 18) (v := .agg (Pr.c c_11)) rfl (r_load_buf (n := 2) (f := 0) (j := 0) rfl sz59 rfl rfl hE_10 (map_get (getI_some hc_11).2 (Pr.c_eq c_11)) (nle rfl) (fun _ => ofCells_agg rfl)) (.inr ⟨_, _, _, rfl, rfl, rfl⟩) (by kernel_rfl) (VP.done (by kernel_rfl) (VA.frontS 1 rfl ?_)))
      obtain ⟨rv_12, hx_13, h⟩ := obind h
      refine VA.w (i := 19) (fun v H' => .i rv_12 = v ∧ H' = hq ([a4_g, [(ob_10, .cells ((bu_0.map Pr.c).flatten ++ sl_10))]]) []) rfl (w_call_q (sa := [a4_g]) (sg := [[(ob_10, .cells ((bu_0.map Pr.c).flatten ++ sl_10))]]) (tks := []) rfl a4_k rfl ⟨_, _, rfl, rfl, _, _, rfl, rfl, rfl⟩ (a4_h _ _ _ hx_13) (by rintro v H' ⟨rfl, rfl⟩; exact ⟨[a4_g], rfl, rfl, rfl⟩)) (.inr ⟨_, _, _, rfl, rfl, rfl⟩) (by kernel_rfl) rfl ?_
      rintro _ _ ⟨rfl, rfl⟩
      refine VA.t (i := 20) (v := .bool (decide (rv_12 < 0))) rfl (t_cmp rfl rfl rfl (fun _ _ => rfl) rfl) (.inr ⟨_, _, _, rfl, rfl, rfl⟩) (by kernel_rfl) (VA.t (i := 21) (v := .bool (decide (rv_12 < 0))) rfl (t_pick (b := true) rfl rfl (fun _ => rfl) (fun h => by cases h)) (.inl rfl) (by kernel_rfl) (VA.done (by kernel_rfl) (thenQ_normal (VW.subK (.c 0 rfl (.c 2 rfl (.c 3 rfl (.c 4 rfl (.c 10 rfl (.c 11 rfl (.c 24 rfl (.c 25 rfl (.c 26 rfl (.c 27 rfl (.c 28 rfl (.c 29 rfl (.c 30 rfl (.c 31 rfl (.c 32 rfl (.c 33 rfl (.c 34 rfl (.c 35 rfl (.c 36 rfl (.c 37 rfl (.c 38 rfl (.c 39 rfl (.c 40 rfl .n))))))))))))))))))))))) rfl ?_))))
      obtain ⟨o_14, h, hx_15⟩ := obind h
      refine VW.joinQ (E := Int × Seg) (I := fun ⟨child_16, bp0_17⟩ => child_16 = o_14 ∧ Buf 2 (bu_0.map Pr.c) (.own ob_10 cap_10 len_10) bp0_17 ∧ True) (env' := fun ⟨child_16, bp0_17⟩ => ⟨[(0, .own ob_10 cap_10 len_10), (2, .i a2), (3, .i a3), (4, .func (.func a4_f) a4_a a4_c), (10, .i root_1), (24, .func (.func a4_f) a4_a a4_c), (25, .own ob_10 cap_10 len_10), (26, .i a3), (27, .i (w64 ((w64 (2 * root_1)) + 1))), (28, .i (w64 (a3 + (w64 ((w64 (2 * root_1)) + 1))))), (30, .agg (Pr.c c_9)), (31, .own ob_10 cap_10 len_10), (32, .i a3), (33, .i (w64 ((w64 (2 * root_1)) + 1))), (34, .i (w64 (a3 + (w64 ((w64 (2 * root_1)) + 1))))), (35, .i (w64 ((w64 (a3 + (w64 ((w64 (2 * root_1)) + 1)))) + 1))), (37, .agg (Pr.c c_11)), (38, .i rv_12), (39, .bool (decide (rv_12 < 0))), (11, .i child_16)], []⟩) (H' := fun ⟨child_16, bp0_17⟩ => hq ([a4_g, bp0_17]) []) ?_ (fun J_18 => ?_)
      · rintro ⟨child_16, bp0_17⟩ ⟨ho_, hbp0_17, _⟩
        subst ho_
        replace h := hx_15
        clear hx_15
        try dsimp only at h
        show VW _ _ _ _ ⟨[(0, .own ob_10 cap_10 len_10), (2, .i a2), (3, .i a3), (4, .func (.func a4_f) a4_a a4_c), (10, .i root_1), (24, .func (.func a4_f) a4_a a4_c), (25, .own ob_10 cap_10 len_10), (26, .i a3), (27, .i (w64 ((w64 (2 * root_1)) + 1))), (28, .i (w64 (a3 + (w64 ((w64 (2 * root_1)) + 1))))), (30, .agg (Pr.c c_9)), (31, .own ob_10 cap_10 len_10), (32, .i a3), (33, .i (w64 ((w64 (2 * root_1)) + 1))), (34, .i (w64 (a3 + (w64 ((w64 (2 * root_1)) + 1))))), (35, .i (w64 ((w64 (a3 + (w64 ((w64 (2 * root_1)) + 1)))) + 1))), (37, .agg (Pr.c c_11)), (38, .i rv_12), (39, .bool (decide (rv_12 < 0))), (11, .i child_16)], []⟩ (hq ([a4_g, bp0_17]) [])
        refine VW.seq (VW.seq (VW.draw 16 mix rfl (VA.phase (g := 3) [0, 1, 2, 3, 4, 5, 6, 7, 8, 9, 10, 11, 12] 13 (VP.take (i := 0) rfl (TOp.r (t_move rfl rfl)) (.inl rfl) (by kernel_rfl) (VP.take (i := 1) rfl (TOp.r (t_move rfl rfl)) (.inl rfl) (by kernel_rfl) (VP.take (i := 2) rfl (TOp.r (t_move rfl rfl)) (.inl rfl) (by kernel_rfl) (VP.take (i := 3) rfl (TOp.r (t_move rfl rfl)) (.inl rfl) (by kernel_rfl) (VP.take (i := 4) (v := .i (w64 (a3 + root_1))) rfl (TOp.r (t_add rfl rfl rfl rfl)) (.inl rfl) (by kernel_rfl) ?_))))))))
        obtain ⟨c_19, hc_19, h⟩ := obind h
        obtain ⟨sl_20, rfl, hE_20, hl_20, hc_20, hs_20⟩ := buf_own hbp0_17
        refine VP.take (i := 5) (v := .ptr ob_10 ((w64 (a3 + root_1)).toNat * 2 + 0)) rfl (TOp.r (t_index_own rfl sl31 rfl rfl (getI_some hc_19).1 (by rw [hl_20]; exact getI_lt hc_19) rfl)) (.inl rfl) (by kernel_rfl) (VP.take (i := 6) (v := .agg (Pr.c c_19)) rfl (r_load_buf (n := 2) (f := 0) (j := 1) rfl sz59 rfl rfl hE_20 (map_get (getI_some hc_19).2 (Pr.c_eq c_19)) (nle rfl) (fun _ => ofCells_agg rfl)) (.inl rfl) (by kernel_rfl) (VP.take (i := 7) rfl (TOp.r (t_move rfl rfl)) (.inl rfl) (by kernel_rfl) (VP.take (i := 8) rfl (TOp.r (t_move rfl rfl)) (.inl rfl) (by kernel_rfl) (VP.take (i := 9) rfl (TOp.r (t_move rfl rfl)) (.inl rfl) (by kernel_rfl) (VP.take (i := 10) (v := .i (w64 (a3 + child_16))) rfl (TOp.r (t_add rfl rfl rfl rfl)) (.inl rfl) (by kernel_rfl) ?_)))))
        obtain ⟨c_21, hc_21, h⟩ := obind h
        refine VP.take (i := 11) (v := .ptr ob_10 ((w64 (a3 + child_16)).toNat * 2 + 0)) rfl (TOp.r (t_index_own rfl sl31 rfl rfl (getI_some hc_21).1 (by rw [hl_20]; exact getI_lt hc_21) rfl)) (.inl rfl) (by kernel_rfl) (VP.take (i := 12) (v := .agg (Pr.c c_21)) rfl (r_load_buf (n := 2) (f := 0) (j := 1) rfl sz59 rfl rfl hE_20 (map_get (getI_some hc_21).2 (Pr.c_eq c_21)) (nle rfl) (fun _ => ofCells_agg rfl)) (.inl rfl) (by kernel_rfl) (VP.done (by kernel_rfl) ?_))
        obtain ⟨rv_22, hx_23, h⟩ := obind h
        refine VA.w (i := 13) (fun v H' => .i rv_22 = v ∧ H' = hq ([a4_g, [(ob_10, .cells ((bu_0.map Pr.c).flatten ++ sl_20))]]) []) rfl (w_call_q (sa := [a4_g]) (sg := [[(ob_10, .cells ((bu_0.map Pr.c).flatten ++ sl_20))]]) (tks := []) rfl a4_k rfl ⟨_, _, rfl, rfl, _, _, rfl, rfl, rfl⟩ (a4_h _ _ _ hx_23) (by rintro v H' ⟨rfl, rfl⟩; exact ⟨[a4_g], rfl, rfl, rfl⟩)) (.inl rfl) (by kernel_rfl) rfl ?_
        rintro _ _ ⟨rfl, rfl⟩
        refine VA.t (i := 14) (v := .bool (decide (rv_22 < 0))) rfl (t_cmp rfl rfl rfl (fun _ _ => rfl) rfl) (.inl rfl) (by kernel_rfl) (VA.t (i := 15) (v := .bool (!(decide (rv_22 < 0)))) rfl (t_not rfl rfl rfl) (.inl rfl) (by kernel_rfl) (VA.done (by kernel_rfl) (thenQ_normal (VW.subK (.c 0 rfl (.c 2 rfl (.c 3 rfl (.c 4 rfl (.c 10 rfl (.c 24 rfl (.c 25 rfl (.c 26 rfl (.c 27 rfl (.c 28 rfl (.c 30 rfl (.c 31 rfl (.c 32 rfl (.c 33 rfl (.c 34 rfl (.c 35 rfl (.c 37 rfl (.c 38 rfl (.c 39 rfl (.c 11 rfl (.c 58 rfl .n))))))))))))))))))))) rfl ?_))))
        refine VW.cond (b := (!(decide (rv_22 < 0)))) rfl (fun hc_24 => ?_) (fun hc_24 => ?_)
        · replace h := iteT h hc_24
          refine VW.subN (t' := []) trivial rfl (VW.frontS 0 rfl (VW.frontS 1 rfl (VW.subN (t' := []) trivial rfl (VW.ret (thenQ_ret (blockQ_ret (thenQ_ret ?_)))))))
          obtain rfl := oi h
          exact hx1 _ [(ob_10, .cells ((bu_0.map Pr.c).flatten ++ sl_20))] rfl (Buf.own (n := 2) (l := bu_0.map Pr.c) ob_10 cap_10 len_10 sl_20 (elemsOK_map Pr.c_ok _) (by simp [hl_20]) hc_20 hs_20)
        · replace h := iteF h hc_24
          refine VW.skip (thenQ_normal (VW.subK (.c 0 rfl (.c 2 rfl (.c 3 rfl (.c 4 rfl (.c 10 rfl (.c 24 rfl (.c 25 rfl (.c 26 rfl (.c 27 rfl (.c 28 rfl (.c 30 rfl (.c 31 rfl (.c 32 rfl (.c 33 rfl (.c 34 rfl (.c 35 rfl (.c 37 rfl (.c 38 rfl (.c 39 rfl (.c 11 rfl .n)))))))))))))))))))) rfl (VW.seq (VW.draw 24 mix rfl (VA.t (i := 0) rfl (t_move rfl rfl) (.inl rfl) (by kernel_rfl) (VA.t (i := 1) rfl (t_move rfl rfl) (.inl rfl) (by kernel_rfl) (VA.t (i := 2) rfl (t_move rfl rfl) (.inl rfl) (by kernel_rfl) (VA.t (i := 3) (v := .i (w64 (a3 + root_1))) rfl (t_add rfl rfl rfl rfl) (.inl rfl) (by kernel_rfl) (VA.t (i := 4) rfl (t_move rfl rfl) (.inl rfl) (by kernel_rfl) ?_)))))))))
          refine VA.t (i := 5) rfl (t_move rfl rfl) (.inl rfl) (by kernel_rfl) (VA.t (i := 6) rfl (t_move rfl rfl) (.inl rfl) (by kernel_rfl) (VA.t (i := 7) (v := .i (w64 (a3 + child_16))) rfl (t_add rfl rfl rfl rfl) (.inl rfl) (by kernel_rfl) (VA.phase (g := 3) [8, 9, 10, 11, 12, 13, 14, 15, 16, 17, 18, 19, 20] 13 (VP.take (i := 8) rfl (TOp.r (t_move rfl rfl)) (.inl rfl) (by kernel_rfl) (VP.take (i := 9) rfl (TOp.r (t_move rfl rfl)) (.inl rfl) (by kernel_rfl) (VP.take (i := 10) rfl (TOp.r (t_move rfl rfl)) (.inl rfl) (by kernel_rfl) (VP.take (i := 11) (v := .i (w64 (a3 + child_16))) rfl (TOp.r (t_add rfl rfl rfl rfl)) (.inl rfl) (by kernel_rfl) (VP.take (i := 12) (v := .ptr ob_10 ((w64 (a3 + child_16)).toNat * 2 + 0)) rfl (TOp.r (t_index_own rfl sl31 rfl rfl (getI_some hc_21).1 (by rw [hl_20]; exact getI_lt hc_21) rfl)) (.inl rfl) (by kernel_rfl) (VP.take (i := 13) (v := .agg (Pr.c c_21)) rfl (r_load_buf (n := 2) (f := 0) (j := 1) rfl sz59 rfl rfl hE_20 (map_get (getI_some hc_21).2 (Pr.c_eq c_21)) (nle rfl) (fun _ => ofCells_agg rfl)) (.inl rfl) (by kernel_rfl) ?_)))))))))
          refine VP.take (i := 14) rfl (TOp.r (t_move rfl rfl)) (.inl rfl) (by kernel_rfl) (VP.take (i := 15) rfl (TOp.r (t_move rfl rfl)) (.inl rfl) (by kernel_rfl) (VP.take (i := 16) rfl (TOp.r (t_move rfl rfl)) (.inl rfl) (by kernel_rfl) (VP.take (i := 17) (v := .i (w64 (a3 + root_1))) rfl (TOp.r (t_add rfl rfl rfl rfl)) (.inl rfl) (by kernel_rfl) (VP.take (i := 18) (v := .ptr ob_10 ((w64 (a3 + root_1)).toNat * 2 + 0)) rfl (TOp.r (t_index_own rfl sl31 rfl rfl (getI_some hc_19).1 (by rw [hl_20]; exact getI_lt hc_19) rfl)) (.inl rfl) (by kernel_rfl) (VP.take (i := 19) (v := .agg (Pr.c c_19)) rfl (r_load_buf (n := 2) (f := 0) (j := 1) rfl sz59 rfl rfl hE_20 (map_get (getI_some hc_19).2 (Pr.c_eq c_19)) (nle rfl) (fun _ => ofCells_agg rfl)) (.inl rfl) (by kernel_rfl) (VP.take (i := 20) (v := .ptr ob_10 ((w64 (a3 + root_1)).toNat * 2 + 0)) rfl (TOp.r (t_index_own rfl sl31 rfl rfl (getI_some hc_19).1 (by rw [hl_20]; exact getI_lt hc_19) rfl)) (.inl rfl) (by kernel_rfl) (VP.done (by kernel_rfl) (VA.w (i := 21) (fun v H' => .any = v ∧ H' = hq ([a4_g, [(ob_10, .cells (((bu_0.set (w64 (a3 + root_1)).toNat c_21).map Pr.c).flatten ++ sl_20))]]) []) rfl (w_store_buf (n := 2) (f := 0) (j := 1) rfl sz59 rfl rfl rfl hE_20 (map_get (getI_some hc_19).2 (Pr.c_eq c_19)) rfl rfl (nle rfl) rfl (map_set (Pr.c_eq c_21)) ⟨rfl, rfl⟩) (.inl rfl) (by kernel_rfl) rfl ?_))))))))
          rintro _ _ ⟨rfl, rfl⟩
          have hl_25 : len_10 = (bu_0.set (w64 (a3 + root_1)).toNat c_21).length := by simp [hl_20]
          obtain ⟨c_26, hc_26, h⟩ := obind h
          refine VA.t (i := 22) (v := .ptr ob_10 ((w64 (a3 + child_16)).toNat * 2 + 0)) rfl (t_index_own rfl sl31 rfl rfl (getI_some hc_26).1 (by rw [hl_25]; exact getI_lt hc_26) rfl) (.inl rfl) (by kernel_rfl) (VA.w (i := 23) (fun v H' => .any = v ∧ H' = hq ([a4_g, [(ob_10, .cells ((((bu_0.set (w64 (a3 + root_1)).toNat c_21).set (w64 (a3 + child_16)).toNat c_19).map Pr.c).flatten ++ sl_20))]]) []) rfl (w_store_buf (n := 2) (f := 0) (j := 1) rfl sz59 rfl rfl rfl (elemsOK_map Pr.c_ok _) (map_get (getI_some hc_26).2 (Pr.c_eq c_26)) rfl rfl (nle rfl) rfl (map_set (Pr.c_eq c_19)) ⟨rfl, rfl⟩) (.inl rfl) (by kernel_rfl) rfl ?_)
          rintro _ _ ⟨rfl, rfl⟩
          have hl_27 : len_10 = ((bu_0.set (w64 (a3 + root_1)).toNat c_21).set (w64 (a3 + child_16)).toNat c_19).length := by simp [hl_25]
          refine VA.done (by kernel_rfl) (thenQ_normal (VW.subK (.c 0 rfl (.c 2 rfl (.c 3 rfl (.c 4 rfl (.c 24 rfl (.c 25 rfl (.c 26 rfl (.c 27 rfl (.c 28 rfl (.c 30 rfl (.c 31 rfl (.c 32 rfl (.c 33 rfl (.c 34 rfl (.c 35 rfl (.c 37 rfl (.c 38 rfl (.c 39 rfl (.c 11 rfl .n))))))))))))))))))) rfl (VW.region (VO.m rfl rfl (VO.a (v := .i child_16) rfl rfl (VO.nil (blockQ_normal (thenQ_normal (VL.round ?_)))))))))
          refine VW.k5 0 2 3 4 10 rfl (VW.frontS 0 rfl (VW.frontS 1 rfl ?_))
          exact ih _ _ _ h (.own ob_10 cap_10 len_10) [(ob_10, .cells ((((bu_0.set (w64 (a3 + root_1)).toNat c_21).set (w64 (a3 + child_16)).toNat c_19).map Pr.c).flatten ++ sl_20))] (Buf.own (n := 2) (l := ((bu_0.set (w64 (a3 + root_1)).toNat c_21).set (w64 (a3 + child_16)).toNat c_19).map Pr.c) ob_10 cap_10 len_10 sl_20 (elemsOK_map Pr.c_ok _) (by simp [hl_27]) hc_20 hs_20) hx0 hx1
      · refine VW.cond (b := (decide (rv_12 < 0))) rfl (fun hc_28 => ?_) (fun hc_28 => ?_)
        · replace h := iteT h hc_28
          refine VW.region (VO.m rfl rfl (VO.t (v := .i (w64 ((w64 ((w64 (2 * root_1)) + 1)) + 1))) (t_add rfl rfl (fun _ _ => rfl) rfl) rfl rfl (VO.a (v := .i (w64 ((w64 ((w64 (2 * root_1)) + 1)) + 1))) rfl rfl (VO.subK (.c 0 rfl (.c 2 rfl (.c 3 rfl (.c 4 rfl (.c 10 rfl (.c 24 rfl (.c 25 rfl (.c 26 rfl (.c 27 rfl (.c 28 rfl (.c 30 rfl (.c 31 rfl (.c 32 rfl (.c 33 rfl (.c 34 rfl (.c 35 rfl (.c 37 rfl (.c 38 rfl (.c 39 rfl (.c 11 rfl .n)))))))))))))))))))) rfl (VO.nil ?_)))))
          exact thenQ_normal (J_18 ⟨w64 ((w64 ((w64 (2 * root_1)) + 1)) + 1), [(ob_10, .cells ((bu_0.map Pr.c).flatten ++ sl_10))]⟩ ⟨Option.some.inj h, (Buf.own (n := 2) (l := bu_0.map Pr.c) ob_10 cap_10 len_10 sl_10 (elemsOK_map Pr.c_ok _) (by simp [hl_10]) hc_10 hs_10), trivial⟩)
        · replace h := iteF h hc_28
          refine VW.subK (.c 0 rfl (.c 2 rfl (.c 3 rfl (.c 4 rfl (.c 10 rfl (.c 24 rfl (.c 25 rfl (.c 26 rfl (.c 27 rfl (.c 28 rfl (.c 30 rfl (.c 31 rfl (.c 32 rfl (.c 33 rfl (.c 34 rfl (.c 35 rfl (.c 37 rfl (.c 38 rfl (.c 39 rfl (.c 11 rfl .n)))))))))))))))))))) rfl (VW.skip ?_)
          exact thenQ_normal (J_18 ⟨w64 ((w64 (2 * root_1)) + 1), [(ob_10, .cells ((bu_0.map Pr.c).flatten ++ sl_10))]⟩ ⟨Option.some.inj h, (Buf.own (n := 2) (l := bu_0.map Pr.c) ob_10 cap_10 len_10 sl_10 (elemsOK_map Pr.c_ok _) (by simp [hl_10]) hc_10 hs_10), trivial⟩)
    · replace h := iteF h hc_8
      refine VA.s 5 rfl (by kernel_rfl) (VA.s 6 rfl (by kernel_rfl) (VA.s 7 rfl (by kernel_rfl) (VA.s 8 rfl (by kernel_rfl) (VA.s 9 rfl (by kernel_rfl) (VA.s 10 rfl (by kernel_rfl) (VA.s 11 rfl (by kernel_rfl) (VA.s 12 rfl (by kernel_rfl) (VA.s 13 rfl (by kernel_rfl) (VA.s 14 rfl (by kernel_rfl) ?_)))))))))
      refine VA.s 15 rfl (by kernel_rfl) (VA.s 16 rfl (by kernel_rfl) (VA.s 17 rfl (by kernel_rfl) (VA.s 18 rfl (by kernel_rfl) (VA.s 19 rfl (by kernel_rfl) (VA.s 20 rfl (by kernel_rfl) (VA.t (i := 21) (v := .bool false) rfl (t_pick (b := false) rfl rfl (fun h => by cases h) (fun _ => (fun _ _ => rfl))) (.inl rfl) (by kernel_rfl) (VA.done (by kernel_rfl) (thenQ_normal (VW.subK (.c 0 rfl (.c 2 rfl (.c 3 rfl (.c 4 rfl (.c 10 rfl (.c 11 rfl (.c 24 rfl (.c 25 rfl (.c 26 rfl (.c 27 rfl (.c 28 rfl (.c 29 rfl (.c 30 rfl (.c 31 rfl (.c 32 rfl (.c 33 rfl (.c 34 rfl (.c 35 rfl (.c 36 rfl (.c 37 rfl (.c 38 rfl (.c 39 rfl (.c 40 rfl .n))))))))))))))))))))))) rfl ?_)))))))))
      refine VW.condF rfl (VW.skip (thenQ_normal (VW.subK (.c 0 rfl (.c 2 rfl (.c 3 rfl (.c 4 rfl (.c 10 rfl (.c 11 rfl (.c 24 rfl (.c 25 rfl (.c 26 rfl (.c 27 rfl (.c 28 rfl (.c 29 rfl (.c 30 rfl (.c 31 rfl (.c 32 rfl (.c 33 rfl (.c 34 rfl (.c 35 rfl (.c 36 rfl (.c 37 rfl (.c 38 rfl (.c 39 rfl .n)))))))))))))))))))))) rfl (VW.seq (VW.seq (VW.draw 16 mix rfl (VA.phase (g := 3) [0, 1, 2, 3, 4, 5, 6, 7, 8, 9, 10, 11, 12] 13 (VP.take (i := 0) rfl (TOp.r (t_move rfl rfl)) (.inl rfl) (by kernel_rfl) (VP.take (i := 1) rfl (TOp.r (t_move rfl rfl)) (.inl rfl) (by kernel_rfl) ?_)))))))))
      refine VP.take (i := 2) rfl (TOp.r (t_move rfl rfl)) (.inl rfl) (by kernel_rfl) (VP.take (i := 3) rfl (TOp.r (t_move rfl rfl)) (.inl rfl) (by kernel_rfl) (VP.take (i := 4) (v := .i (w64 (a3 + root_1))) rfl (TOp.r (t_add rfl rfl rfl rfl)) (.inl rfl) (by kernel_rfl) ?_))
      obtain ⟨c_29, hc_29, h⟩ := obind h
      obtain ⟨ob_30, cap_30, len_30, sl_30, rfl, rfl, hE_30, hl_30, hc_30, hs_30⟩ := buf_at hbp0_2 hc_29
      refine VP.take (i := 5) (v := .ptr ob_30 ((w64 (a3 + root_1)).toNat * 2 + 0)) rfl (TOp.r (t_index_own rfl sl31 rfl rfl (getI_some hc_29).1 (by rw [hl_30]; exact getI_lt hc_29) rfl)) (.inl rfl) (by kernel_rfl) (VP.take (i := 6) (v := .agg (Pr.c c_29)) rfl (r_load_buf (n := 2) (f := 0) (j := 0) rfl sz59 rfl rfl hE_30 (map_get (getI_some hc_29).2 (Pr.c_eq c_29)) (nle rfl) (fun _ => ofCells_agg rfl)) (.inl rfl) (by kernel_rfl) (VP.take (i := 7) rfl (TOp.r (t_move rfl rfl)) (.inl rfl) (by kernel_rfl) (VP.take (i := 8) rfl (TOp.r (t_move rfl rfl)) (.inl rfl) (by kernel_rfl) (VP.take (i := 9) rfl (TOp.r (t_move rfl rfl)) (.inl rfl) (by kernel_rfl) (VP.take (i := 10) (v := .i (w64 (a3 + (w64 ((w64 (2 * root_1)) + 1))))) rfl (TOp.r (t_add rfl rfl rfl rfl)) (.inl rfl) (by kernel_rfl) ?_)))))
      obtain ⟨c_31, hc_31, h⟩ := obind h
      refine VP.take (i := 11) (v := .ptr ob_30 ((w64 (a3 + (w64 ((w64 (2 * root_1)) + 1)))).toNat * 2 + 0)) rfl (TOp.r (t_index_own rfl sl31 rfl rfl (getI_some hc_31).1 (by rw [hl_30]; exact getI_lt hc_31) rfl)) (.inl rfl) (by kernel_rfl) (VP.take (i := 12) (v := .agg (Pr.c c_31)) rfl (r_load_buf (n := 2) (f := 0) (j := 0) rfl sz59 rfl rfl hE_30 (map_get (getI_some hc_31).2 (Pr.c_eq c_31)) (nle rfl) (fun _ => ofCells_agg rfl)) (.inl rfl) (by kernel_rfl) (VP.done (by kernel_rfl) (VA.frontS 1 rfl ?_)))
      obtain ⟨rv_32, hx_33, h⟩ := obind h
      refine VA.w (i := 13) (fun v H' => .i rv_32 = v ∧ H' = hq ([a4_g, [(ob_30, .cells ((bu_0.map Pr.c).flatten ++ sl_30))]]) []) rfl (w_call_q (sa := [a4_g]) (sg := [[(ob_30, .cells ((bu_0.map Pr.c).flatten ++ sl_30))]]) (tks := []) rfl a4_k rfl ⟨_, _, rfl, rfl, _, _, rfl, rfl, rfl⟩ (a4_h _ _ _ hx_33) (by rintro v H' ⟨rfl, rfl⟩; exact ⟨[a4_g], rfl, rfl, rfl⟩)) (.inl rfl) (by kernel_rfl) rfl ?_
      rintro _ _ ⟨rfl, rfl⟩
      refine VA.t (i := 14) (v := .bool (decide (rv_32 < 0))) rfl (t_cmp rfl rfl rfl (fun _ _ => rfl) rfl) (.inl rfl) (by kernel_rfl) (VA.t (i := 15) (v := .bool (!(decide (rv_32 < 0)))) rfl (t_not rfl rfl rfl) (.inl rfl) (by kernel_rfl) (VA.done (by kernel_rfl) (thenQ_normal (VW.subK (.c 0 rfl (.c 2 rfl (.c 3 rfl (.c 4 rfl (.c 10 rfl (.c 11 rfl (.c 24 rfl (.c 25 rfl (.c 26 rfl (.c 27 rfl (.c 28 rfl (.c 29 rfl (.c 30 rfl (.c 31 rfl (.c 32 rfl (.c 33 rfl (.c 34 rfl (.c 35 rfl (.c 36 rfl (.c 37 rfl (.c 38 rfl (.c 39 rfl (.c 58 rfl .n))))))))))))))))))))))) rfl ?_))))
      refine VW.cond (b := (!(decide (rv_32 < 0)))) rfl (fun hc_34 => ?_) (fun hc_34 => ?_)
      · replace h := iteT h hc_34
        refine VW.subN (t' := []) trivial rfl (VW.frontS 0 rfl (VW.frontS 1 rfl (VW.subN (t' := []) trivial rfl (VW.ret (thenQ_ret (blockQ_ret (thenQ_ret ?_)))))))
        obtain rfl := oi h
        exact hx1 _ [(ob_30, .cells ((bu_0.map Pr.c).flatten ++ sl_30))] rfl (Buf.own (n := 2) (l := bu_0.map Pr.c) ob_30 cap_30 len_30 sl_30 (elemsOK_map Pr.c_ok _) (by simp [hl_30]) hc_30 hs_30)
      · replace h := iteF h hc_34
        refine VW.skip (thenQ_normal (VW.subK (.c 0 rfl (.c 2 rfl (.c 3 rfl (.c 4 rfl (.c 10 rfl (.c 11 rfl (.c 24 rfl (.c 25 rfl (.c 26 rfl (.c 27 rfl (.c 28 rfl (.c 29 rfl (.c 30 rfl (.c 31 rfl (.c 32 rfl (.c 33 rfl (.c 34 rfl (.c 35 rfl (.c 36 rfl (.c 37 rfl (.c 38 rfl (.c 39 rfl .n)))))))))))))))))))))) rfl (VW.seq (VW.draw 24 mix rfl (VA.t (i := 0) rfl (t_move rfl rfl) (.inl rfl) (by kernel_rfl) (VA.t (i := 1) rfl (t_move rfl rfl) (.inl rfl) (by kernel_rfl) (VA.t (i := 2) rfl (t_move rfl rfl) (.inl rfl) (by kernel_rfl) (VA.t (i := 3) (v := .i (w64 (a3 + root_1))) rfl (t_add rfl rfl rfl rfl) (.inl rfl) (by kernel_rfl) (VA.t (i := 4) rfl (t_move rfl rfl) (.inl rfl) (by kernel_rfl) ?_)))))))))
        refine VA.t (i := 5) rfl (t_move rfl rfl) (.inl rfl) (by kernel_rfl) (VA.t (i := 6) rfl (t_move rfl rfl) (.inl rfl) (by kernel_rfl) (VA.t (i := 7) (v := .i (w64 (a3 + (w64 ((w64 (2 * root_1)) + 1))))) rfl (t_add rfl rfl rfl rfl) (.inl rfl) (by kernel_rfl) (VA.phase (g := 3) [8, 9, 10, 11, 12, 13, 14, 15, 16, 17, 18, 19, 20] 13 (VP.take (i := 8) rfl (TOp.r (t_move rfl rfl)) (.inl rfl) (by kernel_rfl) (VP.take (i := 9) rfl (TOp.r (t_move rfl rfl)) (.inl rfl) (by kernel_rfl) (VP.take (i := 10) rfl (TOp.r (t_move rfl rfl)) (.inl rfl) (by kernel_rfl) (VP.take (i := 11) (v := .i (w64 (a3 + (w64 ((w64 (2 * root_1)) + 1))))) rfl (TOp.r (t_add rfl rfl rfl rfl)) (.inl rfl) (by kernel_rfl) (VP.take (i := 12) (v := .ptr ob_30 ((w64 (a3 + (w64 ((w64 (2 * root_1)) + 1)))).toNat * 2 + 0)) rfl (TOp.r (t_index_own rfl sl31 rfl rfl (getI_some hc_31).1 (by rw [hl_30]; exact getI_lt hc_31) rfl)) (.inl rfl) (by kernel_rfl) (VP.take (i := 13) (v := .agg (Pr.c c_31)) rfl (r_load_buf (n := 2) (f := 0) (j := 1) rfl sz59 rfl rfl hE_30 (map_get (getI_some hc_31).2 (Pr.c_eq c_31)) (nle rfl) (fun _ => ofCells_agg rfl)) (.inl rfl) (by kernel_rfl) ?_)))))))))
        refine VP.take (i := 14) rfl (TOp.r (t_move rfl rfl)) (.inl rfl) (by kernel_rfl) (VP.take (i := 15) rfl (TOp.r (t_move rfl rfl)) (.inl rfl) (by kernel_rfl) (VP.take (i := 16) rfl (TOp.r (t_move rfl rfl)) (.inl rfl) (by kernel_rfl) (VP.take (i := 17) (v := .i (w64 (a3 + root_1))) rfl (TOp.r (t_add rfl rfl rfl rfl)) (.inl rfl) (by kernel_rfl) (VP.take (i := 18) (v := .ptr ob_30 ((w64 (a3 + root_1)).toNat * 2 + 0)) rfl (TOp.r (t_index_own rfl sl31 rfl rfl (getI_some hc_29).1 (by rw [hl_30]; exact getI_lt hc_29) rfl)) (.inl rfl) (by kernel_rfl) (VP.take (i := 19) (v := .agg (Pr.c c_29)) rfl (r_load_buf (n := 2) (f := 0) (j := 1) rfl sz59 rfl rfl hE_30 (map_get (getI_some hc_29).2 (Pr.c_eq c_29)) (nle rfl) (fun _ => ofCells_agg rfl)) (.inl rfl) (by kernel_rfl) (VP.take (i := 20) (v := .ptr ob_30 ((w64 (a3 + root_1)).toNat * 2 + 0)) rfl (TOp.r (t_index_own rfl sl31 rfl rfl (getI_some hc_29).1 (by rw [hl_30]; exact getI_lt hc_29) rfl)) (.inl rfl) (by kernel_rfl) (VP.done (by kernel_rfl) (VA.w (i := 21) (fun v H' => .any = v ∧ H' = hq ([a4_g, [(ob_30, .cells (((bu_0.set (w64 (a3 + root_1)).toNat c_31).map Pr.c).flatten ++ sl_30))]]) []) rfl (w_store_buf (n := 2) (f := 0) (j := 1) rfl sz59 rfl rfl rfl hE_30 (map_get (getI_some hc_29).2 (Pr.c_eq c_29)) rfl rfl (nle rfl) rfl (map_set (Pr.c_eq c_31)) ⟨rfl, rfl⟩) (.inl rfl) (by kernel_rfl) rfl ?_))))))))
        rintro _ _ ⟨rfl, rfl⟩
        have hl_35 : len_30 = (bu_0.set (w64 (a3 + root_1)).toNat c_31).length := by simp [hl_30]
        obtain ⟨c_36, hc_36, h⟩ := obind h
        refine VA.t (i := 22) (v := .ptr ob_30 ((w64 (a3 + (w64 ((w64 (2 * root_1)) + 1)))).toNat * 2 + 0)) rfl (t_index_own rfl sl31 rfl rfl (getI_some hc_36).1 (by rw [hl_35]; exact getI_lt hc_36) rfl) (.inl rfl) (by kernel_rfl) (VA.w (i := 23) (fun v H' => .any = v ∧ H' = hq ([a4_g, [(ob_30, .cells ((((bu_0.set (w64 (a3 + root_1)).toNat c_31).set (w64 (a3 + (w64 ((w64 (2 * root_1)) + 1)))).toNat c_29).map Pr.c).flatten ++ sl_30))]]) []) rfl (w_store_buf (n := 2) (f := 0) (j := 1) rfl sz59 rfl rfl rfl (elemsOK_map Pr.c_ok _) (map_get (getI_some hc_36).2 (Pr.c_eq c_36)) rfl rfl (nle rfl) rfl (map_set (Pr.c_eq c_29)) ⟨rfl, rfl⟩) (.inl rfl) (by kernel_rfl) rfl ?_)
        rintro _ _ ⟨rfl, rfl⟩
        have hl_37 : len_30 = ((bu_0.set (w64 (a3 + root_1)).toNat c_31).set (w64 (a3 + (w64 ((w64 (2 * root_1)) + 1)))).toNat c_29).length := by simp [hl_35]
        refine VA.done (by kernel_rfl) (thenQ_normal (VW.subK (.c 0 rfl (.c 2 rfl (.c 3 rfl (.c 4 rfl (.c 11 rfl (.c 24 rfl (.c 25 rfl (.c 26 rfl (.c 27 rfl (.c 28 rfl (.c 29 rfl (.c 30 rfl (.c 31 rfl (.c 32 rfl (.c 33 rfl (.c 34 rfl (.c 35 rfl (.c 36 rfl (.c 37 rfl (.c 38 rfl (.c 39 rfl .n))))))))))))))))))))) rfl (VW.region (VO.m rfl rfl (VO.a (v := .i (w64 ((w64 (2 * root_1)) + 1))) rfl rfl (VO.nil (blockQ_normal (thenQ_normal (VL.round ?_)))))))))
        refine VW.k5 0 2 3 4 10 rfl (VW.frontS 0 rfl (VW.frontS 1 rfl ?_))
        exact ih _ _ _ h (.own ob_30 cap_30 len_30) [(ob_30, .cells ((((bu_0.set (w64 (a3 + root_1)).toNat c_31).set (w64 (a3 + (w64 ((w64 (2 * root_1)) + 1)))).toNat c_29).map Pr.c).flatten ++ sl_30))] (Buf.own (n := 2) (l := ((bu_0.set (w64 (a3 + root_1)).toNat c_31).set (w64 (a3 + (w64 ((w64 (2 * root_1)) + 1)))).toNat c_29).map Pr.c) ob_30 cap_30 len_30 sl_30 (elemsOK_map Pr.c_ok _) (by simp [hl_37]) hc_30 hs_30) hx0 hx1

theorem slices_siftDownCmpFunc_2int_ok (a0 : List Pr) (a1 : Int) (a2 : Int) (a3 : Int) (a4 : Pr → Pr → Option Int) (r : List Pr) (h : PL.slices_siftDownCmpFunc_2int a0 a1 a2 a3 a4 = some r) (v0 : VV) (b0 : Seg) (a4_f : Nat) (a4_a : List VV) (a4_c : List VV) (a4_g : Seg) (hB0 : Buf 2 (a0.map Pr.c) v0 b0) (a4_k : FnOK Tryd.prog a4_f) (a4_h : ∀ (y0 : Pr) (y1 : Pr) (z : Int), a4 y0 y1 = some z → VCalls Tryd.prog a4_f (a4_a ++ [.agg (Pr.c y0), .agg (Pr.c y1)] ++ a4_c) (hq [a4_g] []) (fun v H => .i z = v ∧ H = hq [a4_g] [])) :
    VCalls Tryd.prog 86 [v0, .i a1, .i a2, .i a3, .func (.func a4_f) a4_a a4_c] (hq [b0, a4_g] []) (fun v H => ∃ bk0, Buf 2 (r.map Pr.c) v0 bk0 ∧ .tup [] = v ∧ H = hq [bk0, a4_g] []) := by
  unfold PL.slices_siftDownCmpFunc_2int at h
  refine VCalls.of_body 82 [] Tryd.func86 rfl rfl rfl (nle rfl) (VW.k5 0 1 2 3 4 rfl (VW.q (VO.m rfl rfl (VO.a (v := .i a1) rfl rfl (VO.n (VW.k5 0 2 3 4 10 rfl (VW.block (VW.k5 0 2 3 4 10 rfl ?_))))))))
  obtain ⟨o_0, hx_1, h⟩ := obind h
  refine VW.loopL (slices_siftDownCmpFunc_2int.l0_ok a4 a2 a3 a4_f a4_a a4_c a4_g a4_k a4_h _ _ _ hx_1 v0 b0 hB0 ?_ ?_)
  · intro bu_2 bp0_3 ho_ hbp0_3
    subst ho_
    try dsimp only at h
    refine blockQ_hit ?_
    obtain rfl := oi h
    exact ⟨.inl rfl, rfl, _, .tup [], hq [bp0_3, a4_g] [], rfl, VLe.refl _, hq_sub (.cons_cons _ (.cons_cons _ .slnil)) .slnil, bp0_3, hbp0_3, rfl, rfl⟩
  · intro bu_4 bp0_5 ho_ hbp0_5
    subst ho_
    try dsimp only at h
    refine blockQ_ret ?_
    obtain rfl := oi h
    exact ⟨.inr rfl, rfl, _, .tup [], hq [bp0_5, a4_g] [], rfl, VLe.refl _, hq_sub (.cons_cons _ (.cons_cons _ .slnil)) .slnil, bp0_5, hbp0_5, rfl, rfl⟩

theorem slices_heapSortCmpFunc_2int.l0_ok (a3 : Pr → Pr → Option Int) (a1 : Int) (a2 : Int) (a3_f : Nat) (a3_a a3_c : List VV) (a3_g : Seg) (a3_k : FnOK Tryd.prog a3_f) (a3_h : ∀ (y0 : Pr) (y1 : Pr) (z : Int), a3 y0 y1 = some z → VCalls Tryd.prog a3_f (a3_a ++ [.agg (Pr.c y0), .agg (Pr.c y1)] ++ a3_c) (hq [a3_g] []) (fun v H => .i z = v ∧ H = hq [a3_g] [])) {Q : Exit → Env → HH → Prop} :
    ∀ (bu_0 : List Pr) (i_1 : Int) (o : (List Pr)), PL.slices_heapSortCmpFunc_2int.l0 a3 a1 a2 bu_0 i_1 = some o →
    ∀ (vp0_2 : VV) (bp0_2 : Seg) (hbp0_2 : Buf 2 (bu_0.map Pr.c) vp0_2 bp0_2) (hx0 : ∀ (bu_3 : List Pr) (bp0_4 : Seg), bu_3 = o → Buf 2 (bu_3.map Pr.c) vp0_2 bp0_4 → Q (.exit 0) ⟨[(0, vp0_2), (3, .func (.func a3_f) a3_a a3_c), (8, .i a1), (9, .i 0), (10, .i (w64 (a2 - a1)))], []⟩ (hq ([bp0_4, a3_g]) [])), VW Tryd.prog 60 (codeAt [1, 1, 1, 0, 1, 0, 0] (bodyOf Tryd.f71)) (thenQ (VL Tryd.prog 60 (codeAt [1, 1, 1, 0, 1, 0, 0] (bodyOf Tryd.f71)) Q) Q) ⟨[(0, vp0_2), (3, .func (.func a3_f) a3_a a3_c), (8, .i a1), (9, .i 0), (10, .i (w64 (a2 - a1))), (11, .i i_1)], []⟩ (hq ([bp0_2, a3_g]) []) := by
  refine PL.slices_heapSortCmpFunc_2int.l0.partial_correctness a3 a1 a2 (motive := fun bu_0 i_1 o => ∀ (vp0_2 : VV) (bp0_2 : Seg) (hbp0_2 : Buf 2 (bu_0.map Pr.c) vp0_2 bp0_2) (hx0 : ∀ (bu_3 : List Pr) (bp0_4 : Seg), bu_3 = o → Buf 2 (bu_3.map Pr.c) vp0_2 bp0_4 → Q (.exit 0) ⟨[(0, vp0_2), (3, .func (.func a3_f) a3_a a3_c), (8, .i a1), (9, .i 0), (10, .i (w64 (a2 - a1)))], []⟩ (hq ([bp0_4, a3_g]) [])), VW Tryd.prog 60 (codeAt [1, 1, 1, 0, 1, 0, 0] (bodyOf Tryd.f71)) (thenQ (VL Tryd.prog 60 (codeAt [1, 1, 1, 0, 1, 0, 0] (bodyOf Tryd.f71)) Q) Q) ⟨[(0, vp0_2), (3, .func (.func a3_f) a3_a a3_c), (8, .i a1), (9, .i 0), (10, .i (w64 (a2 - a1))), (11, .i i_1)], []⟩ (hq ([bp0_2, a3_g]) [])) ?_
  intro _ ih bu_0 i_1 o h vp0_2 bp0_2 hbp0_2 hx0
  refine VW.seq (VW.q (VO.m rfl rfl (VO.t (v := .bool (decide (i_1 ≥ 0))) (t_cmp rfl rfl rfl (fun _ _ => rfl) rfl) rfl rfl (VO.n (VW.k7 0 3 8 9 10 11 21 rfl ?_)))))
  refine VW.cond (b := (decide (i_1 ≥ 0))) rfl (fun hc_5 => ?_) (fun hc_5 => ?_)
  · replace h := iteT h hc_5
    refine VW.skip (thenQ_normal (VW.k6 0 3 8 9 10 11 rfl (VW.seq (VW.block (VW.region (VO.m rfl rfl (VO.m rfl rfl (VO.m rfl rfl (VO.m rfl rfl ?_)))))))))
    refine VO.m rfl rfl ?_
    obtain ⟨k_6, hx_7, h⟩ := obind h
    refine VO.w (fun v H' => ∃ bk0_8, Buf 2 (k_6.map Pr.c) vp0_2 bk0_8 ∧ .tup [] = v ∧ H' = hq ([bk0_8, a3_g]) []) (w_call_q (sa := [bp0_2, a3_g]) (sg := []) (tks := []) rfl fn86 rfl ⟨_, _, rfl, rfl, _, _, rfl, rfl, _, _, rfl, rfl, _, _, rfl, rfl, _, _, rfl, rfl, rfl⟩ (slices_siftDownCmpFunc_2int_ok _ _ _ _ _ _ hx_7 vp0_2 bp0_2 a3_f a3_a a3_c a3_g hbp0_2 a3_k a3_h) (by rintro v H' ⟨bk0_8, h_9, rfl, rfl⟩; exact ⟨[bk0_8, a3_g], rfl, bk0_8, h_9, rfl, rfl⟩)) rfl rfl ?_
    rintro _ _ ⟨bk0_8, hB_10, rfl, rfl⟩
    refine VO.nil (blockQ_normal (thenQ_normal (VW.k6 0 3 8 9 10 11 rfl (VW.region (VO.m rfl rfl (VO.t (v := .i (w64 (i_1 - 1))) (t_sub rfl rfl (fun _ _ => rfl) rfl) rfl rfl (VO.a (v := .i (w64 (i_1 - 1))) rfl rfl (VO.nil (thenQ_normal (VL.round ?_))))))))))
    refine VW.k6 0 3 8 9 10 11 rfl ?_
    exact ih _ _ _ h vp0_2 bk0_8 hB_10 hx0
  · replace h := iteF h hc_5
    refine VW.k5 0 3 8 9 10 rfl (VW.exit (thenQ_exit (thenQ_exit ?_)))
    obtain rfl := oi h
    exact hx0 _ bp0_2 rfl hbp0_2

theorem slices_heapSortCmpFunc_2int.l1_ok (a3 : Pr → Pr → Option Int) (a1 : Int) (a3_f : Nat) (a3_a a3_c : List VV) (a3_g : Seg) (a3_k : FnOK Tryd.prog a3_f) (a3_h : ∀ (y0 : Pr) (y1 : Pr) (z : Int), a3 y0 y1 = some z → VCalls Tryd.prog a3_f (a3_a ++ [.agg (Pr.c y0), .agg (Pr.c y1)] ++ a3_c) (hq [a3_g] []) (fun v H => .i z = v ∧ H = hq [a3_g] [])) {Q : Exit → Env → HH → Prop} :
    ∀ (bu_0 : List Pr) (i_1 : Int) (o : (List Pr)), PL.slices_heapSortCmpFunc_2int.l1 a3 a1 bu_0 i_1 = some o →
    ∀ (vp0_2 : VV) (bp0_2 : Seg) (hbp0_2 : Buf 2 (bu_0.map Pr.c) vp0_2 bp0_2) (hx0 : ∀ (bu_3 : List Pr) (bp0_4 : Seg), bu_3 = o → Buf 2 (bu_3.map Pr.c) vp0_2 bp0_4 → Q (.exit 2) ⟨[], []⟩ (hq ([bp0_4, a3_g]) [])), VW Tryd.prog 60 (codeAt [1, 1, 1, 1, 1, 0, 0] (bodyOf Tryd.f71)) (thenQ (VL Tryd.prog 60 (codeAt [1, 1, 1, 1, 1, 0, 0] (bodyOf Tryd.f71)) Q) Q) ⟨[(0, vp0_2), (3, .func (.func a3_f) a3_a a3_c), (8, .i a1), (9, .i 0), (12, .i i_1)], []⟩ (hq ([bp0_2, a3_g]) []) := by
  refine PL.slices_heapSortCmpFunc_2int.l1.partial_correctness a3 a1 (motive := fun bu_0 i_1 o => ∀ (vp0_2 : VV) (bp0_2 : Seg) (hbp0_2 : Buf 2 (bu_0.map Pr.c) vp0_2 bp0_2) (hx0 : ∀ (bu_3 : List Pr) (bp0_4 : Seg), bu_3 = o → Buf 2 (bu_3.map Pr.c) vp0_2 bp0_4 → Q (.exit 2) ⟨[], []⟩ (hq ([bp0_4, a3_g]) [])), VW Tryd.prog 60 (codeAt [1, 1, 1, 1, 1, 0, 0] (bodyOf Tryd.f71)) (thenQ (VL Tryd.prog 60 (codeAt [1, 1, 1, 1, 1, 0, 0] (bodyOf Tryd.f71)) Q) Q) ⟨[(0, vp0_2), (3, .func (.func a3_f) a3_a a3_c), (8, .i a1), (9, .i 0), (12, .i i_1)], []⟩ (hq ([bp0_2, a3_g]) [])) ?_
  intro _ ih bu_0 i_1 o h vp0_2 bp0_2 hbp0_2 hx0
  refine VW.seq (VW.q (VO.m rfl rfl (VO.t (v := .bool (decide (i_1 ≥ 0))) (t_cmp rfl rfl rfl (fun _ _ => rfl) rfl) rfl rfl (VO.n (VW.k6 0 3 8 9 12 33 rfl ?_)))))
  refine VW.cond (b := (decide (i_1 ≥ 0))) rfl (fun hc_5 => ?_) (fun hc_5 => ?_)
  · replace h := iteT h hc_5
    refine VW.skip (thenQ_normal (VW.k5 0 3 8 9 12 rfl (VW.seq (VW.block (VW.seq (VW.draw 20 mix rfl (VA.t (i := 0) rfl (t_move rfl rfl) (.inl rfl) (by kernel_rfl) (VA.t (i := 1) rfl (t_move rfl rfl) (.inl rfl) (by kernel_rfl) (VA.t (i := 2) rfl (t_move rfl rfl) (.inl rfl) (by kernel_rfl) ?_)))))))))
    refine VA.t (i := 3) rfl (t_move rfl rfl) (.inl rfl) (by kernel_rfl) (VA.t (i := 4) rfl (t_move rfl rfl) (.inl rfl) (by kernel_rfl) (VA.t (i := 5) (v := .i (w64 (a1 + i_1))) rfl (t_add rfl rfl rfl rfl) (.inl rfl) (by kernel_rfl) (VA.phase (g := 3) [6, 7, 8, 9, 10, 11, 12, 13, 14, 15, 16] 11 (VP.take (i := 6) rfl (TOp.r (t_move rfl rfl)) (.inl rfl) (by kernel_rfl) (VP.take (i := 7) rfl (TOp.r (t_move rfl rfl)) (.inl rfl) (by kernel_rfl) (VP.take (i := 8) rfl (TOp.r (t_move rfl rfl)) (.inl rfl) (by kernel_rfl) (VP.take (i := 9) (v := .i (w64 (a1 + i_1))) rfl (TOp.r (t_add rfl rfl rfl rfl)) (.inl rfl) (by kernel_rfl) ?_)))))))
    obtain ⟨c_6, hc_6, h⟩ := obind h
    obtain ⟨ob_7, cap_7, len_7, sl_7, rfl, rfl, hE_7, hl_7, hc_7, hs_7⟩ := buf_at hbp0_2 hc_6
    refine VP.take (i := 10) (v := .ptr ob_7 ((w64 (a1 + i_1)).toNat * 2 + 0)) rfl (TOp.r (t_index_own rfl sl31 rfl rfl (getI_some hc_6).1 (by rw [hl_7]; exact getI_lt hc_6) rfl)) (.inl rfl) (by kernel_rfl) (VP.take (i := 11) (v := .agg (Pr.c c_6)) rfl (r_load_buf (n := 2) (f := 0) (j := 0) rfl sz59 rfl rfl hE_7 (map_get (getI_some hc_6).2 (Pr.c_eq c_6)) (nle rfl) (fun _ => ofCells_agg rfl)) (.inl rfl) (by kernel_rfl) (VP.take (i := 12) rfl (TOp.r (t_move rfl rfl)) (.inl rfl) (by kernel_rfl) (VP.take (i := 13) rfl (TOp.r (t_move rfl rfl)) (.inl rfl) (by kernel_rfl) ?_)))
    obtain ⟨c_8, hc_8, h⟩ := obind h
    refine VP.take (i := 14) (v := .ptr ob_7 (a1.toNat * 2 + 0)) rfl (TOp.r (t_index_own rfl sl31 rfl rfl (getI_some hc_8).1 (by rw [hl_7]; exact getI_lt hc_8) rfl)) (.inl rfl) (by kernel_rfl) (VP.take (i := 15) (v := .agg (Pr.c c_8)) rfl (r_load_buf (n := 2) (f := 0) (j := 0) rfl sz59 rfl rfl hE_7 (map_get (getI_some hc_8).2 (Pr.c_eq c_8)) (nle rfl) (fun _ => ofCells_agg rfl)) (.inl rfl) (by kernel_rfl) (VP.take (i := 16) (v := .ptr ob_7 (a1.toNat * 2 + 0)) rfl (TOp.r (t_index_own rfl sl31 rfl rfl (getI_some hc_8).1 (by rw [hl_7]; exact getI_lt hc_8) rfl)) (.inl rfl) (by kernel_rfl) (VP.done (by kernel_rfl) (VA.w (i := 17) (fun v H' => .any = v ∧ H' = hq ([[(ob_7, .cells (((bu_0.set a1.toNat c_6).map Pr.c).flatten ++ sl_7))], a3_g]) []) rfl (w_store_buf (n := 2) (f := 0) (j := 0) rfl sz59 rfl rfl rfl hE_7 (map_get (getI_some hc_8).2 (Pr.c_eq c_8)) rfl rfl (nle rfl) rfl (map_set (Pr.c_eq c_6)) ⟨rfl, rfl⟩) (.inl rfl) (by kernel_rfl) rfl ?_))))
    rintro _ _ ⟨rfl, rfl⟩
    have hl_9 : len_7 = (bu_0.set a1.toNat c_6).length := by simp [hl_7]
    obtain ⟨c_10, hc_10, h⟩ := obind h
    refine VA.t (i := 18) (v := .ptr ob_7 ((w64 (a1 + i_1)).toNat * 2 + 0)) rfl (t_index_own rfl sl31 rfl rfl (getI_some hc_10).1 (by rw [hl_9]; exact getI_lt hc_10) rfl) (.inl rfl) (by kernel_rfl) (VA.w (i := 19) (fun v H' => .any = v ∧ H' = hq ([[(ob_7, .cells ((((bu_0.set a1.toNat c_6).set (w64 (a1 + i_1)).toNat c_8).map Pr.c).flatten ++ sl_7))], a3_g]) []) rfl (w_store_buf (n := 2) (f := 0) (j := 0) rfl sz59 rfl rfl rfl (elemsOK_map Pr.c_ok _) (map_get (getI_some hc_10).2 (Pr.c_eq c_10)) rfl rfl (nle rfl) rfl (map_set (Pr.c_eq c_8)) ⟨rfl, rfl⟩) (.inl rfl) (by kernel_rfl) rfl ?_)
    rintro _ _ ⟨rfl, rfl⟩
    have hl_11 : len_7 = ((bu_0.set a1.toNat c_6).set (w64 (a1 + i_1)).toNat c_8).length := by simp [hl_9]
    refine VA.done (by kernel_rfl) (thenQ_normal (VW.k5 0 3 8 9 12 rfl (VW.region (VO.m rfl rfl (VO.m rfl rfl (VO.m rfl rfl (VO.m rfl rfl (VO.m rfl rfl ?_))))))))
    obtain ⟨k_12, hx_13, h⟩ := obind h
    refine VO.w (fun v H' => ∃ bk0_14, Buf 2 (k_12.map Pr.c) (.own ob_7 cap_7 len_7) bk0_14 ∧ .tup [] = v ∧ H' = hq ([bk0_14, a3_g]) []) (w_call_q (sa := [[(ob_7, .cells ((((bu_0.set a1.toNat c_6).set (w64 (a1 + i_1)).toNat c_8).map Pr.c).flatten ++ sl_7))], a3_g]) (sg := []) (tks := []) rfl fn86 rfl ⟨_, _, rfl, rfl, _, _, rfl, rfl, _, _, rfl, rfl, _, _, rfl, rfl, _, _, rfl, rfl, rfl⟩ (slices_siftDownCmpFunc_2int_ok _ _ _ _ _ _ hx_13 (.own ob_7 cap_7 len_7) [(ob_7, .cells ((((bu_0.set a1.toNat c_6).set (w64 (a1 + i_1)).toNat c_8).map Pr.c).flatten ++ sl_7))] a3_f a3_a a3_c a3_g (Buf.own (n := 2) (l := ((bu_0.set a1.toNat c_6).set (w64 (a1 + i_1)).toNat c_8).map Pr.c) ob_7 cap_7 len_7 sl_7 (elemsOK_map Pr.c_ok _) (by simp [hl_11]) hc_7 hs_7) a3_k a3_h) (by rintro v H' ⟨bk0_14, h_15, rfl, rfl⟩; exact ⟨[bk0_14, a3_g], rfl, bk0_14, h_15, rfl, rfl⟩)) rfl rfl ?_
    rintro _ _ ⟨bk0_14, hB_16, rfl, rfl⟩
    refine VO.nil (blockQ_normal (thenQ_normal (VW.k5 0 3 8 9 12 rfl (VW.region (VO.m rfl rfl (VO.t (v := .i (w64 (i_1 - 1))) (t_sub rfl rfl (fun _ _ => rfl) rfl) rfl rfl (VO.a (v := .i (w64 (i_1 - 1))) rfl rfl (VO.nil (thenQ_normal (VL.round ?_))))))))))
    refine VW.k5 0 3 8 9 12 rfl ?_
    exact ih _ _ _ h (.own ob_7 cap_7 len_7) bk0_14 hB_16 hx0
  · replace h := iteF h hc_5
    refine VW.subN (t' := []) trivial rfl (VW.exit (thenQ_exit (thenQ_exit ?_)))
    obtain rfl := oi h
    exact hx0 _ bp0_2 rfl hbp0_2

theorem slices_heapSortCmpFunc_2int_ok (a0 : List Pr) (a1 : Int) (a2 : Int) (a3 : Pr → Pr → Option Int) (r : List Pr) (h : PL.slices_heapSortCmpFunc_2int a0 a1 a2 a3 = some r) (v0 : VV) (b0 : Seg) (a3_f : Nat) (a3_a : List VV) (a3_c : List VV) (a3_g : Seg) (hB0 : Buf 2 (a0.map Pr.c) v0 b0) (a3_k : FnOK Tryd.prog a3_f) (a3_h : ∀ (y0 : Pr) (y1 : Pr) (z : Int), a3 y0 y1 = some z → VCalls Tryd.prog a3_f (a3_a ++ [.agg (Pr.c y0), .agg (Pr.c y1)] ++ a3_c) (hq [a3_g] []) (fun v H => .i z = v ∧ H = hq [a3_g] [])) :
    VCalls Tryd.prog 71 [v0, .i a1, .i a2, .func (.func a3_f) a3_a a3_c] (hq [b0, a3_g] []) (fun v H => ∃ bk0, Buf 2 (r.map Pr.c) v0 bk0 ∧ .tup [] = v ∧ H = hq [bk0, a3_g] []) := by
  unfold PL.slices_heapSortCmpFunc_2int at h
  refine VCalls.of_body 60 [] Tryd.func71 rfl rfl rfl (nle rfl) (VW.k4 0 1 2 3 rfl (VW.q (VO.m rfl rfl (VO.a (v := .i a1) rfl rfl (VO.n (VW.k5 0 1 2 3 8 rfl (VW.q (VO.a (v := .i 0) rfl (fun _ _ => rfl) (VO.n ?_)))))))))
  refine VW.q (VO.m rfl rfl (VO.m rfl rfl (VO.t (v := .i (w64 (a2 - a1))) (t_sub rfl rfl rfl rfl) rfl rfl (VO.a (v := .i (w64 (a2 - a1))) rfl rfl (VO.n (VW.k5 0 3 8 9 10 rfl (VW.seq (VW.q (VO.m rfl rfl ?_)))))))))
  refine VO.t (v := .i (w64 ((w64 (a2 - a1)) - 1))) (t_sub rfl rfl (fun _ _ => rfl) rfl) rfl rfl (VO.t (v := .i (w64 (Int.tdiv (w64 ((w64 (a2 - a1)) - 1)) 2))) (t_quo rfl rfl (fun _ _ => rfl) (by decide) rfl) rfl rfl (VO.a (v := .i (w64 (Int.tdiv (w64 ((w64 (a2 - a1)) - 1)) 2))) rfl rfl (VO.n (VW.k6 0 3 8 9 10 11 rfl (VW.block (VW.k6 0 3 8 9 10 11 rfl ?_))))))
  obtain ⟨o_0, hx_1, h⟩ := obind h
  refine VW.loopL (slices_heapSortCmpFunc_2int.l0_ok a3 a1 a2 a3_f a3_a a3_c a3_g a3_k a3_h _ _ _ hx_1 v0 b0 hB0 ?_)
  · intro bu_2 bp0_3 ho_ hbp0_3
    subst ho_
    try dsimp only at h
    refine blockQ_hit (thenQ_normal (VW.q (VO.m rfl rfl (VO.t (v := .i (w64 ((w64 (a2 - a1)) - 1))) (t_sub rfl rfl (fun _ _ => rfl) rfl) rfl rfl (VO.a (v := .i (w64 ((w64 (a2 - a1)) - 1))) rfl rfl (VO.n (VW.k5 0 3 8 9 12 rfl (VW.block (VW.k5 0 3 8 9 12 rfl ?_)))))))))
    obtain ⟨o_4, hx_5, h⟩ := obind h
    refine VW.loopL (slices_heapSortCmpFunc_2int.l1_ok a3 a1 a3_f a3_a a3_c a3_g a3_k a3_h _ _ _ hx_5 v0 bp0_3 hbp0_3 ?_)
    · intro bu_6 bp0_7 ho_ hbp0_7
      subst ho_
      try dsimp only at h
      refine blockQ_hit ?_
      obtain rfl := oi h
      exact ⟨.inl rfl, rfl, _, .tup [], hq [bp0_7, a3_g] [], rfl, VLe.refl _, hq_sub (.cons_cons _ (.cons_cons _ .slnil)) .slnil, bp0_7, hbp0_7, rfl, rfl⟩

theorem math_bits_Len32_ok (a0 : Int) (r : Int) (h : PL.math_bits_Len32 a0 = some r) :
    VCalls Tryd.prog 78 [.int .u32 a0] (hq [] []) (fun v H => .i r = v ∧ H = hq [] []) := by
  unfold PL.math_bits_Len32 at h
  refine VCalls.of_body 19 [2] Tryd.func78 rfl rfl rfl (nle rfl) (VW.k1 0 rfl (VW.q (VO.a (v := .i 0) rfl (fun _ _ => rfl) (VO.n (VW.seq (VW.q (VO.m rfl rfl (VO.t (v := .bool (decide (a0 ≥ 65536))) (t_cmp rfl rfl rfl (fun _ _ => rfl) rfl) rfl rfl (VO.n ?_)))))))))
  refine VW.k3 0 2 4 rfl ?_
  obtain ⟨o_0, h, hx_1⟩ := obind h
  refine VW.joinQ (E := Int × Int) (I := fun ⟨x_2, n_3⟩ => (x_2, n_3) = o_0 ∧ True) (env' := fun ⟨x_2, n_3⟩ => ⟨[(0, .int .u32 x_2), (2, .i n_3)], []⟩) (H' := fun ⟨x_2, n_3⟩ => hq [] []) ?_ (fun J_4 => ?_)
  · rintro ⟨x_2, n_3⟩ ⟨ho_, _⟩
    subst ho_
    replace h := hx_1
    clear hx_1
    try dsimp only at h
    show VW _ _ _ _ ⟨[(0, .int .u32 x_2), (2, .i n_3)], []⟩ (hq [] [])
    refine VW.seq (VW.q (VO.m rfl rfl (VO.t (v := .bool (decide (x_2 ≥ 256))) (t_cmp rfl rfl rfl (fun _ _ => rfl) rfl) rfl rfl (VO.n (VW.k3 0 2 8 rfl ?_)))))
    obtain ⟨o_5, h, hx_6⟩ := obind h
    refine VW.joinQ (E := Int × Int) (I := fun ⟨x_7, n_8⟩ => (x_7, n_8) = o_5 ∧ True) (env' := fun ⟨x_7, n_8⟩ => ⟨[(0, .int .u32 x_7), (2, .i n_8)], []⟩) (H' := fun ⟨x_7, n_8⟩ => hq [] []) ?_ (fun J_9 => ?_)
    · rintro ⟨x_7, n_8⟩ ⟨ho_, _⟩
      subst ho_
      replace h := hx_6
      clear hx_6
      try dsimp only at h
      show VW _ _ _ _ ⟨[(0, .int .u32 x_7), (2, .i n_8)], []⟩ (hq [] [])
      refine VW.q (VO.m rfl rfl (VO.m rfl rfl (VO.t (v := .int .u8 (IntKind.wrap .u8 (x_7))) (t_conv rfl ⟨_, Tryd.underlying119⟩ Tryd.underlying5 rfl rfl) rfl rfl ?_)))
      obtain ⟨ha_10, h⟩ := ite_some h
      obtain ⟨hb_11, h⟩ := ite_some h
      refine VO.t (v := .int .u8 ((k_t256_52136.get! (IntKind.wrap .u8 (x_7)).toNat).toNat : Int)) (t_sindex rfl Tryd.underlying9 (fun _ _ => rfl) rfl ha_10 hb_11 rfl) rfl rfl (VO.t (v := .i (w64 (((k_t256_52136.get! (IntKind.wrap .u8 (x_7)).toNat).toNat : Int)))) (t_conv rfl ⟨_, Tryd.underlying5⟩ Tryd.underlying3 rfl rfl) rfl rfl (VO.t (v := .i (w64 (n_8 + (w64 (((k_t256_52136.get! (IntKind.wrap .u8 (x_7)).toNat).toNat : Int)))))) (t_add rfl rfl rfl rfl) rfl rfl (VO.a (v := .i (w64 (n_8 + (w64 (((k_t256_52136.get! (IntKind.wrap .u8 (x_7)).toNat).toNat : Int)))))) rfl rfl (VO.n (VW.ret ?_)))))
      cases oi h
      exact ret0 rfl rfl ⟨rfl, rfl⟩
    · refine VW.cond (b := (decide (x_2 ≥ 256))) rfl (fun hc_12 => ?_) (fun hc_12 => ?_)
      · replace h := iteT h hc_12
        refine VW.q (VO.m rfl rfl (VO.t (v := .int .u32 (ishr .u32 x_2 8)) (t_shr rfl rfl (fun _ _ => rfl) (by decide) rfl) rfl rfl (VO.a (v := .int .u32 (ishr .u32 x_2 8)) rfl rfl (VO.n (VW.k2 2 0 rfl (VW.region (VO.m rfl rfl (VO.t (v := .i (w64 (n_3 + 8))) (t_add rfl rfl (fun _ _ => rfl) rfl) rfl rfl (VO.a (v := .i (w64 (n_3 + 8))) rfl rfl ?_)))))))))
        refine VO.subK (.c 0 rfl (.c 2 rfl .n)) rfl (VO.nil ?_)
        exact thenQ_normal (J_9 ⟨ishr .u32 x_2 8, w64 (n_3 + 8)⟩ ⟨Option.some.inj h, trivial⟩)
      · replace h := iteF h hc_12
        refine VW.k2 0 2 rfl (VW.skip ?_)
        exact thenQ_normal (J_9 ⟨x_2, n_3⟩ ⟨Option.some.inj h, trivial⟩)
  · refine VW.cond (b := (decide (a0 ≥ 65536))) rfl (fun hc_13 => ?_) (fun hc_13 => ?_)
    · replace h := iteT h hc_13
      refine VW.q (VO.m rfl rfl (VO.t (v := .int .u32 (ishr .u32 a0 16)) (t_shr rfl rfl (fun _ _ => rfl) (by decide) rfl) rfl rfl (VO.a (v := .int .u32 (ishr .u32 a0 16)) rfl rfl (VO.n (VW.k1 0 rfl (VW.region (VO.a (v := .i 16) rfl (fun _ _ => rfl) (VO.subK (.c 0 rfl (.c 2 rfl .n)) rfl (VO.nil ?_)))))))))
      exact thenQ_normal (J_4 ⟨ishr .u32 a0 16, 16⟩ ⟨Option.some.inj h, trivial⟩)
    · replace h := iteF h hc_13
      refine VW.k2 0 2 rfl (VW.skip ?_)
      exact thenQ_normal (J_4 ⟨a0, 0⟩ ⟨Option.some.inj h, trivial⟩)

theorem math_bits_Len64_ok (a0 : Int) (r : Int) (h : PL.math_bits_Len64 a0 = some r) :
    VCalls Tryd.prog 79 [.int .u64 a0] (hq [] []) (fun v H => .i r = v ∧ H = hq [] []) := by
  unfold PL.math_bits_Len64 at h
  refine VCalls.of_body 25 [2] Tryd.func79 rfl rfl rfl (nle rfl) (VW.k1 0 rfl (VW.q (VO.a (v := .i 0) rfl (fun _ _ => rfl) (VO.n (VW.seq (VW.q (VO.m rfl rfl (VO.t (v := .bool (decide (a0 ≥ 4294967296))) (t_cmp rfl rfl rfl (fun _ _ => rfl) rfl) rfl rfl (VO.n ?_)))))))))
  refine VW.k3 0 2 4 rfl ?_
  obtain ⟨o_0, h, hx_1⟩ := obind h
  refine VW.joinQ (E := Int × Int) (I := fun ⟨x_2, n_3⟩ => (x_2, n_3) = o_0 ∧ True) (env' := fun ⟨x_2, n_3⟩ => ⟨[(0, .int .u64 x_2), (2, .i n_3)], []⟩) (H' := fun ⟨x_2, n_3⟩ => hq [] []) ?_ (fun J_4 => ?_)
  · rintro ⟨x_2, n_3⟩ ⟨ho_, _⟩
    subst ho_
    replace h := hx_1
    clear hx_1
    try dsimp only at h
    show VW _ _ _ _ ⟨[(0, .int .u64 x_2), (2, .i n_3)], []⟩ (hq [] [])
    refine VW.seq (VW.q (VO.m rfl rfl (VO.t (v := .bool (decide (x_2 ≥ 65536))) (t_cmp rfl rfl rfl (fun _ _ => rfl) rfl) rfl rfl (VO.n (VW.k3 0 2 8 rfl ?_)))))
    obtain ⟨o_5, h, hx_6⟩ := obind h
    refine VW.joinQ (E := Int × Int) (I := fun ⟨x_7, n_8⟩ => (x_7, n_8) = o_5 ∧ True) (env' := fun ⟨x_7, n_8⟩ => ⟨[(0, .int .u64 x_7), (2, .i n_8)], []⟩) (H' := fun ⟨x_7, n_8⟩ => hq [] []) ?_ (fun J_9 => ?_)
    · rintro ⟨x_7, n_8⟩ ⟨ho_, _⟩
      subst ho_
      replace h := hx_6
      clear hx_6
      try dsimp only at h
      show VW _ _ _ _ ⟨[(0, .int .u64 x_7), (2, .i n_8)], []⟩ (hq [] [])
      refine VW.seq (VW.q (VO.m rfl rfl (VO.t (v := .bool (decide (x_7 ≥ 256))) (t_cmp rfl rfl rfl (fun _ _ => rfl) rfl) rfl rfl (VO.n (VW.k3 0 2 14 rfl ?_)))))
      obtain ⟨o_10, h, hx_11⟩ := obind h
      refine VW.joinQ (E := Int × Int) (I := fun ⟨x_12, n_13⟩ => (x_12, n_13) = o_10 ∧ True) (env' := fun ⟨x_12, n_13⟩ => ⟨[(0, .int .u64 x_12), (2, .i n_13)], []⟩) (H' := fun ⟨x_12, n_13⟩ => hq [] []) ?_ (fun J_14 => ?_)
      · rintro ⟨x_12, n_13⟩ ⟨ho_, _⟩
        subst ho_
        replace h := hx_11
        clear hx_11
        try dsimp only at h
        show VW _ _ _ _ ⟨[(0, .int .u64 x_12), (2, .i n_13)], []⟩ (hq [] [])
        refine VW.q (VO.m rfl rfl (VO.m rfl rfl (VO.t (v := .int .u8 (IntKind.wrap .u8 (x_12))) (t_conv rfl ⟨_, Tryd.underlying121⟩ Tryd.underlying5 rfl rfl) rfl rfl ?_)))
        obtain ⟨ha_15, h⟩ := ite_some h
        obtain ⟨hb_16, h⟩ := ite_some h
        refine VO.t (v := .int .u8 ((k_t256_52136.get! (IntKind.wrap .u8 (x_12)).toNat).toNat : Int)) (t_sindex rfl Tryd.underlying9 (fun _ _ => rfl) rfl ha_15 hb_16 rfl) rfl rfl (VO.t (v := .i (w64 (((k_t256_52136.get! (IntKind.wrap .u8 (x_12)).toNat).toNat : Int)))) (t_conv rfl ⟨_, Tryd.underlying5⟩ Tryd.underlying3 rfl rfl) rfl rfl (VO.t (v := .i (w64 (n_13 + (w64 (((k_t256_52136.get! (IntKind.wrap .u8 (x_12)).toNat).toNat : Int)))))) (t_add rfl rfl rfl rfl) rfl rfl (VO.a (v := .i (w64 (n_13 + (w64 (((k_t256_52136.get! (IntKind.wrap .u8 (x_12)).toNat).toNat : Int)))))) rfl rfl (VO.n (VW.ret ?_)))))
        cases oi h
        exact ret0 rfl rfl ⟨rfl, rfl⟩
      · refine VW.cond (b := (decide (x_7 ≥ 256))) rfl (fun hc_17 => ?_) (fun hc_17 => ?_)
        · replace h := iteT h hc_17
          refine VW.q (VO.m rfl rfl (VO.t (v := .int .u64 (ishr .u64 x_7 8)) (t_shr rfl rfl (fun _ _ => rfl) (by decide) rfl) rfl rfl (VO.a (v := .int .u64 (ishr .u64 x_7 8)) rfl rfl (VO.n (VW.k2 2 0 rfl (VW.region (VO.m rfl rfl (VO.t (v := .i (w64 (n_8 + 8))) (t_add rfl rfl (fun _ _ => rfl) rfl) rfl rfl (VO.a (v := .i (w64 (n_8 + 8))) rfl rfl ?_)))))))))
          refine VO.subK (.c 0 rfl (.c 2 rfl .n)) rfl (VO.nil ?_)
          exact thenQ_normal (J_14 ⟨ishr .u64 x_7 8, w64 (n_8 + 8)⟩ ⟨Option.some.inj h, trivial⟩)
        · replace h := iteF h hc_17
          refine VW.k2 0 2 rfl (VW.skip ?_)
          exact thenQ_normal (J_14 ⟨x_7, n_8⟩ ⟨Option.some.inj h, trivial⟩)
    · refine VW.cond (b := (decide (x_2 ≥ 65536))) rfl (fun hc_18 => ?_) (fun hc_18 => ?_)
      · replace h := iteT h hc_18
        refine VW.q (VO.m rfl rfl (VO.t (v := .int .u64 (ishr .u64 x_2 16)) (t_shr rfl rfl (fun _ _ => rfl) (by decide) rfl) rfl rfl (VO.a (v := .int .u64 (ishr .u64 x_2 16)) rfl rfl (VO.n (VW.k2 2 0 rfl (VW.region (VO.m rfl rfl (VO.t (v := .i (w64 (n_3 + 16))) (t_add rfl rfl (fun _ _ => rfl) rfl) rfl rfl (VO.a (v := .i (w64 (n_3 + 16))) rfl rfl ?_)))))))))
        refine VO.subK (.c 0 rfl (.c 2 rfl .n)) rfl (VO.nil ?_)
        exact thenQ_normal (J_9 ⟨ishr .u64 x_2 16, w64 (n_3 + 16)⟩ ⟨Option.some.inj h, trivial⟩)
      · replace h := iteF h hc_18
        refine VW.k2 0 2 rfl (VW.skip ?_)
        exact thenQ_normal (J_9 ⟨x_2, n_3⟩ ⟨Option.some.inj h, trivial⟩)
  · refine VW.cond (b := (decide (a0 ≥ 4294967296))) rfl (fun hc_19 => ?_) (fun hc_19 => ?_)
    · replace h := iteT h hc_19
      refine VW.q (VO.m rfl rfl (VO.t (v := .int .u64 (ishr .u64 a0 32)) (t_shr rfl rfl (fun _ _ => rfl) (by decide) rfl) rfl rfl (VO.a (v := .int .u64 (ishr .u64 a0 32)) rfl rfl (VO.n (VW.k1 0 rfl (VW.region (VO.a (v := .i 32) rfl (fun _ _ => rfl) (VO.subK (.c 0 rfl (.c 2 rfl .n)) rfl (VO.nil ?_)))))))))
      exact thenQ_normal (J_4 ⟨ishr .u64 a0 32, 32⟩ ⟨Option.some.inj h, trivial⟩)
    · replace h := iteF h hc_19
      refine VW.k2 0 2 rfl (VW.skip ?_)
      exact thenQ_normal (J_4 ⟨a0, 0⟩ ⟨Option.some.inj h, trivial⟩)

theorem math_bits_Len_ok (a0 : Int) (r : Int) (h : PL.math_bits_Len a0 = some r) :
    VCalls Tryd.prog 65 [.int .u64 a0] (hq [] []) (fun v H => .i r = v ∧ H = hq [] []) := by
  unfold PL.math_bits_Len at h
  refine VCalls.of_body 8 [2] Tryd.func65 rfl rfl rfl (nle rfl) (VW.k1 0 rfl (VW.q (VO.a (v := .i 0) rfl (fun _ _ => rfl) (VO.n (VW.k1 0 rfl (VW.seq (VW.condF (fun _ _ => rfl) (VW.skip (thenQ_normal ?_)))))))))
  refine VW.q (VO.m rfl rfl ?_)
  obtain ⟨rv_0, hx_1, h⟩ := obind h
  refine VO.k (w_keep rfl fn79 rfl ⟨_, _, rfl, rfl, rfl⟩ (math_bits_Len64_ok _ _ hx_1)) rfl rfl (VO.a (v := .i rv_0) rfl rfl (VO.n (VW.ret ?_)))
  cases oi h
  exact ret0 rfl rfl ⟨rfl, rfl⟩

theorem slices_nextPowerOfTwo_ok (a0 : Int) (r : Int) (h : PL.slices_nextPowerOfTwo a0 = some r) :
    VCalls Tryd.prog 87 [.i a0] (hq [] []) (fun v H => .int .u64 r = v ∧ H = hq [] []) := by
  unfold PL.slices_nextPowerOfTwo at h
  refine VCalls.of_body 7 [2] Tryd.func87 rfl rfl rfl (nle rfl) (VW.k1 0 rfl (VW.q (VO.a (v := .int .u64 0) rfl (fun _ _ => rfl) (VO.n (VW.k1 0 rfl (VW.q (VO.m rfl rfl (VO.t (v := .int .u64 (IntKind.wrap .u64 (a0))) (t_conv rfl ⟨_, Tryd.underlying3⟩ Tryd.underlying106 rfl rfl) rfl rfl ?_))))))))
  obtain ⟨rv_0, hx_1, h⟩ := obind h
  refine VO.k (w_keep rfl fn65 rfl ⟨_, _, rfl, rfl, rfl⟩ (math_bits_Len_ok _ _ hx_1)) rfl rfl ?_
  obtain ⟨hz_2, h⟩ := ite_some h
  refine VO.t (v := .int .u64 (ishl .u64 1 rv_0)) (t_shl rfl (fun _ _ => rfl) rfl hz_2 rfl) rfl rfl (VO.a (v := .int .u64 (ishl .u64 1 rv_0)) rfl rfl (VO.n (VW.ret ?_)))
  cases oi h
  exact ret0 rfl rfl ⟨rfl, rfl⟩

theorem slices_xorshift_Next_ok (a0 : Int) (r : Int × Int) (h : PL.slices_xorshift_Next a0 = some r) (o0 : Nat) :
    VCalls Tryd.prog 88 [.ptr o0 0] (hq [[(o0, .cells [.int .u64 a0])]] []) (fun v H => .int .u64 r.1 = v ∧ H = hq [[(o0, .cells [.int .u64 r.2])]] []) := by
  unfold PL.slices_xorshift_Next at h
  refine VCalls.of_body 33 [2] Tryd.func88 rfl rfl rfl (nle rfl) (VW.k1 0 rfl (VW.q (VO.a (v := .int .u64 0) rfl (fun _ _ => rfl) (VO.n (VW.k1 0 rfl (VW.seq (VW.draw 10 mix rfl (VA.phase (g := 1) [0, 1, 2, 3, 4, 5, 6, 7, 8] 9 (VP.take (i := 0) rfl (TOp.r (t_move rfl rfl)) (.inl rfl) (by kernel_rfl) ?_)))))))))
  refine VP.take (i := 1) (v := .ptr o0 0) rfl (TOp.r (t_nilCheck_ptr rfl rfl)) (.inl rfl) (by kernel_rfl) (VP.take (i := 2) (v := .int .u64 a0) rfl (r_load_q (i := 0) rfl sz129 rfl rfl rfl) (.inl rfl) (by kernel_rfl) (VP.take (i := 3) rfl (TOp.r (t_move rfl rfl)) (.inl rfl) (by kernel_rfl) (VP.take (i := 4) (v := .ptr o0 0) rfl (TOp.r (t_nilCheck_ptr rfl rfl)) (.inl rfl) (by kernel_rfl) (VP.take (i := 5) (v := .int .u64 a0) rfl (r_load_q (i := 0) rfl sz129 rfl rfl rfl) (.inl rfl) (by kernel_rfl) (VP.take (i := 6) (v := .int .u64 (ishl .u64 a0 13)) rfl (TOp.r (t_shl rfl rfl (fun _ _ => rfl) (by decide) rfl)) (.inl rfl) (by kernel_rfl) (VP.take (i := 7) (v := .int .u64 (ibits .xor .u64 a0 (ishl .u64 a0 13))) rfl (TOp.r (t_xor rfl rfl rfl rfl)) (.inl rfl) (by kernel_rfl) (VP.take (i := 8) (v := .ptr o0 0) rfl (TOp.r (t_nilCheck_ptr rfl rfl)) (.inl rfl) (by kernel_rfl) (VP.done (by kernel_rfl) (VA.w (i := 9) (fun v H' => .any = v ∧ H' = hq ([[(o0, .cells [.int .u64 (ibits .xor .u64 a0 (ishl .u64 a0 13))])]]) []) rfl (w_store_q (i := 0) rfl sz129 rfl rfl rfl rfl rfl (nle rfl) ⟨rfl, rfl⟩) (.inl rfl) (by kernel_rfl) rfl ?_)))))))))
  rintro _ _ ⟨rfl, rfl⟩
  refine VA.done (by kernel_rfl) (thenQ_normal (VW.k1 0 rfl (VW.seq (VW.draw 10 mix rfl (VA.phase (g := 1) [0, 1, 2, 3, 4, 5, 6, 7, 8] 9 (VP.take (i := 0) rfl (TOp.r (t_move rfl rfl)) (.inl rfl) (by kernel_rfl) (VP.take (i := 1) (v := .ptr o0 0) rfl (TOp.r (t_nilCheck_ptr rfl rfl)) (.inl rfl) (by kernel_rfl) (VP.take (i := 2) (v := .int .u64 (ibits .xor .u64 a0 (ishl .u64 a0 13))) rfl (r_load_q (i := 0) rfl sz129 rfl rfl rfl) (.inl rfl) (by kernel_rfl) (VP.take (i := 3) rfl (TOp.r (t_move rfl rfl)) (.inl rfl) (by kernel_rfl) ?_)))))))))
  refine VP.take (i := 4) (v := .ptr o0 0) rfl (TOp.r (t_nilCheck_ptr rfl rfl)) (.inl rfl) (by kernel_rfl) (VP.take (i := 5) (v := .int .u64 (ibits .xor .u64 a0 (ishl .u64 a0 13))) rfl (r_load_q (i := 0) rfl sz129 rfl rfl rfl) (.inl rfl) (by kernel_rfl) (VP.take (i := 6) (v := .int .u64 (ishr .u64 (ibits .xor .u64 a0 (ishl .u64 a0 13)) 7)) rfl (TOp.r (t_shr rfl rfl (fun _ _ => rfl) (by decide) rfl)) (.inl rfl) (by kernel_rfl) (VP.take (i := 7) (v := .int .u64 (ibits .xor .u64 (ibits .xor .u64 a0 (ishl .u64 a0 13)) (ishr .u64 (ibits .xor .u64 a0 (ishl .u64 a0 13)) 7))) rfl (TOp.r (t_xor rfl rfl rfl rfl)) (.inl rfl) (by kernel_rfl) (VP.take (i := 8) (v := .ptr o0 0) rfl (TOp.r (t_nilCheck_ptr rfl rfl)) (.inl rfl) (by kernel_rfl) (VP.done (by kernel_rfl) (VA.w (i := 9) (fun v H' => .any = v ∧ H' = hq ([[(o0, .cells [.int .u64 (ibits .xor .u64 (ibits .xor .u64 a0 (ishl .u64 a0 13)) (ishr .u64 (ibits .xor .u64 a0 (ishl .u64 a0 13)) 7))])]]) []) rfl (w_store_q (i := 0) rfl sz129 rfl rfl rfl rfl rfl (nle rfl) ⟨rfl, rfl⟩) (.inl rfl) (by kernel_rfl) rfl ?_))))))
  rintro _ _ ⟨rfl, rfl⟩
  refine VA.done (by kernel_rfl) (thenQ_normal (VW.k1 0 rfl (VW.seq (VW.draw 10 mix rfl (VA.phase (g := 1) [0, 1, 2, 3, 4, 5, 6, 7, 8] 9 (VP.take (i := 0) rfl (TOp.r (t_move rfl rfl)) (.inl rfl) (by kernel_rfl) (VP.take (i := 1) (v := .ptr o0 0) rfl (TOp.r (t_nilCheck_ptr rfl rfl)) (.inl rfl) (by kernel_rfl) (VP.take (i := 2) (v := .int .u64 (ibits .xor .u64 (ibits .xor .u64 a0 (ishl .u64 a0 13)) (ishr .u64 (ibits .xor .u64 a0 (ishl .u64 a0 13)) 7))) rfl (r_load_q (i := 0) rfl sz129 rfl rfl rfl) (.inl rfl) (by kernel_rfl) (VP.take (i := 3) rfl (TOp.r (t_move rfl rfl)) (.inl rfl) (by kernel_rfl) ?_)))))))))
  refine VP.take (i := 4) (v := .ptr o0 0) rfl (TOp.r (t_nilCheck_ptr rfl rfl)) (.inl rfl) (by kernel_rfl) (VP.take (i := 5) (v := .int .u64 (ibits .xor .u64 (ibits .xor .u64 a0 (ishl .u64 a0 13)) (ishr .u64 (ibits .xor .u64 a0 (ishl .u64 a0 13)) 7))) rfl (r_load_q (i := 0) rfl sz129 rfl rfl rfl) (.inl rfl) (by kernel_rfl) (VP.take (i := 6) (v := .int .u64 (ishl .u64 (ibits .xor .u64 (ibits .xor .u64 a0 (ishl .u64 a0 13)) (ishr .u64 (ibits .xor .u64 a0 (ishl .u64 a0 13)) 7)) 17)) rfl (TOp.r (t_shl rfl rfl (fun _ _ => rfl) (by decide) rfl)) (.inl rfl) (by kernel_rfl) (VP.take (i := 7) (v := .int .u64 (ibits .xor .u64 (ibits .xor .u64 (ibits .xor .u64 a0 (ishl .u64 a0 13)) (ishr .u64 (ibits .xor .u64 a0 (ishl .u64 a0 13)) 7)) (ishl .u64 (ibits .xor .u64 (ibits .xor .u64 a0 (ishl .u64 a0 13)) (ishr .u64 (ibits .xor .u64 a0 (ishl .u64 a0 13)) 7)) 17))) rfl (TOp.r (t_xor rfl rfl rfl rfl)) (.inl rfl) (by kernel_rfl) (VP.take (i := 8) (v := .ptr o0 0) rfl (TOp.r (t_nilCheck_ptr rfl rfl)) (.inl rfl) (by kernel_rfl) (VP.done (by kernel_rfl) (VA.w (i := 9) (fun v H' => .any = v ∧ H' = hq ([[(o0, .cells [.int .u64 (ibits .xor .u64 (ibits .xor .u64 (ibits .xor .u64 a0 (ishl .u64 a0 13)) (ishr .u64 (ibits .xor .u64 a0 (ishl .u64 a0 13)) 7)) (ishl .u64 (ibits .xor .u64 (ibits .xor .u64 a0 (ishl .u64 a0 13)) (ishr .u64 (ibits .xor .u64 a0 (ishl .u64 a0 13)) 7)) 17))])]]) []) rfl (w_store_q (i := 0) rfl sz129 rfl rfl rfl rfl rfl (nle rfl) ⟨rfl, rfl⟩) (.inl rfl) (by kernel_rfl) rfl ?_))))))
  rintro _ _ ⟨rfl, rfl⟩
  refine VA.done (by kernel_rfl) (thenQ_normal (VW.k1 0 rfl (VW.q (VO.m rfl rfl (VO.t (v := .ptr o0 0) (t_nilCheck_ptr rfl rfl) rfl rfl (VO.r (v := .int .u64 (ibits .xor .u64 (ibits .xor .u64 (ibits .xor .u64 a0 (ishl .u64 a0 13)) (ishr .u64 (ibits .xor .u64 a0 (ishl .u64 a0 13)) 7)) (ishl .u64 (ibits .xor .u64 (ibits .xor .u64 a0 (ishl .u64 a0 13)) (ishr .u64 (ibits .xor .u64 a0 (ishl .u64 a0 13)) 7)) 17))) (r_load_q (i := 0) rfl sz129 rfl rfl rfl) rfl rfl (VO.a (v := .int .u64 (ibits .xor .u64 (ibits .xor .u64 (ibits .xor .u64 a0 (ishl .u64 a0 13)) (ishr .u64 (ibits .xor .u64 a0 (ishl .u64 a0 13)) 7)) (ishl .u64 (ibits .xor .u64 (ibits .xor .u64 a0 (ishl .u64 a0 13)) (ishr .u64 (ibits .xor .u64 a0 (ishl .u64 a0 13)) 7)) 17))) rfl rfl (VO.n (VW.k1 2 rfl ?_)))))))))
  refine VW.ret ?_
  obtain rfl := oi h
  exact ⟨.inr rfl, rfl, _, .int .u64 (ibits .xor .u64 (ibits .xor .u64 (ibits .xor .u64 a0 (ishl .u64 a0 13)) (ishr .u64 (ibits .xor .u64 a0 (ishl .u64 a0 13)) 7)) (ishl .u64 (ibits .xor .u64 (ibits .xor .u64 a0 (ishl .u64 a0 13)) (ishr .u64 (ibits .xor .u64 a0 (ishl .u64 a0 13)) 7)) 17)), hq [[(o0, .cells [.int .u64 (ibits .xor .u64 (ibits .xor .u64 (ibits .xor .u64 a0 (ishl .u64 a0 13)) (ishr .u64 (ibits .xor .u64 a0 (ishl .u64 a0 13)) 7)) (ishl .u64 (ibits .xor .u64 (ibits .xor .u64 a0 (ishl .u64 a0 13)) (ishr .u64 (ibits .xor .u64 a0 (ishl .u64 a0 13)) 7)) 17))])]] [], rfl, VLe.refl _, hq_sub (.cons_cons _ .slnil) .slnil, rfl, rfl⟩

theorem slices_breakPatternsCmpFunc_2int.l0_ok (a3 : Pr → Pr → Option Int) (a1 : Int) (a2 : Int) (rv_0 : Int) (a3_f : Nat) (a3_a a3_c : List VV) (a3_g : Seg) (a3_k : FnOK Tryd.prog a3_f) (a3_h : ∀ (y0 : Pr) (y1 : Pr) (z : Int), a3 y0 y1 = some z → VCalls Tryd.prog a3_f (a3_a ++ [.agg (Pr.c y0), .agg (Pr.c y1)] ++ a3_c) (hq [a3_g] []) (fun v H => .i z = v ∧ H = hq [a3_g] [])) {Q : Exit → Env → HH → Prop} :
    ∀ (bu_1 : List Pr) (c_2 : Int) (idx_3 : Int) (o : (List Pr)), PL.slices_breakPatternsCmpFunc_2int.l0 a3 a1 a2 rv_0 bu_1 c_2 idx_3 = some o →
    ∀ (ob_4 : Nat) (vp0_5 : VV) (bp0_5 : Seg) (hbp0_5 : Buf 2 (bu_1.map Pr.c) vp0_5 bp0_5) (hx0 : ∀ (bu_6 : List Pr) (bp0_7 : Seg), bu_6 = o → Buf 2 (bu_6.map Pr.c) vp0_5 bp0_7 → Q (.exit 0) ⟨[], []⟩ (hq ([bp0_7, a3_g]) [])), VW Tryd.prog 67 (codeAt [1, 1, 0, 1, 1, 1, 0, 0] (bodyOf Tryd.f72)) (thenQ (VL Tryd.prog 67 (codeAt [1, 1, 0, 1, 1, 1, 0, 0] (bodyOf Tryd.f72)) Q) Q) ⟨[(0, vp0_5), (1, .i a1), (8, .i (w64 (a2 - a1))), (9, .ptr ob_4 0), (10, .int .u64 rv_0), (11, .i idx_3)], []⟩ (hq ([bp0_5, a3_g, [(ob_4, .cells [.int .u64 c_2])]]) []) := by
  refine PL.slices_breakPatternsCmpFunc_2int.l0.partial_correctness a3 a1 a2 rv_0 (motive := fun bu_1 c_2 idx_3 o => ∀ (ob_4 : Nat) (vp0_5 : VV) (bp0_5 : Seg) (hbp0_5 : Buf 2 (bu_1.map Pr.c) vp0_5 bp0_5) (hx0 : ∀ (bu_6 : List Pr) (bp0_7 : Seg), bu_6 = o → Buf 2 (bu_6.map Pr.c) vp0_5 bp0_7 → Q (.exit 0) ⟨[], []⟩ (hq ([bp0_7, a3_g]) [])), VW Tryd.prog 67 (codeAt [1, 1, 0, 1, 1, 1, 0, 0] (bodyOf Tryd.f72)) (thenQ (VL Tryd.prog 67 (codeAt [1, 1, 0, 1, 1, 1, 0, 0] (bodyOf Tryd.f72)) Q) Q) ⟨[(0, vp0_5), (1, .i a1), (8, .i (w64 (a2 - a1))), (9, .ptr ob_4 0), (10, .int .u64 rv_0), (11, .i idx_3)], []⟩ (hq ([bp0_5, a3_g, [(ob_4, .cells [.int .u64 c_2])]]) [])) ?_
  intro _ ih bu_1 c_2 idx_3 o h ob_4 vp0_5 bp0_5 hbp0_5 hx0
  refine VW.seq (VW.q (VO.m rfl rfl (VO.m rfl rfl (VO.m rfl rfl (VO.t (v := .i (w64 (Int.tdiv (w64 (a2 - a1)) 4))) (t_quo rfl rfl (fun _ _ => rfl) (by decide) rfl) rfl rfl (VO.t (v := .i (w64 ((w64 (Int.tdiv (w64 (a2 - a1)) 4)) * 2))) (t_mul rfl rfl (fun _ _ => rfl) rfl) rfl rfl (VO.t (v := .i (w64 (a1 + (w64 ((w64 (Int.tdiv (w64 (a2 - a1)) 4)) * 2))))) (t_add rfl rfl rfl rfl) rfl rfl (VO.t (v := .i (w64 ((w64 (a1 + (w64 ((w64 (Int.tdiv (w64 (a2 - a1)) 4)) * 2)))) + 1))) (t_add rfl rfl (fun _ _ => rfl) rfl) rfl rfl (VO.t (v := .bool (decide (idx_3 ≤ (w64 ((w64 (a1 + (w64 ((w64 (Int.tdiv (w64 (a2 - a1)) 4)) * 2)))) + 1))))) (t_cmp rfl rfl rfl rfl rfl) rfl rfl ?_)))))))))
  refine VO.n (VW.k7 0 1 8 9 10 11 35 rfl ?_)
  refine VW.cond (b := (decide (idx_3 ≤ (w64 ((w64 (a1 + (w64 ((w64 (Int.tdiv (w64 (a2 - a1)) 4)) * 2)))) + 1))))) rfl (fun hc_8 => ?_) (fun hc_8 => ?_)
  · replace h := iteT h hc_8
    refine VW.skip (thenQ_normal (VW.k6 0 1 8 9 10 11 rfl (VW.seq (VW.block (VW.q (VO.frontS 2 rfl ?_))))))
    obtain ⟨⟨rv_9, k_10⟩, hx_11, h⟩ := obind h
    try dsimp only at h
    refine VO.w (fun v H' => .int .u64 rv_9 = v ∧ H' = hq ([[(ob_4, .cells [.int .u64 k_10])], bp0_5, a3_g]) []) (w_call_q (sa := [[(ob_4, .cells [.int .u64 c_2])]]) (sg := [bp0_5, a3_g]) (tks := []) rfl fn88 rfl ⟨_, _, rfl, rfl, rfl⟩ (slices_xorshift_Next_ok _ _ hx_11 ob_4) (by rintro v H' ⟨rfl, rfl⟩; exact ⟨[[(ob_4, .cells [.int .u64 k_10])]], rfl, rfl, rfl⟩)) rfl rfl ?_
    rintro _ _ ⟨rfl, rfl⟩
    refine VO.m rfl rfl (VO.t (v := .int .u64 (IntKind.wrap .u64 (rv_0 - 1))) (t_sub rfl rfl (fun _ _ => rfl) rfl) rfl rfl (VO.t (v := .int .u64 (ibits .and .u64 rv_9 (IntKind.wrap .u64 (rv_0 - 1)))) (t_and rfl rfl rfl rfl) rfl rfl (VO.t (v := .i (w64 (ibits .and .u64 rv_9 (IntKind.wrap .u64 (rv_0 - 1))))) (t_conv rfl ⟨_, Tryd.underlying106⟩ Tryd.underlying3 rfl rfl) rfl rfl (VO.a (v := .i (w64 (ibits .and .u64 rv_9 (IntKind.wrap .u64 (rv_0 - 1))))) rfl rfl (VO.n (VW.k7 0 1 8 9 10 11 12 rfl (VW.seq (VW.q (VO.m rfl rfl ?_)))))))))
    refine VO.m rfl rfl (VO.t (v := .bool (decide ((w64 (ibits .and .u64 rv_9 (IntKind.wrap .u64 (rv_0 - 1)))) ≥ (w64 (a2 - a1))))) (t_cmp rfl rfl rfl rfl rfl) rfl rfl (VO.n (VW.k8 0 1 8 9 10 11 12 45 rfl ?_)))
    obtain ⟨o_12, h, hx_13⟩ := obind h
    refine VW.joinQ (E := Int × Seg) (I := fun ⟨other_14, bp0_15⟩ => other_14 = o_12 ∧ Buf 2 (bu_1.map Pr.c) vp0_5 bp0_15 ∧ True) (env' := fun ⟨other_14, bp0_15⟩ => ⟨[(0, vp0_5), (1, .i a1), (8, .i (w64 (a2 - a1))), (9, .ptr ob_4 0), (10, .int .u64 rv_0), (11, .i idx_3), (12, .i other_14)], []⟩) (H' := fun ⟨other_14, bp0_15⟩ => hq ([bp0_15, a3_g, [(ob_4, .cells [.int .u64 k_10])]]) []) ?_ (fun J_16 => ?_)
    · rintro ⟨other_14, bp0_15⟩ ⟨ho_, hbp0_15, _⟩
      subst ho_
      replace h := hx_13
      clear hx_13
      try dsimp only at h
      show VW _ _ _ _ ⟨[(0, vp0_5), (1, .i a1), (8, .i (w64 (a2 - a1))), (9, .ptr ob_4 0), (10, .int .u64 rv_0), (11, .i idx_3), (12, .i other_14)], []⟩ (hq ([bp0_15, a3_g, [(ob_4, .cells [.int .u64 k_10])]]) [])
      refine VW.draw 20 mix rfl (VA.t (i := 0) rfl (t_move rfl rfl) (.inl rfl) (by kernel_rfl) (VA.t (i := 1) rfl (t_move rfl rfl) (.inl rfl) (by kernel_rfl) (VA.t (i := 2) rfl (t_move rfl rfl) (.inl rfl) (by kernel_rfl) (VA.t (i := 3) rfl (t_move rfl rfl) (.inl rfl) (by kernel_rfl) (VA.t (i := 4) rfl (t_move rfl rfl) (.inl rfl) (by kernel_rfl) (VA.t (i := 5) (v := .i (w64 (a1 + other_14))) rfl (t_add rfl rfl rfl rfl) (.inl rfl) (by kernel_rfl) (VA.phase (g := 3) [6, 7, 8, 9, 10, 11, 12, 13, 14, 15, 16] 11 (VP.take (i := 6) rfl (TOp.r (t_move rfl rfl)) (.inl rfl) (by kernel_rfl) (VP.take (i := 7) rfl (TOp.r (t_move rfl rfl)) (.inl rfl) (by kernel_rfl) ?_)))))))))
      refine VP.take (i := 8) rfl (TOp.r (t_move rfl rfl)) (.inl rfl) (by kernel_rfl) (VP.take (i := 9) (v := .i (w64 (a1 + other_14))) rfl (TOp.r (t_add rfl rfl rfl rfl)) (.inl rfl) (by kernel_rfl) ?_)
      obtain ⟨c_17, hc_17, h⟩ := obind h
      obtain ⟨ob_18, cap_18, len_18, sl_18, rfl, rfl, hE_18, hl_18, hc_18, hs_18⟩ := buf_at hbp0_15 hc_17
      refine VP.take (i := 10) (v := .ptr ob_18 ((w64 (a1 + other_14)).toNat * 2 + 0)) rfl (TOp.r (t_index_own rfl sl31 rfl rfl (getI_some hc_17).1 (by rw [hl_18]; exact getI_lt hc_17) rfl)) (.inl rfl) (by kernel_rfl) (VP.take (i := 11) (v := .agg (Pr.c c_17)) rfl (r_load_buf (n := 2) (f := 0) (j := 0) rfl sz59 rfl rfl hE_18 (map_get (getI_some hc_17).2 (Pr.c_eq c_17)) (nle rfl) (fun _ => ofCells_agg rfl)) (.inl rfl) (by kernel_rfl) (VP.take (i := 12) rfl (TOp.r (t_move rfl rfl)) (.inl rfl) (by kernel_rfl) (VP.take (i := 13) rfl (TOp.r (t_move rfl rfl)) (.inl rfl) (by kernel_rfl) ?_)))
      obtain ⟨c_19, hc_19, h⟩ := obind h
      refine VP.take (i := 14) (v := .ptr ob_18 (idx_3.toNat * 2 + 0)) rfl (TOp.r (t_index_own rfl sl31 rfl rfl (getI_some hc_19).1 (by rw [hl_18]; exact getI_lt hc_19) rfl)) (.inl rfl) (by kernel_rfl) (VP.take (i := 15) (v := .agg (Pr.c c_19)) rfl (r_load_buf (n := 2) (f := 0) (j := 0) rfl sz59 rfl rfl hE_18 (map_get (getI_some hc_19).2 (Pr.c_eq c_19)) (nle rfl) (fun _ => ofCells_agg rfl)) (.inl rfl) (by kernel_rfl) (VP.take (i := 16) (v := .ptr ob_18 (idx_3.toNat * 2 + 0)) rfl (TOp.r (t_index_own rfl sl31 rfl rfl (getI_some hc_19).1 (by rw [hl_18]; exact getI_lt hc_19) rfl)) (.inl rfl) (by kernel_rfl) (VP.done (by kernel_rfl) (VA.w (i := 17) (fun v H' => .any = v ∧ H' = hq ([[(ob_18, .cells (((bu_1.set idx_3.toNat c_17).map Pr.c).flatten ++ sl_18))], a3_g, [(ob_4, .cells [.int .u64 k_10])]]) []) rfl (w_store_buf (n := 2) (f := 0) (j := 0) rfl sz59 rfl rfl rfl hE_18 (map_get (getI_some hc_19).2 (Pr.c_eq c_19)) rfl rfl (nle rfl) rfl (map_set (Pr.c_eq c_17)) ⟨rfl, rfl⟩) (.inl rfl) (by kernel_rfl) rfl ?_))))
      rintro _ _ ⟨rfl, rfl⟩
      have hl_20 : len_18 = (bu_1.set idx_3.toNat c_17).length := by simp [hl_18]
      obtain ⟨c_21, hc_21, h⟩ := obind h
      refine VA.t (i := 18) (v := .ptr ob_18 ((w64 (a1 + other_14)).toNat * 2 + 0)) rfl (t_index_own rfl sl31 rfl rfl (getI_some hc_21).1 (by rw [hl_20]; exact getI_lt hc_21) rfl) (.inl rfl) (by kernel_rfl) (VA.w (i := 19) (fun v H' => .any = v ∧ H' = hq ([[(ob_18, .cells ((((bu_1.set idx_3.toNat c_17).set (w64 (a1 + other_14)).toNat c_19).map Pr.c).flatten ++ sl_18))], a3_g, [(ob_4, .cells [.int .u64 k_10])]]) []) rfl (w_store_buf (n := 2) (f := 0) (j := 0) rfl sz59 rfl rfl rfl (elemsOK_map Pr.c_ok _) (map_get (getI_some hc_21).2 (Pr.c_eq c_21)) rfl rfl (nle rfl) rfl (map_set (Pr.c_eq c_19)) ⟨rfl, rfl⟩) (.inl rfl) (by kernel_rfl) rfl ?_)
      rintro _ _ ⟨rfl, rfl⟩
      have hl_22 : len_18 = ((bu_1.set idx_3.toNat c_17).set (w64 (a1 + other_14)).toNat c_19).length := by simp [hl_20]
      refine VA.done (by kernel_rfl) (blockQ_normal (thenQ_normal (VW.k6 0 1 8 9 10 11 rfl (VW.region (VO.m rfl rfl (VO.t (v := .i (w64 (idx_3 + 1))) (t_add rfl rfl (fun _ _ => rfl) rfl) rfl rfl (VO.a (v := .i (w64 (idx_3 + 1))) rfl rfl (VO.nil (thenQ_normal (VL.round ?_))))))))))
      refine VW.k6 0 1 8 9 10 11 rfl ?_
      exact ih _ _ _ _ h ob_4 (.own ob_18 cap_18 len_18) [(ob_18, .cells ((((bu_1.set idx_3.toNat c_17).set (w64 (a1 + other_14)).toNat c_19).map Pr.c).flatten ++ sl_18))] (Buf.own (n := 2) (l := ((bu_1.set idx_3.toNat c_17).set (w64 (a1 + other_14)).toNat c_19).map Pr.c) ob_18 cap_18 len_18 sl_18 (elemsOK_map Pr.c_ok _) (by simp [hl_22]) hc_18 hs_18) hx0
    · refine VW.cond (b := (decide ((w64 (ibits .and .u64 rv_9 (IntKind.wrap .u64 (rv_0 - 1)))) ≥ (w64 (a2 - a1))))) rfl (fun hc_23 => ?_) (fun hc_23 => ?_)
      · replace h := iteT h hc_23
        refine VW.region (VO.m rfl rfl (VO.m rfl rfl (VO.t (v := .i (w64 ((w64 (ibits .and .u64 rv_9 (IntKind.wrap .u64 (rv_0 - 1)))) - (w64 (a2 - a1))))) (t_sub rfl rfl rfl rfl) rfl rfl (VO.a (v := .i (w64 ((w64 (ibits .and .u64 rv_9 (IntKind.wrap .u64 (rv_0 - 1)))) - (w64 (a2 - a1))))) rfl rfl (VO.subK (.c 0 rfl (.c 1 rfl (.c 8 rfl (.c 9 rfl (.c 10 rfl (.c 11 rfl (.c 12 rfl .n))))))) rfl (VO.frontS 0 rfl (VO.frontS 2 rfl (VO.frontS 2 rfl (VO.nil ?_)))))))))
        exact thenQ_normal (J_16 ⟨w64 ((w64 (ibits .and .u64 rv_9 (IntKind.wrap .u64 (rv_0 - 1)))) - (w64 (a2 - a1))), bp0_5⟩ ⟨Option.some.inj h, hbp0_5, trivial⟩)
      · replace h := iteF h hc_23
        refine VW.k7 0 1 8 9 10 11 12 rfl (VW.frontS 0 rfl (VW.frontS 2 rfl (VW.frontS 2 rfl (VW.skip ?_))))
        exact thenQ_normal (J_16 ⟨w64 (ibits .and .u64 rv_9 (IntKind.wrap .u64 (rv_0 - 1))), bp0_5⟩ ⟨Option.some.inj h, hbp0_5, trivial⟩)
  · replace h := iteF h hc_8
    refine VW.subN (t' := []) trivial rfl (VW.hsub (A := hq ([bp0_5, a3_g]) []) (hq_sub (.cons_cons _ (.cons_cons _ (.cons _ .slnil))) .slnil) (VW.exit (thenQ_exit (thenQ_exit ?_))))
    obtain rfl := oi h
    exact hx0 _ bp0_5 rfl hbp0_5

theorem slices_breakPatternsCmpFunc_2int_ok (a0 : List Pr) (a1 : Int) (a2 : Int) (a3 : Pr → Pr → Option Int) (r : List Pr) (h : PL.slices_breakPatternsCmpFunc_2int a0 a1 a2 a3 = some r) (v0 : VV) (b0 : Seg) (a3_f : Nat) (a3_a : List VV) (a3_c : List VV) (a3_g : Seg) (hB0 : Buf 2 (a0.map Pr.c) v0 b0) (a3_k : FnOK Tryd.prog a3_f) (a3_h : ∀ (y0 : Pr) (y1 : Pr) (z : Int), a3 y0 y1 = some z → VCalls Tryd.prog a3_f (a3_a ++ [.agg (Pr.c y0), .agg (Pr.c y1)] ++ a3_c) (hq [a3_g] []) (fun v H => .i z = v ∧ H = hq [a3_g] [])) :
    VCalls Tryd.prog 72 [v0, .i a1, .i a2, .func (.func a3_f) a3_a a3_c] (hq [b0, a3_g] []) (fun v H => ∃ bk0, Buf 2 (r.map Pr.c) v0 bk0 ∧ .tup [] = v ∧ H = hq [bk0, a3_g] []) := by
  unfold PL.slices_breakPatternsCmpFunc_2int at h
  refine VCalls.of_body 67 [] Tryd.func72 rfl rfl rfl (nle rfl) (VW.k3 0 1 2 rfl (VW.q (VO.m rfl rfl (VO.m rfl rfl (VO.t (v := .i (w64 (a2 - a1))) (t_sub rfl rfl rfl rfl) rfl rfl (VO.a (v := .i (w64 (a2 - a1))) rfl rfl (VO.n (VW.k3 0 1 8 rfl (VW.q ?_)))))))))
  refine VO.m rfl rfl (VO.t (v := .bool (decide ((w64 (a2 - a1)) ≥ 8))) (t_cmp rfl rfl rfl (fun _ _ => rfl) rfl) rfl rfl (VO.n (VW.k4 0 1 8 17 rfl ?_)))
  refine VW.cond (b := (decide ((w64 (a2 - a1)) ≥ 8))) rfl (fun hc_0 => ?_) (fun hc_0 => ?_)
  · replace h := iteT h hc_0
    refine VW.q (VO.m rfl rfl (VO.t (v := .int .u64 (IntKind.wrap .u64 (w64 (a2 - a1)))) (t_conv rfl ⟨_, Tryd.underlying3⟩ Tryd.underlying129 rfl rfl) rfl rfl (VO.w (fun v H' => ∃ ob_1, .ptr ob_1 0 = v ∧ H' = hq ([[(ob_1, .cells [.int .u64 0])], b0, a3_g]) []) (w_alloc_q rfl zt129 (fun ob => ⟨ob, rfl, rfl⟩)) rfl rfl ?_)))
    rintro _ _ ⟨ob_1, rfl, rfl⟩
    refine VO.w (fun v H' => .any = v ∧ H' = hq ([[(ob_1, .cells [.int .u64 (IntKind.wrap .u64 (w64 (a2 - a1)))])], b0, a3_g]) []) (w_store_q (i := 0) rfl sz129 rfl rfl rfl rfl rfl (nle rfl) ⟨rfl, rfl⟩) rfl rfl ?_
    rintro _ _ ⟨rfl, rfl⟩
    refine VO.n (VW.k4 0 1 8 9 rfl (VW.q (VO.m rfl rfl ?_)))
    obtain ⟨rv_2, hx_3, h⟩ := obind h
    refine VO.k (w_keep rfl fn87 rfl ⟨_, _, rfl, rfl, rfl⟩ (slices_nextPowerOfTwo_ok _ _ hx_3)) rfl rfl (VO.a (v := .int .u64 rv_2) rfl rfl (VO.n (VW.k5 0 1 8 9 10 rfl (VW.q (VO.m rfl rfl (VO.m rfl rfl (VO.t (v := .i (w64 (Int.tdiv (w64 (a2 - a1)) 4))) (t_quo rfl rfl (fun _ _ => rfl) (by decide) rfl) rfl rfl (VO.t (v := .i (w64 ((w64 (Int.tdiv (w64 (a2 - a1)) 4)) * 2))) (t_mul rfl rfl (fun _ _ => rfl) rfl) rfl rfl (VO.t (v := .i (w64 (a1 + (w64 ((w64 (Int.tdiv (w64 (a2 - a1)) 4)) * 2))))) (t_add rfl rfl rfl rfl) rfl rfl ?_)))))))))
    refine VO.t (v := .i (w64 ((w64 (a1 + (w64 ((w64 (Int.tdiv (w64 (a2 - a1)) 4)) * 2)))) - 1))) (t_sub rfl rfl (fun _ _ => rfl) rfl) rfl rfl (VO.a (v := .i (w64 ((w64 (a1 + (w64 ((w64 (Int.tdiv (w64 (a2 - a1)) 4)) * 2)))) - 1))) rfl rfl (VO.n (VW.k6 0 1 8 9 10 11 rfl (VW.block (VW.k6 0 1 8 9 10 11 rfl (VW.frontS 0 rfl (VW.frontS 2 rfl (VW.frontS 2 rfl ?_))))))))
    obtain ⟨o_4, hx_5, h⟩ := obind h
    refine VW.loopL (slices_breakPatternsCmpFunc_2int.l0_ok a3 a1 a2 rv_2 a3_f a3_a a3_c a3_g a3_k a3_h _ _ _ _ hx_5 ob_1 v0 b0 hB0 ?_)
    · intro bu_6 bp0_7 ho_ hbp0_7
      subst ho_
      try dsimp only at h
      refine blockQ_hit ?_
      obtain rfl := oi h
      exact ⟨.inl rfl, rfl, _, .tup [], hq [bp0_7, a3_g] [], rfl, VLe.refl _, hq_sub (.cons_cons _ (.cons_cons _ .slnil)) .slnil, bp0_7, hbp0_7, rfl, rfl⟩
  · replace h := iteF h hc_0
    refine VW.subN (t' := []) trivial rfl (VW.skip ?_)
    obtain rfl := oi h
    exact ⟨.inl rfl, rfl, _, .tup [], hq [b0, a3_g] [], rfl, VLe.refl _, hq_sub (.cons_cons _ (.cons_cons _ .slnil)) .slnil, b0, hB0, rfl, rfl⟩

theorem slices_order2CmpFunc_2int_ok (a0 : List Pr) (a1 : Int) (a2 : Int) (a3 : Int) (a4 : Pr → Pr → Option Int) (r : Int × Int × List Pr × Int) (h : PL.slices_order2CmpFunc_2int a0 a1 a2 a3 a4 = some r) (v0 : VV) (b0 : Seg) (o3 : Nat) (a4_f : Nat) (a4_a : List VV) (a4_c : List VV) (a4_g : Seg) (hB0 : Buf 2 (a0.map Pr.c) v0 b0) (a4_k : FnOK Tryd.prog a4_f) (a4_h : ∀ (y0 : Pr) (y1 : Pr) (z : Int), a4 y0 y1 = some z → VCalls Tryd.prog a4_f (a4_a ++ [.agg (Pr.c y0), .agg (Pr.c y1)] ++ a4_c) (hq [a4_g] []) (fun v H => .i z = v ∧ H = hq [a4_g] [])) :
    VCalls Tryd.prog 95 [v0, .i a1, .i a2, .ptr o3 0, .func (.func a4_f) a4_a a4_c] (hq [b0, [(o3, .cells [.i a3])], a4_g] []) (fun v H => ∃ bk0, Buf 2 (r.2.2.1.map Pr.c) v0 bk0 ∧ .tup [.i r.1, .i r.2.1] = v ∧ H = hq [bk0, [(o3, .cells [.i r.2.2.2])], a4_g] []) := by
  unfold PL.slices_order2CmpFunc_2int at h
  refine VCalls.of_body 32 [10, 11] Tryd.func95 rfl rfl rfl (nle rfl) (VW.k5 0 1 2 3 4 rfl (VW.q (VO.a (v := .i 0) rfl (fun _ _ => rfl) (VO.a (v := .i 0) rfl (fun _ _ => rfl) (VO.n (VW.k5 0 1 2 3 4 rfl (VW.seq (VW.seq (VW.draw 11 mix rfl ?_)))))))))
  refine VA.phase (g := 2) [0, 1, 2, 3, 4, 5, 6, 7, 8] 9 (VP.take (i := 0) rfl (TOp.r (t_move rfl rfl)) (.inl rfl) (by kernel_rfl) (VP.take (i := 1) rfl (TOp.r (t_move rfl rfl)) (.inl rfl) (by kernel_rfl) (VP.take (i := 2) rfl (TOp.r (t_move rfl rfl)) (.inl rfl) (by kernel_rfl) ?_)))
  obtain ⟨c_0, hc_0, h⟩ := obind h
  obtain ⟨ob_1, cap_1, len_1, sl_1, rfl, rfl, hE_1, hl_1, hc_1, hs_1⟩ := buf_at hB0 hc_0
  refine VP.take (i := 3) (v := .ptr ob_1 (a2.toNat * 2 + 0)) rfl (TOp.r (t_index_own rfl sl31 rfl rfl (getI_some hc_0).1 (by rw [hl_1]; exact getI_lt hc_0) rfl)) (.inl rfl) (by kernel_rfl) (VP.take (i := 4) (v := .agg (Pr.c c_0)) rfl (r_load_buf (n := 2) (f := 0) (j := 0) rfl sz59 rfl rfl hE_1 (map_get (getI_some hc_0).2 (Pr.c_eq c_0)) (nle rfl) (fun _ => ofCells_agg rfl)) (.inl rfl) (by kernel_rfl) (VP.take (i := 5) rfl (TOp.r (t_move rfl rfl)) (.inl rfl) (by kernel_rfl) (VP.take (i := 6) rfl (TOp.r (t_move rfl rfl)) (.inl rfl) (by kernel_rfl) ?_)))
  obtain ⟨c_2, hc_2, h⟩ := obind h
  refine VP.take (i := 7) (v := .ptr ob_1 (a1.toNat * 2 + 0)) rfl (TOp.r (t_index_own rfl sl31 rfl rfl (getI_some hc_2).1 (by rw [hl_1]; exact getI_lt hc_2) rfl)) (.inl rfl) (by kernel_rfl) (VP.take (i := 8) (v := .agg (Pr.c c_2)) rfl (r_load_buf (n := 2) (f := 0) (j := 0) rfl sz59 rfl rfl hE_1 (map_get (getI_some hc_2).2 (Pr.c_eq c_2)) (nle rfl) (fun _ => ofCells_agg rfl)) (.inl rfl) (by kernel_rfl) (VP.done (by kernel_rfl) (VA.frontS 2 rfl ?_)))
  obtain ⟨rv_3, hx_4, h⟩ := obind h
  refine VA.w (i := 9) (fun v H' => .i rv_3 = v ∧ H' = hq ([a4_g, [(ob_1, .cells ((a0.map Pr.c).flatten ++ sl_1))], [(o3, .cells [.i a3])]]) []) rfl (w_call_q (sa := [a4_g]) (sg := [[(ob_1, .cells ((a0.map Pr.c).flatten ++ sl_1))], [(o3, .cells [.i a3])]]) (tks := []) rfl a4_k rfl ⟨_, _, rfl, rfl, _, _, rfl, rfl, rfl⟩ (a4_h _ _ _ hx_4) (by rintro v H' ⟨rfl, rfl⟩; exact ⟨[a4_g], rfl, rfl, rfl⟩)) (.inl rfl) (by kernel_rfl) rfl ?_
  rintro _ _ ⟨rfl, rfl⟩
  refine VA.t (i := 10) (v := .bool (decide (rv_3 < 0))) rfl (t_cmp rfl rfl rfl (fun _ _ => rfl) rfl) (.inl rfl) (by kernel_rfl) (VA.done (by kernel_rfl) (thenQ_normal (VW.k4 1 2 3 22 rfl ?_)))
  refine VW.cond (b := (decide (rv_3 < 0))) rfl (fun hc_5 => ?_) (fun hc_5 => ?_)
  · replace h := iteT h hc_5
    refine VW.q (VO.m rfl rfl (VO.t (v := .ptr o3 0) (t_nilCheck_ptr rfl rfl) rfl rfl (VO.r (v := .i a3) (r_load_q (i := 2) rfl sz3 rfl rfl rfl) rfl rfl (VO.t (v := .i (w64 (a3 + 1))) (t_add rfl rfl (fun _ _ => rfl) rfl) rfl rfl (VO.t (v := .ptr o3 0) (t_nilCheck_ptr rfl rfl) rfl rfl (VO.w (fun v H' => .any = v ∧ H' = hq ([a4_g, [(ob_1, .cells ((a0.map Pr.c).flatten ++ sl_1))], [(o3, .cells [.i (w64 (a3 + 1))])]]) []) (w_store_q (i := 2) rfl sz3 rfl rfl rfl rfl rfl (nle rfl) ⟨rfl, rfl⟩) rfl rfl ?_))))))
    rintro _ _ ⟨rfl, rfl⟩
    refine VO.n (VW.k2 1 2 rfl (VW.q (VO.m rfl rfl (VO.m rfl rfl (VO.a (v := .i a2) rfl rfl (VO.a (v := .i a1) rfl rfl (VO.n (VW.k2 10 11 rfl (VW.frontS 0 rfl ?_)))))))))
    refine VW.frontS 2 rfl (VW.frontS 2 rfl (VW.ret (thenQ_ret ?_)))
    obtain rfl := oi h
    exact ⟨.inr rfl, rfl, _, .tup [.i a2, .i a1], hq [[(ob_1, .cells ((a0.map Pr.c).flatten ++ sl_1))], [(o3, .cells [.i (w64 (a3 + 1))])], a4_g] [], ⟨_, _, rfl, rfl, rfl⟩, VLe.tup ⟨VLe.refl _, VLe.refl _, trivial⟩, hq_sub (.cons_cons _ (.cons_cons _ (.cons_cons _ .slnil))) .slnil, [(ob_1, .cells ((a0.map Pr.c).flatten ++ sl_1))], (Buf.own (n := 2) (l := a0.map Pr.c) ob_1 cap_1 len_1 sl_1 (elemsOK_map Pr.c_ok _) (by simp [hl_1]) hc_1 hs_1), rfl, rfl⟩
  · replace h := iteF h hc_5
    refine VW.skip (thenQ_normal (VW.k2 1 2 rfl (VW.q (VO.m rfl rfl (VO.m rfl rfl (VO.a (v := .i a1) rfl rfl (VO.a (v := .i a2) rfl rfl (VO.n (VW.k2 10 11 rfl ?_)))))))))
    refine VW.frontS 0 rfl (VW.frontS 2 rfl (VW.frontS 2 rfl (VW.ret ?_)))
    obtain rfl := oi h
    exact ⟨.inr rfl, rfl, _, .tup [.i a1, .i a2], hq [[(ob_1, .cells ((a0.map Pr.c).flatten ++ sl_1))], [(o3, .cells [.i a3])], a4_g] [], ⟨_, _, rfl, rfl, rfl⟩, VLe.tup ⟨VLe.refl _, VLe.refl _, trivial⟩, hq_sub (.cons_cons _ (.cons_cons _ (.cons_cons _ .slnil))) .slnil, [(ob_1, .cells ((a0.map Pr.c).flatten ++ sl_1))], (Buf.own (n := 2) (l := a0.map Pr.c) ob_1 cap_1 len_1 sl_1 (elemsOK_map Pr.c_ok _) (by simp [hl_1]) hc_1 hs_1), rfl, rfl⟩

theorem slices_medianCmpFunc_2int_ok (a0 : List Pr) (a1 : Int) (a2 : Int) (a3 : Int) (a4 : Int) (a5 : Pr → Pr → Option Int) (r : Int × List Pr × Int) (h : PL.slices_medianCmpFunc_2int a0 a1 a2 a3 a4 a5 = some r) (v0 : VV) (b0 : Seg) (o4 : Nat) (a5_f : Nat) (a5_a : List VV) (a5_c : List VV) (a5_g : Seg) (hB0 : Buf 2 (a0.map Pr.c) v0 b0) (a5_k : FnOK Tryd.prog a5_f) (a5_h : ∀ (y0 : Pr) (y1 : Pr) (z : Int), a5 y0 y1 = some z → VCalls Tryd.prog a5_f (a5_a ++ [.agg (Pr.c y0), .agg (Pr.c y1)] ++ a5_c) (hq [a5_g] []) (fun v H => .i z = v ∧ H = hq [a5_g] [])) :
    VCalls Tryd.prog 90 [v0, .i a1, .i a2, .i a3, .ptr o4 0, .func (.func a5_f) a5_a a5_c] (hq [b0, [(o4, .cells [.i a4])], a5_g] []) (fun v H => ∃ bk0, Buf 2 (r.2.1.map Pr.c) v0 bk0 ∧ .i r.1 = v ∧ H = hq [bk0, [(o4, .cells [.i r.2.2])], a5_g] []) := by
  unfold PL.slices_medianCmpFunc_2int at h
  refine VCalls.of_body 41 [12] Tryd.func90 rfl rfl rfl (nle rfl) (VW.k6 0 1 2 3 4 5 rfl (VW.q (VO.a (v := .i 0) rfl (fun _ _ => rfl) (VO.n (VW.k6 0 1 2 3 4 5 rfl (VW.q (VO.m rfl rfl (VO.m rfl rfl (VO.m rfl rfl ?_)))))))))
  refine VO.m rfl rfl (VO.m rfl rfl ?_)
  obtain ⟨⟨rv_0, rv_1, k_2, k_3⟩, hx_4, h⟩ := obind h
  try dsimp only at h
  refine VO.w (fun v H' => ∃ bk0_5, Buf 2 (k_2.map Pr.c) v0 bk0_5 ∧ .tup [.i rv_0, .i rv_1] = v ∧ H' = hq ([bk0_5, [(o4, .cells [.i k_3])], a5_g]) []) (w_call_q (sa := [b0, [(o4, .cells [.i a4])], a5_g]) (sg := []) (tks := []) rfl fn95 rfl ⟨_, _, rfl, rfl, _, _, rfl, rfl, _, _, rfl, rfl, _, _, rfl, rfl, _, _, rfl, rfl, rfl⟩ (slices_order2CmpFunc_2int_ok _ _ _ _ _ _ hx_4 v0 b0 o4 a5_f a5_a a5_c a5_g hB0 a5_k a5_h) (by rintro v H' ⟨bk0_5, h_6, rfl, rfl⟩; exact ⟨[bk0_5, [(o4, .cells [.i k_3])], a5_g], rfl, bk0_5, h_6, rfl, rfl⟩)) rfl rfl ?_
  rintro _ _ ⟨bk0_5, hB_7, rfl, rfl⟩
  refine VO.m rfl rfl (VO.t (v := .i rv_0) (t_extract rfl rfl rfl) rfl rfl (VO.t (v := .i rv_1) (t_extract rfl rfl rfl) rfl rfl (VO.a (v := .i rv_0) rfl rfl (VO.a (v := .i rv_1) rfl rfl (VO.n (VW.k6 0 3 4 5 1 2 rfl (VW.q (VO.m rfl rfl (VO.m rfl rfl ?_)))))))))
  refine VO.m rfl rfl (VO.m rfl rfl (VO.m rfl rfl ?_))
  obtain ⟨⟨rv_8, rv_9, k_10, k_11⟩, hx_12, h⟩ := obind h
  try dsimp only at h
  refine VO.w (fun v H' => ∃ bk0_13, Buf 2 (k_10.map Pr.c) v0 bk0_13 ∧ .tup [.i rv_8, .i rv_9] = v ∧ H' = hq ([bk0_13, [(o4, .cells [.i k_11])], a5_g]) []) (w_call_q (sa := [bk0_5, [(o4, .cells [.i k_3])], a5_g]) (sg := []) (tks := []) rfl fn95 rfl ⟨_, _, rfl, rfl, _, _, rfl, rfl, _, _, rfl, rfl, _, _, rfl, rfl, _, _, rfl, rfl, rfl⟩ (slices_order2CmpFunc_2int_ok _ _ _ _ _ _ hx_12 v0 bk0_5 o4 a5_f a5_a a5_c a5_g hB_7 a5_k a5_h) (by rintro v H' ⟨bk0_13, h_6, rfl, rfl⟩; exact ⟨[bk0_13, [(o4, .cells [.i k_11])], a5_g], rfl, bk0_13, h_6, rfl, rfl⟩)) rfl rfl ?_
  rintro _ _ ⟨bk0_13, hB_14, rfl, rfl⟩
  refine VO.m rfl rfl (VO.t (v := .i rv_8) (t_extract rfl rfl rfl) rfl rfl (VO.t (v := .i rv_9) (t_extract rfl rfl rfl) rfl rfl (VO.a (v := .i rv_8) rfl rfl (VO.a (v := .i rv_9) rfl rfl (VO.n (VW.k5 0 4 5 1 2 rfl (VW.q (VO.m rfl rfl (VO.m rfl rfl ?_)))))))))
  refine VO.m rfl rfl (VO.m rfl rfl (VO.m rfl rfl ?_))
  obtain ⟨⟨rv_15, rv_16, k_17, k_18⟩, hx_19, h⟩ := obind h
  try dsimp only at h
  refine VO.w (fun v H' => ∃ bk0_20, Buf 2 (k_17.map Pr.c) v0 bk0_20 ∧ .tup [.i rv_15, .i rv_16] = v ∧ H' = hq ([bk0_20, [(o4, .cells [.i k_18])], a5_g]) []) (w_call_q (sa := [bk0_13, [(o4, .cells [.i k_11])], a5_g]) (sg := []) (tks := []) rfl fn95 rfl ⟨_, _, rfl, rfl, _, _, rfl, rfl, _, _, rfl, rfl, _, _, rfl, rfl, _, _, rfl, rfl, rfl⟩ (slices_order2CmpFunc_2int_ok _ _ _ _ _ _ hx_19 v0 bk0_13 o4 a5_f a5_a a5_c a5_g hB_14 a5_k a5_h) (by rintro v H' ⟨bk0_20, h_6, rfl, rfl⟩; exact ⟨[bk0_20, [(o4, .cells [.i k_18])], a5_g], rfl, bk0_20, h_6, rfl, rfl⟩)) rfl rfl ?_
  rintro _ _ ⟨bk0_20, hB_21, rfl, rfl⟩
  refine VO.m rfl rfl (VO.t (v := .i rv_15) (t_extract rfl rfl rfl) rfl rfl (VO.t (v := .i rv_16) (t_extract rfl rfl rfl) rfl rfl (VO.a (v := .i rv_15) rfl rfl (VO.a (v := .i rv_16) rfl rfl (VO.n (VW.k1 2 rfl (VW.q (VO.m rfl rfl (VO.a (v := .i rv_16) rfl rfl ?_)))))))))
  refine VO.n (VW.k1 12 rfl (VW.ret ?_))
  obtain rfl := oi h
  exact ⟨.inr rfl, rfl, _, .i rv_16, hq [bk0_20, [(o4, .cells [.i k_18])], a5_g] [], rfl, VLe.refl _, hq_sub (.cons_cons _ (.cons_cons _ (.cons_cons _ .slnil))) .slnil, bk0_20, hB_21, rfl, rfl⟩

theorem slices_medianAdjacentCmpFunc_2int_ok (a0 : List Pr) (a1 : Int) (a2 : Int) (a3 : Pr → Pr → Option Int) (r : Int × List Pr × Int) (h : PL.slices_medianAdjacentCmpFunc_2int a0 a1 a2 a3 = some r) (v0 : VV) (b0 : Seg) (o2 : Nat) (a3_f : Nat) (a3_a : List VV) (a3_c : List VV) (a3_g : Seg) (hB0 : Buf 2 (a0.map Pr.c) v0 b0) (a3_k : FnOK Tryd.prog a3_f) (a3_h : ∀ (y0 : Pr) (y1 : Pr) (z : Int), a3 y0 y1 = some z → VCalls Tryd.prog a3_f (a3_a ++ [.agg (Pr.c y0), .agg (Pr.c y1)] ++ a3_c) (hq [a3_g] []) (fun v H => .i z = v ∧ H = hq [a3_g] [])) :
    VCalls Tryd.prog 89 [v0, .i a1, .ptr o2 0, .func (.func a3_f) a3_a a3_c] (hq [b0, [(o2, .cells [.i a2])], a3_g] []) (fun v H => ∃ bk0, Buf 2 (r.2.1.map Pr.c) v0 bk0 ∧ .i r.1 = v ∧ H = hq [bk0, [(o2, .cells [.i r.2.2])], a3_g] []) := by
  unfold PL.slices_medianAdjacentCmpFunc_2int at h
  refine VCalls.of_body 18 [8] Tryd.func89 rfl rfl rfl (nle rfl) (VW.k4 0 1 2 3 rfl (VW.q (VO.a (v := .i 0) rfl (fun _ _ => rfl) (VO.n (VW.k4 0 1 2 3 rfl (VW.q (VO.m rfl rfl (VO.m rfl rfl (VO.t (v := .i (w64 (a1 - 1))) (t_sub rfl rfl (fun _ _ => rfl) rfl) rfl rfl ?_)))))))))
  refine VO.m rfl rfl (VO.m rfl rfl (VO.t (v := .i (w64 (a1 + 1))) (t_add rfl rfl (fun _ _ => rfl) rfl) rfl rfl (VO.m rfl rfl (VO.m rfl rfl ?_))))
  obtain ⟨⟨rv_0, k_1, k_2⟩, hx_3, h⟩ := obind h
  try dsimp only at h
  refine VO.w (fun v H' => ∃ bk0_4, Buf 2 (k_1.map Pr.c) v0 bk0_4 ∧ .i rv_0 = v ∧ H' = hq ([bk0_4, [(o2, .cells [.i k_2])], a3_g]) []) (w_call_q (sa := [b0, [(o2, .cells [.i a2])], a3_g]) (sg := []) (tks := []) rfl fn90 rfl ⟨_, _, rfl, rfl, _, _, rfl, rfl, _, _, rfl, rfl, _, _, rfl, rfl, _, _, rfl, rfl, _, _, rfl, rfl, rfl⟩ (slices_medianCmpFunc_2int_ok _ _ _ _ _ _ _ hx_3 v0 b0 o2 a3_f a3_a a3_c a3_g hB0 a3_k a3_h) (by rintro v H' ⟨bk0_4, h_5, rfl, rfl⟩; exact ⟨[bk0_4, [(o2, .cells [.i k_2])], a3_g], rfl, bk0_4, h_5, rfl, rfl⟩)) rfl rfl ?_
  rintro _ _ ⟨bk0_4, hB_6, rfl, rfl⟩
  refine VO.a (v := .i rv_0) rfl rfl (VO.n (VW.k1 8 rfl (VW.ret ?_)))
  obtain rfl := oi h
  exact ⟨.inr rfl, rfl, _, .i rv_0, hq [bk0_4, [(o2, .cells [.i k_2])], a3_g] [], rfl, VLe.refl _, hq_sub (.cons_cons _ (.cons_cons _ (.cons_cons _ .slnil))) .slnil, bk0_4, hB_6, rfl, rfl⟩

theorem slices_choosePivotCmpFunc_2int_ok (a0 : List Pr) (a1 : Int) (a2 : Int) (a3 : Pr → Pr → Option Int) (r : Int × Int × List Pr) (h : PL.slices_choosePivotCmpFunc_2int a0 a1 a2 a3 = some r) (v0 : VV) (b0 : Seg) (a3_f : Nat) (a3_a : List VV) (a3_c : List VV) (a3_g : Seg) (hB0 : Buf 2 (a0.map Pr.c) v0 b0) (a3_k : FnOK Tryd.prog a3_f) (a3_h : ∀ (y0 : Pr) (y1 : Pr) (z : Int), a3 y0 y1 = some z → VCalls Tryd.prog a3_f (a3_a ++ [.agg (Pr.c y0), .agg (Pr.c y1)] ++ a3_c) (hq [a3_g] []) (fun v H => .i z = v ∧ H = hq [a3_g] [])) :
    VCalls Tryd.prog 73 [v0, .i a1, .i a2, .func (.func a3_f) a3_a a3_c] (hq [b0, a3_g] []) (fun v H => ∃ bk0, Buf 2 (r.2.2.map Pr.c) v0 bk0 ∧ .tup [.i r.1, .i r.2.1] = v ∧ H = hq [bk0, a3_g] []) := by
  unfold PL.slices_choosePivotCmpFunc_2int at h
  refine VCalls.of_body 63 [8, 9] Tryd.func73 rfl rfl rfl (nle rfl) (VW.k4 0 1 2 3 rfl (VW.q (VO.a (v := .i 0) rfl (fun _ _ => rfl) (VO.a (v := .i 0) rfl (fun _ _ => rfl) (VO.n (VW.k4 0 1 2 3 rfl (VW.q (VO.m rfl rfl (VO.m rfl rfl ?_)))))))))
  refine VO.t (v := .i (w64 (a2 - a1))) (t_sub rfl rfl rfl rfl) rfl rfl (VO.a (v := .i (w64 (a2 - a1))) rfl rfl (VO.n (VW.k4 0 1 3 10 rfl (VW.q (VO.w (fun v H' => ∃ ob_0, .ptr ob_0 0 = v ∧ H' = hq ([[(ob_0, .cells [.i 0])], b0, a3_g]) []) (w_alloc_q rfl zt3 (fun ob => ⟨ob, rfl, rfl⟩)) rfl rfl ?_)))))
  rintro _ _ ⟨ob_0, rfl, rfl⟩
  refine VO.n (VW.q (VO.m rfl rfl (VO.m rfl rfl (VO.t (v := .i (w64 (Int.tdiv (w64 (a2 - a1)) 4))) (t_quo rfl rfl (fun _ _ => rfl) (by decide) rfl) rfl rfl (VO.t (v := .i (w64 ((w64 (Int.tdiv (w64 (a2 - a1)) 4)) * 1))) (t_mul rfl rfl (fun _ _ => rfl) rfl) rfl rfl (VO.t (v := .i (w64 (a1 + (w64 ((w64 (Int.tdiv (w64 (a2 - a1)) 4)) * 1))))) (t_add rfl rfl rfl rfl) rfl rfl (VO.a (v := .i (w64 (a1 + (w64 ((w64 (Int.tdiv (w64 (a2 - a1)) 4)) * 1))))) rfl rfl (VO.n (VW.k6 0 1 3 10 11 12 rfl ?_)))))))))
  refine VW.q (VO.m rfl rfl (VO.m rfl rfl (VO.t (v := .i (w64 (Int.tdiv (w64 (a2 - a1)) 4))) (t_quo rfl rfl (fun _ _ => rfl) (by decide) rfl) rfl rfl (VO.t (v := .i (w64 ((w64 (Int.tdiv (w64 (a2 - a1)) 4)) * 2))) (t_mul rfl rfl (fun _ _ => rfl) rfl) rfl rfl (VO.t (v := .i (w64 (a1 + (w64 ((w64 (Int.tdiv (w64 (a2 - a1)) 4)) * 2))))) (t_add rfl rfl rfl rfl) rfl rfl (VO.a (v := .i (w64 (a1 + (w64 ((w64 (Int.tdiv (w64 (a2 - a1)) 4)) * 2))))) rfl rfl (VO.n (VW.k7 0 1 3 10 11 12 13 rfl (VW.q ?_)))))))))
  refine VO.m rfl rfl (VO.m rfl rfl (VO.t (v := .i (w64 (Int.tdiv (w64 (a2 - a1)) 4))) (t_quo rfl rfl (fun _ _ => rfl) (by decide) rfl) rfl rfl (VO.t (v := .i (w64 ((w64 (Int.tdiv (w64 (a2 - a1)) 4)) * 3))) (t_mul rfl rfl (fun _ _ => rfl) rfl) rfl rfl (VO.t (v := .i (w64 (a1 + (w64 ((w64 (Int.tdiv (w64 (a2 - a1)) 4)) * 3))))) (t_add rfl rfl rfl rfl) rfl rfl (VO.a (v := .i (w64 (a1 + (w64 ((w64 (Int.tdiv (w64 (a2 - a1)) 4)) * 3))))) rfl rfl (VO.n (VW.k7 0 3 10 11 12 13 14 rfl (VW.seq (VW.q ?_)))))))))
  refine VO.m rfl rfl (VO.t (v := .bool (decide ((w64 (a2 - a1)) ≥ 8))) (t_cmp rfl rfl rfl (fun _ _ => rfl) rfl) rfl rfl (VO.n (VW.k8 0 3 10 11 12 13 14 34 rfl ?_)))
  obtain ⟨o_1, h, hx_2⟩ := obind h
  refine VW.joinQ (E := List Pr × Int × Int × Seg) (I := fun ⟨bu_3, c_4, j_5, bp0_6⟩ => (bu_3, c_4, j_5) = o_1 ∧ Buf 2 (bu_3.map Pr.c) v0 bp0_6 ∧ True) (env' := fun ⟨bu_3, c_4, j_5, bp0_6⟩ => ⟨[(11, .ptr ob_0 0), (13, .i j_5)], []⟩) (H' := fun ⟨bu_3, c_4, j_5, bp0_6⟩ => hq ([bp0_6, a3_g, [(ob_0, .cells [.i c_4])]]) []) ?_ (fun J_7 => ?_)
  · rintro ⟨bu_3, c_4, j_5, bp0_6⟩ ⟨ho_, hbp0_6, _⟩
    subst ho_
    replace h := hx_2
    clear hx_2
    try dsimp only at h
    show VW _ _ _ _ ⟨[(11, .ptr ob_0 0), (13, .i j_5)], []⟩ (hq ([bp0_6, a3_g, [(ob_0, .cells [.i c_4])]]) [])
    refine VW.q (VO.r (v := .i c_4) (r_load_q (i := 2) rfl sz3 rfl rfl rfl) rfl rfl (VO.n (VW.k2 13 55 rfl (VW.hsub (A := hq ([bp0_6, a3_g]) []) (hq_sub (.cons_cons _ (.cons_cons _ (.cons _ .slnil))) .slnil) (VW.block (VW.q (VO.t (v := .bool (c_4 == 0)) (t_cmp rfl rfl rfl (fun _ _ => rfl) rfl) rfl rfl (VO.a (v := .bool (c_4 == 0)) rfl rfl (VO.n ?_)))))))))
    refine VW.k3 13 55 57 rfl ?_
    refine VW.cond (b := (c_4 == 0)) rfl (fun hc_8 => ?_) (fun hc_8 => ?_)
    · replace h := iteT h hc_8
      refine VW.q (VO.m rfl rfl (VO.a (v := .i j_5) rfl rfl (VO.a (v := .i 1) rfl (fun _ _ => rfl) (VO.n (VW.k2 8 9 rfl (VW.ret (blockQ_ret ?_)))))))
      obtain rfl := oi h
      exact ⟨.inr rfl, rfl, _, .tup [.i j_5, .i 1], hq [bp0_6, a3_g] [], ⟨_, _, rfl, rfl, rfl⟩, VLe.tup ⟨VLe.refl _, VLe.refl _, trivial⟩, hq_sub (.cons_cons _ (.cons_cons _ .slnil)) .slnil, bp0_6, hbp0_6, rfl, rfl⟩
    · replace h := iteF h hc_8
      refine VW.q (VO.t (v := .bool (c_4 == 12)) (t_cmp rfl rfl rfl (fun _ _ => rfl) rfl) rfl rfl (VO.a (v := .bool (c_4 == 12)) rfl rfl (VO.n (VW.k2 13 60 rfl ?_))))
      refine VW.cond (b := (c_4 == 12)) rfl (fun hc_9 => ?_) (fun hc_9 => ?_)
      · replace h := iteT h hc_9
        refine VW.q (VO.m rfl rfl (VO.a (v := .i j_5) rfl rfl (VO.a (v := .i 2) rfl (fun _ _ => rfl) (VO.n (VW.k2 8 9 rfl (VW.ret (blockQ_ret ?_)))))))
        obtain rfl := oi h
        exact ⟨.inr rfl, rfl, _, .tup [.i j_5, .i 2], hq [bp0_6, a3_g] [], ⟨_, _, rfl, rfl, rfl⟩, VLe.tup ⟨VLe.refl _, VLe.refl _, trivial⟩, hq_sub (.cons_cons _ (.cons_cons _ .slnil)) .slnil, bp0_6, hbp0_6, rfl, rfl⟩
      · replace h := iteF h hc_9
        refine VW.q (VO.m rfl rfl (VO.a (v := .i j_5) rfl rfl (VO.a (v := .i 0) rfl (fun _ _ => rfl) (VO.n (VW.k2 8 9 rfl (VW.ret (blockQ_ret ?_)))))))
        obtain rfl := oi h
        exact ⟨.inr rfl, rfl, _, .tup [.i j_5, .i 0], hq [bp0_6, a3_g] [], ⟨_, _, rfl, rfl, rfl⟩, VLe.tup ⟨VLe.refl _, VLe.refl _, trivial⟩, hq_sub (.cons_cons _ (.cons_cons _ .slnil)) .slnil, bp0_6, hbp0_6, rfl, rfl⟩
  · refine VW.cond (b := (decide ((w64 (a2 - a1)) ≥ 8))) rfl (fun hc_10 => ?_) (fun hc_10 => ?_)
    · replace h := iteT h hc_10
      refine VW.seq (VW.q (VO.m rfl rfl (VO.t (v := .bool (decide ((w64 (a2 - a1)) ≥ 50))) (t_cmp rfl rfl rfl (fun _ _ => rfl) rfl) rfl rfl (VO.n (VW.k7 0 3 11 12 13 14 36 rfl ?_)))))
      obtain ⟨o_11, h, hx_12⟩ := obind h
      refine VW.joinQ (E := List Pr × Int × Int × Int × Int × Seg) (I := fun ⟨bu_13, c_14, i_15, j_16, k_17, bp0_18⟩ => (bu_13, c_14, i_15, j_16, k_17) = o_11 ∧ Buf 2 (bu_13.map Pr.c) v0 bp0_18 ∧ True) (env' := fun ⟨bu_13, c_14, i_15, j_16, k_17, bp0_18⟩ => ⟨[(0, v0), (3, .func (.func a3_f) a3_a a3_c), (11, .ptr ob_0 0), (12, .i i_15), (13, .i j_16), (14, .i k_17)], []⟩) (H' := fun ⟨bu_13, c_14, i_15, j_16, k_17, bp0_18⟩ => hq ([bp0_18, a3_g, [(ob_0, .cells [.i c_14])]]) []) ?_ (fun J_19 => ?_)
      · rintro ⟨bu_13, c_14, i_15, j_16, k_17, bp0_18⟩ ⟨ho_, hbp0_18, _⟩
        subst ho_
        replace h := hx_12
        clear hx_12
        try dsimp only at h
        show VW _ _ _ _ ⟨[(0, v0), (3, .func (.func a3_f) a3_a a3_c), (11, .ptr ob_0 0), (12, .i i_15), (13, .i j_16), (14, .i k_17)], []⟩ (hq ([bp0_18, a3_g, [(ob_0, .cells [.i c_14])]]) [])
        refine VW.region (VO.m rfl rfl (VO.m rfl rfl (VO.m rfl rfl (VO.m rfl rfl (VO.m rfl rfl (VO.frontS 1 rfl (VO.frontS 2 rfl (VO.frontS 2 rfl ?_))))))))
        obtain ⟨⟨rv_20, k_21, k_22⟩, hx_23, h⟩ := obind h
        try dsimp only at h
        refine VO.w (fun v H' => ∃ bk0_24, Buf 2 (k_21.map Pr.c) v0 bk0_24 ∧ .i rv_20 = v ∧ H' = hq ([bk0_24, [(ob_0, .cells [.i k_22])], a3_g]) []) (w_call_q (sa := [bp0_18, [(ob_0, .cells [.i c_14])], a3_g]) (sg := []) (tks := []) rfl fn90 rfl ⟨_, _, rfl, rfl, _, _, rfl, rfl, _, _, rfl, rfl, _, _, rfl, rfl, _, _, rfl, rfl, _, _, rfl, rfl, rfl⟩ (slices_medianCmpFunc_2int_ok _ _ _ _ _ _ _ hx_23 v0 bp0_18 ob_0 a3_f a3_a a3_c a3_g hbp0_18 a3_k a3_h) (by rintro v H' ⟨bk0_24, h_25, rfl, rfl⟩; exact ⟨[bk0_24, [(ob_0, .cells [.i k_22])], a3_g], rfl, bk0_24, h_25, rfl, rfl⟩)) rfl rfl ?_
        rintro _ _ ⟨bk0_24, hB_26, rfl, rfl⟩
        refine VO.a (v := .i rv_20) rfl rfl (VO.subK (.c 11 rfl (.c 13 rfl .n)) rfl (VO.frontS 1 rfl (VO.frontS 2 rfl (VO.frontS 2 rfl (VO.nil ?_)))))
        exact thenQ_normal (J_7 ⟨k_21, k_22, rv_20, bk0_24⟩ ⟨Option.some.inj h, hB_26, trivial⟩)
      · refine VW.cond (b := (decide ((w64 (a2 - a1)) ≥ 50))) rfl (fun hc_27 => ?_) (fun hc_27 => ?_)
        · replace h := iteT h hc_27
          refine VW.q (VO.m rfl rfl (VO.m rfl rfl (VO.m rfl rfl (VO.frontS 2 rfl (VO.frontS 1 rfl (VO.frontS 2 rfl ?_))))))
          obtain ⟨⟨rv_28, k_29, k_30⟩, hx_31, h⟩ := obind h
          try dsimp only at h
          refine VO.w (fun v H' => ∃ bk0_32, Buf 2 (k_29.map Pr.c) v0 bk0_32 ∧ .i rv_28 = v ∧ H' = hq ([bk0_32, [(ob_0, .cells [.i k_30])], a3_g]) []) (w_call_q (sa := [b0, [(ob_0, .cells [.i 0])], a3_g]) (sg := []) (tks := []) rfl fn89 rfl ⟨_, _, rfl, rfl, _, _, rfl, rfl, _, _, rfl, rfl, _, _, rfl, rfl, rfl⟩ (slices_medianAdjacentCmpFunc_2int_ok _ _ _ _ _ hx_31 v0 b0 ob_0 a3_f a3_a a3_c a3_g hB0 a3_k a3_h) (by rintro v H' ⟨bk0_32, h_25, rfl, rfl⟩; exact ⟨[bk0_32, [(ob_0, .cells [.i k_30])], a3_g], rfl, bk0_32, h_25, rfl, rfl⟩)) rfl rfl ?_
          rintro _ _ ⟨bk0_32, hB_33, rfl, rfl⟩
          refine VO.a (v := .i rv_28) rfl rfl (VO.n (VW.k6 0 3 11 13 14 12 rfl (VW.q (VO.m rfl rfl (VO.m rfl rfl (VO.m rfl rfl ?_))))))
          obtain ⟨⟨rv_34, k_35, k_36⟩, hx_37, h⟩ := obind h
          try dsimp only at h
          refine VO.w (fun v H' => ∃ bk0_38, Buf 2 (k_35.map Pr.c) v0 bk0_38 ∧ .i rv_34 = v ∧ H' = hq ([bk0_38, [(ob_0, .cells [.i k_36])], a3_g]) []) (w_call_q (sa := [bk0_32, [(ob_0, .cells [.i k_30])], a3_g]) (sg := []) (tks := []) rfl fn89 rfl ⟨_, _, rfl, rfl, _, _, rfl, rfl, _, _, rfl, rfl, _, _, rfl, rfl, rfl⟩ (slices_medianAdjacentCmpFunc_2int_ok _ _ _ _ _ hx_37 v0 bk0_32 ob_0 a3_f a3_a a3_c a3_g hB_33 a3_k a3_h) (by rintro v H' ⟨bk0_38, h_25, rfl, rfl⟩; exact ⟨[bk0_38, [(ob_0, .cells [.i k_36])], a3_g], rfl, bk0_38, h_25, rfl, rfl⟩)) rfl rfl ?_
          rintro _ _ ⟨bk0_38, hB_39, rfl, rfl⟩
          refine VO.a (v := .i rv_34) rfl rfl (VO.n (VW.k6 0 3 11 14 12 13 rfl (VW.region (VO.m rfl rfl (VO.m rfl rfl (VO.m rfl rfl ?_))))))
          obtain ⟨⟨rv_40, k_41, k_42⟩, hx_43, h⟩ := obind h
          try dsimp only at h
          refine VO.w (fun v H' => ∃ bk0_44, Buf 2 (k_41.map Pr.c) v0 bk0_44 ∧ .i rv_40 = v ∧ H' = hq ([bk0_44, [(ob_0, .cells [.i k_42])], a3_g]) []) (w_call_q (sa := [bk0_38, [(ob_0, .cells [.i k_36])], a3_g]) (sg := []) (tks := []) rfl fn89 rfl ⟨_, _, rfl, rfl, _, _, rfl, rfl, _, _, rfl, rfl, _, _, rfl, rfl, rfl⟩ (slices_medianAdjacentCmpFunc_2int_ok _ _ _ _ _ hx_43 v0 bk0_38 ob_0 a3_f a3_a a3_c a3_g hB_39 a3_k a3_h) (by rintro v H' ⟨bk0_44, h_25, rfl, rfl⟩; exact ⟨[bk0_44, [(ob_0, .cells [.i k_42])], a3_g], rfl, bk0_44, h_25, rfl, rfl⟩)) rfl rfl ?_
          rintro _ _ ⟨bk0_44, hB_45, rfl, rfl⟩
          refine VO.a (v := .i rv_40) rfl rfl (VO.subK (.c 0 rfl (.c 3 rfl (.c 11 rfl (.c 12 rfl (.c 13 rfl (.c 14 rfl .n)))))) rfl (VO.frontS 1 rfl (VO.frontS 2 rfl (VO.frontS 2 rfl (VO.nil ?_)))))
          exact thenQ_normal (J_19 ⟨k_41, k_42, rv_28, rv_34, rv_40, bk0_44⟩ ⟨Option.some.inj h, hB_45, trivial⟩)
        · replace h := iteF h hc_27
          refine VW.k6 0 3 11 12 13 14 rfl (VW.frontS 0 rfl (VW.frontS 2 rfl (VW.frontS 2 rfl (VW.skip ?_))))
          exact thenQ_normal (J_19 ⟨a0, 0, w64 (a1 + (w64 ((w64 (Int.tdiv (w64 (a2 - a1)) 4)) * 1))), w64 (a1 + (w64 ((w64 (Int.tdiv (w64 (a2 - a1)) 4)) * 2))), w64 (a1 + (w64 ((w64 (Int.tdiv (w64 (a2 - a1)) 4)) * 3))), b0⟩ ⟨Option.some.inj h, hB0, trivial⟩)
    · replace h := iteF h hc_10
      refine VW.k2 11 13 rfl (VW.frontS 0 rfl (VW.frontS 2 rfl (VW.frontS 2 rfl (VW.skip ?_))))
      exact thenQ_normal (J_7 ⟨a0, 0, w64 (a1 + (w64 ((w64 (Int.tdiv (w64 (a2 - a1)) 4)) * 2))), b0⟩ ⟨Option.some.inj h, hB0, trivial⟩)

theorem slices_reverseRangeCmpFunc_2int.l0_ok (a3 : Pr → Pr → Option Int) (a3_f : Nat) (a3_a a3_c : List VV) (a3_g : Seg) (a3_k : FnOK Tryd.prog a3_f) (a3_h : ∀ (y0 : Pr) (y1 : Pr) (z : Int), a3 y0 y1 = some z → VCalls Tryd.prog a3_f (a3_a ++ [.agg (Pr.c y0), .agg (Pr.c y1)] ++ a3_c) (hq [a3_g] []) (fun v H => .i z = v ∧ H = hq [a3_g] [])) {Q : Exit → Env → HH → Prop} :
    ∀ (bu_0 : List Pr) (i_1 : Int) (j_2 : Int) (o : (List Pr)), PL.slices_reverseRangeCmpFunc_2int.l0 a3 bu_0 i_1 j_2 = some o →
    ∀ (vp0_3 : VV) (bp0_3 : Seg) (hbp0_3 : Buf 2 (bu_0.map Pr.c) vp0_3 bp0_3) (hx0 : ∀ (bu_4 : List Pr) (bp0_5 : Seg), bu_4 = o → Buf 2 (bu_4.map Pr.c) vp0_3 bp0_5 → Q (.exit 0) ⟨[], []⟩ (hq ([bp0_5, a3_g]) [])), VW Tryd.prog 34 (codeAt [1, 1, 0, 0] (bodyOf Tryd.f74)) (thenQ (VL Tryd.prog 34 (codeAt [1, 1, 0, 0] (bodyOf Tryd.f74)) Q) Q) ⟨[(0, vp0_3), (8, .i i_1), (9, .i j_2)], []⟩ (hq ([bp0_3, a3_g]) []) := by
  refine PL.slices_reverseRangeCmpFunc_2int.l0.partial_correctness a3 (motive := fun bu_0 i_1 j_2 o => ∀ (vp0_3 : VV) (bp0_3 : Seg) (hbp0_3 : Buf 2 (bu_0.map Pr.c) vp0_3 bp0_3) (hx0 : ∀ (bu_4 : List Pr) (bp0_5 : Seg), bu_4 = o → Buf 2 (bu_4.map Pr.c) vp0_3 bp0_5 → Q (.exit 0) ⟨[], []⟩ (hq ([bp0_5, a3_g]) [])), VW Tryd.prog 34 (codeAt [1, 1, 0, 0] (bodyOf Tryd.f74)) (thenQ (VL Tryd.prog 34 (codeAt [1, 1, 0, 0] (bodyOf Tryd.f74)) Q) Q) ⟨[(0, vp0_3), (8, .i i_1), (9, .i j_2)], []⟩ (hq ([bp0_3, a3_g]) [])) ?_
  intro _ ih bu_0 i_1 j_2 o h vp0_3 bp0_3 hbp0_3 hx0
  refine VW.seq (VW.q (VO.m rfl rfl (VO.m rfl rfl (VO.t (v := .bool (decide (i_1 < j_2))) (t_cmp rfl rfl rfl rfl rfl) rfl rfl (VO.n (VW.k4 0 8 9 15 rfl ?_))))))
  refine VW.cond (b := (decide (i_1 < j_2))) rfl (fun hc_6 => ?_) (fun hc_6 => ?_)
  · replace h := iteT h hc_6
    refine VW.skip (thenQ_normal (VW.k3 0 8 9 rfl (VW.block (VW.seq (VW.draw 16 mix rfl (VA.t (i := 0) rfl (t_move rfl rfl) (.inl rfl) (by kernel_rfl) (VA.t (i := 1) rfl (t_move rfl rfl) (.inl rfl) (by kernel_rfl) (VA.t (i := 2) rfl (t_move rfl rfl) (.inl rfl) (by kernel_rfl) (VA.t (i := 3) rfl (t_move rfl rfl) (.inl rfl) (by kernel_rfl) ?_)))))))))
    refine VA.phase (g := 3) [4, 5, 6, 7, 8, 9, 10, 11, 12] 9 (VP.take (i := 4) rfl (TOp.r (t_move rfl rfl)) (.inl rfl) (by kernel_rfl) (VP.take (i := 5) rfl (TOp.r (t_move rfl rfl)) (.inl rfl) (by kernel_rfl) ?_))
    obtain ⟨c_7, hc_7, h⟩ := obind h
    obtain ⟨ob_8, cap_8, len_8, sl_8, rfl, rfl, hE_8, hl_8, hc_8, hs_8⟩ := buf_at hbp0_3 hc_7
    refine VP.take (i := 6) (v := .ptr ob_8 (j_2.toNat * 2 + 0)) rfl (TOp.r (t_index_own rfl sl31 rfl rfl (getI_some hc_7).1 (by rw [hl_8]; exact getI_lt hc_7) rfl)) (.inl rfl) (by kernel_rfl) (VP.take (i := 7) (v := .agg (Pr.c c_7)) rfl (r_load_buf (n := 2) (f := 0) (j := 0) rfl sz59 rfl rfl hE_8 (map_get (getI_some hc_7).2 (Pr.c_eq c_7)) (nle rfl) (fun _ => ofCells_agg rfl)) (.inl rfl) (by kernel_rfl) (VP.take (i := 8) rfl (TOp.r (t_move rfl rfl)) (.inl rfl) (by kernel_rfl) (VP.take (i := 9) rfl (TOp.r (t_move rfl rfl)) (.inl rfl) (by kernel_rfl) ?_)))
    obtain ⟨c_9, hc_9, h⟩ := obind h
    refine VP.take (i := 10) (v := .ptr ob_8 (i_1.toNat * 2 + 0)) rfl (TOp.r (t_index_own rfl sl31 rfl rfl (getI_some hc_9).1 (by rw [hl_8]; exact getI_lt hc_9) rfl)) (.inl rfl) (by kernel_rfl) (VP.take (i := 11) (v := .agg (Pr.c c_9)) rfl (r_load_buf (n := 2) (f := 0) (j := 0) rfl sz59 rfl rfl hE_8 (map_get (getI_some hc_9).2 (Pr.c_eq c_9)) (nle rfl) (fun _ => ofCells_agg rfl)) (.inl rfl) (by kernel_rfl) (VP.take (i := 12) (v := .ptr ob_8 (i_1.toNat * 2 + 0)) rfl (TOp.r (t_index_own rfl sl31 rfl rfl (getI_some hc_9).1 (by rw [hl_8]; exact getI_lt hc_9) rfl)) (.inl rfl) (by kernel_rfl) (VP.done (by kernel_rfl) (VA.w (i := 13) (fun v H' => .any = v ∧ H' = hq ([[(ob_8, .cells (((bu_0.set i_1.toNat c_7).map Pr.c).flatten ++ sl_8))], a3_g]) []) rfl (w_store_buf (n := 2) (f := 0) (j := 0) rfl sz59 rfl rfl rfl hE_8 (map_get (getI_some hc_9).2 (Pr.c_eq c_9)) rfl rfl (nle rfl) rfl (map_set (Pr.c_eq c_7)) ⟨rfl, rfl⟩) (.inl rfl) (by kernel_rfl) rfl ?_))))
    rintro _ _ ⟨rfl, rfl⟩
    have hl_10 : len_8 = (bu_0.set i_1.toNat c_7).length := by simp [hl_8]
    obtain ⟨c_11, hc_11, h⟩ := obind h
    refine VA.t (i := 14) (v := .ptr ob_8 (j_2.toNat * 2 + 0)) rfl (t_index_own rfl sl31 rfl rfl (getI_some hc_11).1 (by rw [hl_10]; exact getI_lt hc_11) rfl) (.inl rfl) (by kernel_rfl) (VA.w (i := 15) (fun v H' => .any = v ∧ H' = hq ([[(ob_8, .cells ((((bu_0.set i_1.toNat c_7).set j_2.toNat c_9).map Pr.c).flatten ++ sl_8))], a3_g]) []) rfl (w_store_buf (n := 2) (f := 0) (j := 0) rfl sz59 rfl rfl rfl (elemsOK_map Pr.c_ok _) (map_get (getI_some hc_11).2 (Pr.c_eq c_11)) rfl rfl (nle rfl) rfl (map_set (Pr.c_eq c_9)) ⟨rfl, rfl⟩) (.inl rfl) (by kernel_rfl) rfl ?_)
    rintro _ _ ⟨rfl, rfl⟩
    have hl_12 : len_8 = ((bu_0.set i_1.toNat c_7).set j_2.toNat c_9).length := by simp [hl_10]
    refine VA.done (by kernel_rfl) (thenQ_normal (VW.k3 0 8 9 rfl (VW.q (VO.m rfl rfl (VO.t (v := .i (w64 (i_1 + 1))) (t_add rfl rfl (fun _ _ => rfl) rfl) rfl rfl (VO.a (v := .i (w64 (i_1 + 1))) rfl rfl (VO.n (VW.k3 0 9 8 rfl (VW.region ?_)))))))))
    refine VO.m rfl rfl (VO.t (v := .i (w64 (j_2 - 1))) (t_sub rfl rfl (fun _ _ => rfl) rfl) rfl rfl (VO.a (v := .i (w64 (j_2 - 1))) rfl rfl (VO.nil (blockQ_normal (thenQ_normal (VL.round ?_))))))
    refine VW.k3 0 8 9 rfl ?_
    exact ih _ _ _ _ h (.own ob_8 cap_8 len_8) [(ob_8, .cells ((((bu_0.set i_1.toNat c_7).set j_2.toNat c_9).map Pr.c).flatten ++ sl_8))] (Buf.own (n := 2) (l := ((bu_0.set i_1.toNat c_7).set j_2.toNat c_9).map Pr.c) ob_8 cap_8 len_8 sl_8 (elemsOK_map Pr.c_ok _) (by simp [hl_12]) hc_8 hs_8) hx0
  · replace h := iteF h hc_6
    refine VW.subN (t' := []) trivial rfl (VW.exit (thenQ_exit (thenQ_exit ?_)))
    obtain rfl := oi h
    exact hx0 _ bp0_3 rfl hbp0_3

theorem slices_reverseRangeCmpFunc_2int_ok (a0 : List Pr) (a1 : Int) (a2 : Int) (a3 : Pr → Pr → Option Int) (r : List Pr) (h : PL.slices_reverseRangeCmpFunc_2int a0 a1 a2 a3 = some r) (v0 : VV) (b0 : Seg) (a3_f : Nat) (a3_a : List VV) (a3_c : List VV) (a3_g : Seg) (hB0 : Buf 2 (a0.map Pr.c) v0 b0) (a3_k : FnOK Tryd.prog a3_f) (a3_h : ∀ (y0 : Pr) (y1 : Pr) (z : Int), a3 y0 y1 = some z → VCalls Tryd.prog a3_f (a3_a ++ [.agg (Pr.c y0), .agg (Pr.c y1)] ++ a3_c) (hq [a3_g] []) (fun v H => .i z = v ∧ H = hq [a3_g] [])) :
    VCalls Tryd.prog 74 [v0, .i a1, .i a2, .func (.func a3_f) a3_a a3_c] (hq [b0, a3_g] []) (fun v H => ∃ bk0, Buf 2 (r.map Pr.c) v0 bk0 ∧ .tup [] = v ∧ H = hq [bk0, a3_g] []) := by
  unfold PL.slices_reverseRangeCmpFunc_2int at h
  refine VCalls.of_body 34 [] Tryd.func74 rfl rfl rfl (nle rfl) (VW.k3 0 1 2 rfl (VW.q (VO.m rfl rfl (VO.a (v := .i a1) rfl rfl (VO.n (VW.k3 0 2 8 rfl (VW.q (VO.m rfl rfl (VO.t (v := .i (w64 (a2 - 1))) (t_sub rfl rfl (fun _ _ => rfl) rfl) rfl rfl ?_)))))))))
  refine VO.a (v := .i (w64 (a2 - 1))) rfl rfl (VO.n (VW.k3 0 8 9 rfl (VW.block (VW.k3 0 8 9 rfl ?_))))
  obtain ⟨o_0, hx_1, h⟩ := obind h
  refine VW.loopL (slices_reverseRangeCmpFunc_2int.l0_ok a3 a3_f a3_a a3_c a3_g a3_k a3_h _ _ _ _ hx_1 v0 b0 hB0 ?_)
  · intro bu_2 bp0_3 ho_ hbp0_3
    subst ho_
    try dsimp only at h
    refine blockQ_hit ?_
    obtain rfl := oi h
    exact ⟨.inl rfl, rfl, _, .tup [], hq [bp0_3, a3_g] [], rfl, VLe.refl _, hq_sub (.cons_cons _ (.cons_cons _ .slnil)) .slnil, bp0_3, hbp0_3, rfl, rfl⟩

theorem slices_partialInsertionSortCmpFunc_2int.l1_ok (a3 : Pr → Pr → Option Int) (a1 : Int) (a2 : Int) (bu_0 : List Pr) (j_1 : Int) (a3_f : Nat) (a3_a a3_c : List VV) (a3_g : Seg) (a3_k : FnOK Tryd.prog a3_f) (a3_h : ∀ (y0 : Pr) (y1 : Pr) (z : Int), a3 y0 y1 = some z → VCalls Tryd.prog a3_f (a3_a ++ [.agg (Pr.c y0), .agg (Pr.c y1)] ++ a3_c) (hq [a3_g] []) (fun v H => .i z = v ∧ H = hq [a3_g] [])) {Q : Exit → Env → HH → Prop} :
    ∀ (i_2 : Int) (o : Int), PL.slices_partialInsertionSortCmpFunc_2int.l1 a3 a1 a2 bu_0 j_1 i_2 = some o →
    ∀ (vp0_3 : VV) (bp0_3 : Seg) (hbp0_3 : Buf 2 (bu_0.map Pr.c) vp0_3 bp0_3) (hx0 : ∀ (i_4 : Int) (bp0_5 : Seg), i_4 = o → Buf 2 (bu_0.map Pr.c) vp0_3 bp0_5 → Q (.exit 2) ⟨[(0, vp0_3), (1, .i a1), (2, .i a2), (3, .func (.func a3_f) a3_a a3_c), (9, .i i_4), (10, .i j_1)], []⟩ (hq ([a3_g, bp0_5]) [])), VW Tryd.prog 141 (codeAt [1, 1, 0, 1, 0, 0, 1, 0, 0, 0, 0, 0] (bodyOf Tryd.f75)) (thenQ (VL Tryd.prog 141 (codeAt [1, 1, 0, 1, 0, 0, 1, 0, 0, 0, 0, 0] (bodyOf Tryd.f75)) Q) Q) ⟨[(0, vp0_3), (1, .i a1), (2, .i a2), (3, .func (.func a3_f) a3_a a3_c), (9, .i i_2), (10, .i j_1)], []⟩ (hq ([bp0_3, a3_g]) []) := by
  refine PL.slices_partialInsertionSortCmpFunc_2int.l1.partial_correctness a3 a1 a2 bu_0 j_1 (motive := fun i_2 o => ∀ (vp0_3 : VV) (bp0_3 : Seg) (hbp0_3 : Buf 2 (bu_0.map Pr.c) vp0_3 bp0_3) (hx0 : ∀ (i_4 : Int) (bp0_5 : Seg), i_4 = o → Buf 2 (bu_0.map Pr.c) vp0_3 bp0_5 → Q (.exit 2) ⟨[(0, vp0_3), (1, .i a1), (2, .i a2), (3, .func (.func a3_f) a3_a a3_c), (9, .i i_4), (10, .i j_1)], []⟩ (hq ([a3_g, bp0_5]) [])), VW Tryd.prog 141 (codeAt [1, 1, 0, 1, 0, 0, 1, 0, 0, 0, 0, 0] (bodyOf Tryd.f75)) (thenQ (VL Tryd.prog 141 (codeAt [1, 1, 0, 1, 0, 0, 1, 0, 0, 0, 0, 0] (bodyOf Tryd.f75)) Q) Q) ⟨[(0, vp0_3), (1, .i a1), (2, .i a2), (3, .func (.func a3_f) a3_a a3_c), (9, .i i_2), (10, .i j_1)], []⟩ (hq ([bp0_3, a3_g]) [])) ?_
  intro _ ih i_2 o h vp0_3 bp0_3 hbp0_3 hx0
  refine VW.seq (VW.seq (VW.draw 18 mix rfl (VA.t (i := 0) rfl (t_move rfl rfl) (.inl rfl) (by kernel_rfl) (VA.t (i := 1) rfl (t_move rfl rfl) (.inl rfl) (by kernel_rfl) (VA.t (i := 2) (v := .bool (decide (i_2 < a2))) rfl (t_cmp rfl rfl rfl rfl rfl) (.inl rfl) (by kernel_rfl) (VA.t (i := 3) rfl (t_move rfl rfl) (.inl rfl) (by kernel_rfl) ?_))))))
  refine VA.caseB (d := 22) (b := (decide (i_2 < a2))) rfl (fun hc_6 => ?_) (fun hc_6 => ?_)
  · replace h := iteT h hc_6
    refine VA.phase (g := 4) [4, 5, 6, 7, 8, 9, 10, 11, 12, 13] 10 (VP.take (i := 4) rfl (TOp.r (t_move rfl rfl)) (.inr ⟨_, _, _, rfl, rfl, rfl⟩) (by kernel_rfl) (VP.take (i := 5) rfl (TOp.r (t_move rfl rfl)) (.inr ⟨_, _, _, rfl, rfl, rfl⟩) (by kernel_rfl) (VP.take (i := 6) rfl (TOp.r (t_move rfl rfl)) (.inr ⟨_, _, _, rfl, rfl, rfl⟩) (by kernel_rfl) ?_)))
    obtain ⟨c_7, hc_7, h⟩ := obind h
    obtain ⟨ob_8, cap_8, len_8, sl_8, rfl, rfl, hE_8, hl_8, hc_8, hs_8⟩ := buf_at hbp0_3 hc_7
    refine VP.take (i := 7) (v := .ptr ob_8 (i_2.toNat * 2 + 0)) rfl (TOp.r (t_index_own rfl sl31 rfl rfl (getI_some hc_7).1 (by rw [hl_8]; exact getI_lt hc_7) rfl)) (.inr ⟨_, _, _, rfl, rfl, rfl⟩) (by kernel_rfl) (VP.take (i := 8) (v := .agg (Pr.c c_7)) rfl (r_load_buf (n := 2) (f := 0) (j := 0) rfl sz59 rfl rfl hE_8 (map_get (getI_some hc_7).2 (Pr.c_eq c_7)) (nle rfl) (fun _ => ofCells_agg rfl)) (.inr ⟨_, _, _, rfl, rfl, rfl⟩) (by kernel_rfl) (VP.take (i := 9) rfl (TOp.r (t_move rfl rfl)) (.inr ⟨_, _, _, rfl, rfl, rfl⟩) (by kernel_rfl) (VP.take (i := 10) rfl (TOp.r (t_move rfl rfl)) (.inr ⟨_, _, _, rfl, rfl, rfl⟩) (by kernel_rfl) (VP.take (i := 11) (v := .i (w64 (i_2 - 1))) rfl (TOp.r (t_sub rfl rfl (fun _ _ => rfl) rfl)) (.inr ⟨_, _, _, rfl, rfl, rfl⟩) (by kernel_rfl) ?_))))
    obtain ⟨c_9, hc_9, h⟩ := obind h
    refine VP.take (i := 12) (v := .ptr ob_8 ((w64 (i_2 - 1)).toNat * 2 + 0)) rfl (TOp.r (t_index_own rfl sl31 rfl rfl (getI_some hc_9).1 (by rw [hl_8]; exact getI_lt hc_9) rfl)) (.inr ⟨_, _, _, rfl, rfl, rfl⟩) (by kernel_rfl) (VP.take (i := 13) (v := .agg (Pr.c c_9)) rfl (r_load_buf (n := 2) (f := 0) (j := 0) rfl sz59 rfl rfl hE_8 (map_get (getI_some hc_9).2 (Pr.c_eq c_9)) (nle rfl) (fun _ => ofCells_agg rfl)) (.inr ⟨_, _, _, rfl, rfl, rfl⟩) (by kernel_rfl) (VP.done (by kernel_rfl) (VA.frontS 1 rfl ?_)))
    obtain ⟨rv_10, hx_11, h⟩ := obind h
    refine VA.w (i := 14) (fun v H' => .i rv_10 = v ∧ H' = hq ([a3_g, [(ob_8, .cells ((bu_0.map Pr.c).flatten ++ sl_8))]]) []) rfl (w_call_q (sa := [a3_g]) (sg := [[(ob_8, .cells ((bu_0.map Pr.c).flatten ++ sl_8))]]) (tks := []) rfl a3_k rfl ⟨_, _, rfl, rfl, _, _, rfl, rfl, rfl⟩ (a3_h _ _ _ hx_11) (by rintro v H' ⟨rfl, rfl⟩; exact ⟨[a3_g], rfl, rfl, rfl⟩)) (.inr ⟨_, _, _, rfl, rfl, rfl⟩) (by kernel_rfl) rfl ?_
    rintro _ _ ⟨rfl, rfl⟩
    refine VA.t (i := 15) (v := .bool (decide (rv_10 < 0))) rfl (t_cmp rfl rfl rfl (fun _ _ => rfl) rfl) (.inr ⟨_, _, _, rfl, rfl, rfl⟩) (by kernel_rfl) (VA.t (i := 16) (v := .bool (!(decide (rv_10 < 0)))) rfl (t_not rfl rfl rfl) (.inr ⟨_, _, _, rfl, rfl, rfl⟩) (by kernel_rfl) (VA.t (i := 17) (v := .bool (!(decide (rv_10 < 0)))) rfl (t_pick (b := true) rfl rfl (fun _ => rfl) (fun h => by cases h)) (.inl rfl) (by kernel_rfl) (VA.done (by kernel_rfl) (thenQ_normal (VW.subK (.c 0 rfl (.c 1 rfl (.c 2 rfl (.c 3 rfl (.c 9 rfl (.c 10 rfl (.c 23 rfl (.c 24 rfl (.c 25 rfl (.c 26 rfl (.c 27 rfl (.c 28 rfl (.c 29 rfl (.c 30 rfl (.c 31 rfl (.c 32 rfl (.c 33 rfl (.c 34 rfl (.c 35 rfl (.c 36 rfl .n)))))))))))))))))))) rfl ?_)))))
    refine VW.cond (b := (!(decide (rv_10 < 0)))) rfl (fun hc_12 => ?_) (fun hc_12 => ?_)
    · replace h := iteT h hc_12
      refine VW.skip (thenQ_normal (VW.subK (.c 0 rfl (.c 1 rfl (.c 2 rfl (.c 3 rfl (.c 9 rfl (.c 10 rfl (.c 23 rfl (.c 24 rfl (.c 25 rfl (.c 26 rfl (.c 27 rfl (.c 28 rfl (.c 29 rfl (.c 30 rfl (.c 31 rfl (.c 32 rfl (.c 33 rfl (.c 34 rfl (.c 35 rfl .n))))))))))))))))))) rfl (VW.block (VW.region (VO.m rfl rfl (VO.t (v := .i (w64 (i_2 + 1))) (t_add rfl rfl (fun _ _ => rfl) rfl) rfl rfl (VO.a (v := .i (w64 (i_2 + 1))) rfl rfl (VO.nil (blockQ_normal ?_)))))))))
      refine thenQ_normal (VL.round ?_)
      refine VW.k6 0 1 2 3 9 10 rfl (VW.frontS 0 rfl (VW.frontS 1 rfl ?_))
      exact ih _ _ h (.own ob_8 cap_8 len_8) [(ob_8, .cells ((bu_0.map Pr.c).flatten ++ sl_8))] (Buf.own (n := 2) (l := bu_0.map Pr.c) ob_8 cap_8 len_8 sl_8 (elemsOK_map Pr.c_ok _) (by simp [hl_8]) hc_8 hs_8) hx0
    · replace h := iteF h hc_12
      refine VW.k6 0 1 2 3 9 10 rfl (VW.exit (thenQ_exit (thenQ_exit ?_)))
      obtain rfl := oi h
      exact hx0 _ [(ob_8, .cells ((bu_0.map Pr.c).flatten ++ sl_8))] rfl (Buf.own (n := 2) (l := bu_0.map Pr.c) ob_8 cap_8 len_8 sl_8 (elemsOK_map Pr.c_ok _) (by simp [hl_8]) hc_8 hs_8)
  · replace h := iteF h hc_6
    refine VA.s 4 rfl (by kernel_rfl) (VA.s 5 rfl (by kernel_rfl) (VA.s 6 rfl (by kernel_rfl) (VA.s 7 rfl (by kernel_rfl) (VA.s 8 rfl (by kernel_rfl) (VA.s 9 rfl (by kernel_rfl) (VA.s 10 rfl (by kernel_rfl) (VA.s 11 rfl (by kernel_rfl) (VA.s 12 rfl (by kernel_rfl) (VA.s 13 rfl (by kernel_rfl) ?_)))))))))
    refine VA.s 14 rfl (by kernel_rfl) (VA.s 15 rfl (by kernel_rfl) (VA.s 16 rfl (by kernel_rfl) (VA.t (i := 17) (v := .bool false) rfl (t_pick (b := false) rfl rfl (fun h => by cases h) (fun _ => (fun _ _ => rfl))) (.inl rfl) (by kernel_rfl) (VA.done (by kernel_rfl) (thenQ_normal (VW.subK (.c 0 rfl (.c 1 rfl (.c 2 rfl (.c 3 rfl (.c 9 rfl (.c 10 rfl (.c 23 rfl (.c 24 rfl (.c 25 rfl (.c 26 rfl (.c 27 rfl (.c 28 rfl (.c 29 rfl (.c 30 rfl (.c 31 rfl (.c 32 rfl (.c 33 rfl (.c 34 rfl (.c 35 rfl (.c 36 rfl .n)))))))))))))))))))) rfl (VW.condF rfl (VW.k6 0 1 2 3 9 10 rfl (VW.frontS 0 rfl ?_)))))))))
    refine VW.frontS 1 rfl (VW.exit (thenQ_exit (thenQ_exit ?_)))
    obtain rfl := oi h
    exact hx0 _ bp0_3 rfl hbp0_3

theorem slices_partialInsertionSortCmpFunc_2int.l2_ok (a3 : Pr → Pr → Option Int) (a1 : Int) (a2 : Int) (i_0 : Int) (j_1 : Int) (a3_f : Nat) (a3_a a3_c : List VV) (a3_g : Seg) (a3_k : FnOK Tryd.prog a3_f) (a3_h : ∀ (y0 : Pr) (y1 : Pr) (z : Int), a3 y0 y1 = some z → VCalls Tryd.prog a3_f (a3_a ++ [.agg (Pr.c y0), .agg (Pr.c y1)] ++ a3_c) (hq [a3_g] []) (fun v H => .i z = v ∧ H = hq [a3_g] [])) {Q : Exit → Env → HH → Prop} :
    ∀ (bu_2 : List Pr) (j_3 : Int) (o : (List Pr)), PL.slices_partialInsertionSortCmpFunc_2int.l2 a3 a1 a2 i_0 j_1 bu_2 j_3 = some o →
    ∀ (vp0_4 : VV) (bp0_4 : Seg) (hbp0_4 : Buf 2 (bu_2.map Pr.c) vp0_4 bp0_4) (hx0 : ∀ (bu_5 : List Pr) (bp0_6 : Seg), bu_5 = o → Buf 2 (bu_5.map Pr.c) vp0_4 bp0_6 → Q (.exit 6) ⟨[(0, vp0_4), (1, .i a1), (2, .i a2), (3, .func (.func a3_f) a3_a a3_c), (9, .i i_0), (10, .i j_1)], []⟩ (hq ([a3_g, bp0_6]) [])), VW Tryd.prog 141 (codeAt [1, 1, 0, 1, 0, 0, 1, 0, 0, 1, 1, 1, 1, 1, 1, 0, 1, 0, 0] (bodyOf Tryd.f75)) (thenQ (VL Tryd.prog 141 (codeAt [1, 1, 0, 1, 0, 0, 1, 0, 0, 1, 1, 1, 1, 1, 1, 0, 1, 0, 0] (bodyOf Tryd.f75)) Q) Q) ⟨[(0, vp0_4), (1, .i a1), (2, .i a2), (3, .func (.func a3_f) a3_a a3_c), (9, .i i_0), (10, .i j_1), (12, .i j_3)], []⟩ (hq ([a3_g, bp0_4]) []) := by
  refine PL.slices_partialInsertionSortCmpFunc_2int.l2.partial_correctness a3 a1 a2 i_0 j_1 (motive := fun bu_2 j_3 o => ∀ (vp0_4 : VV) (bp0_4 : Seg) (hbp0_4 : Buf 2 (bu_2.map Pr.c) vp0_4 bp0_4) (hx0 : ∀ (bu_5 : List Pr) (bp0_6 : Seg), bu_5 = o → Buf 2 (bu_5.map Pr.c) vp0_4 bp0_6 → Q (.exit 6) ⟨[(0, vp0_4), (1, .i a1), (2, .i a2), (3, .func (.func a3_f) a3_a a3_c), (9, .i i_0), (10, .i j_1)], []⟩ (hq ([a3_g, bp0_6]) [])), VW Tryd.prog 141 (codeAt [1, 1, 0, 1, 0, 0, 1, 0, 0, 1, 1, 1, 1, 1, 1, 0, 1, 0, 0] (bodyOf Tryd.f75)) (thenQ (VL Tryd.prog 141 (codeAt [1, 1, 0, 1, 0, 0, 1, 0, 0, 1, 1, 1, 1, 1, 1, 0, 1, 0, 0] (bodyOf Tryd.f75)) Q) Q) ⟨[(0, vp0_4), (1, .i a1), (2, .i a2), (3, .func (.func a3_f) a3_a a3_c), (9, .i i_0), (10, .i j_1), (12, .i j_3)], []⟩ (hq ([a3_g, bp0_4]) [])) ?_
  intro _ ih bu_2 j_3 o h vp0_4 bp0_4 hbp0_4 hx0
  refine VW.seq (VW.q (VO.m rfl rfl (VO.m rfl rfl (VO.t (v := .bool (decide (j_3 < a2))) (t_cmp rfl rfl rfl rfl rfl) rfl rfl (VO.n (VW.k8 0 1 2 3 9 10 12 109 rfl ?_))))))
  refine VW.cond (b := (decide (j_3 < a2))) rfl (fun hc_7 => ?_) (fun hc_7 => ?_)
  · replace h := iteT h hc_7
    refine VW.skip (thenQ_normal (VW.k7 0 1 2 3 9 10 12 rfl (VW.seq (VW.block (VW.seq (VW.seq (VW.draw 13 mix rfl (VA.phase (g := 3) [0, 1, 2, 3, 4, 5, 6, 7, 8, 9] 10 (VP.take (i := 0) rfl (TOp.r (t_move rfl rfl)) (.inl rfl) (by kernel_rfl) ?_)))))))))
    refine VP.take (i := 1) rfl (TOp.r (t_move rfl rfl)) (.inl rfl) (by kernel_rfl) (VP.take (i := 2) rfl (TOp.r (t_move rfl rfl)) (.inl rfl) (by kernel_rfl) ?_)
    obtain ⟨c_8, hc_8, h⟩ := obind h
    obtain ⟨ob_9, cap_9, len_9, sl_9, rfl, rfl, hE_9, hl_9, hc_9, hs_9⟩ := buf_at hbp0_4 hc_8
    refine VP.take (i := 3) (v := .ptr ob_9 (j_3.toNat * 2 + 0)) rfl (TOp.r (t_index_own rfl sl31 rfl rfl (getI_some hc_8).1 (by rw [hl_9]; exact getI_lt hc_8) rfl)) (.inl rfl) (by kernel_rfl) (VP.take (i := 4) (v := .agg (Pr.c c_8)) rfl (r_load_buf (n := 2) (f := 0) (j := 1) rfl sz59 rfl rfl hE_9 (map_get (getI_some hc_8).2 (Pr.c_eq c_8)) (nle rfl) (fun _ => ofCells_agg rfl)) (.inl rfl) (by kernel_rfl) (VP.take (i := 5) rfl (TOp.r (t_move rfl rfl)) (.inl rfl) (by kernel_rfl) (VP.take (i := 6) rfl (TOp.r (t_move rfl rfl)) (.inl rfl) (by kernel_rfl) (VP.take (i := 7) (v := .i (w64 (j_3 - 1))) rfl (TOp.r (t_sub rfl rfl (fun _ _ => rfl) rfl)) (.inl rfl) (by kernel_rfl) ?_))))
    obtain ⟨c_10, hc_10, h⟩ := obind h
    refine VP.take (i := 8) (v := .ptr ob_9 ((w64 (j_3 - 1)).toNat * 2 + 0)) rfl (TOp.r (t_index_own rfl sl31 rfl rfl (getI_some hc_10).1 (by rw [hl_9]; exact getI_lt hc_10) rfl)) (.inl rfl) (by kernel_rfl) (VP.take (i := 9) (v := .agg (Pr.c c_10)) rfl (r_load_buf (n := 2) (f := 0) (j := 1) rfl sz59 rfl rfl hE_9 (map_get (getI_some hc_10).2 (Pr.c_eq c_10)) (nle rfl) (fun _ => ofCells_agg rfl)) (.inl rfl) (by kernel_rfl) (VP.done (by kernel_rfl) ?_))
    obtain ⟨rv_11, hx_12, h⟩ := obind h
    refine VA.w (i := 10) (fun v H' => .i rv_11 = v ∧ H' = hq ([a3_g, [(ob_9, .cells ((bu_2.map Pr.c).flatten ++ sl_9))]]) []) rfl (w_call_q (sa := [a3_g]) (sg := [[(ob_9, .cells ((bu_2.map Pr.c).flatten ++ sl_9))]]) (tks := []) rfl a3_k rfl ⟨_, _, rfl, rfl, _, _, rfl, rfl, rfl⟩ (a3_h _ _ _ hx_12) (by rintro v H' ⟨rfl, rfl⟩; exact ⟨[a3_g], rfl, rfl, rfl⟩)) (.inl rfl) (by kernel_rfl) rfl ?_
    rintro _ _ ⟨rfl, rfl⟩
    refine VA.t (i := 11) (v := .bool (decide (rv_11 < 0))) rfl (t_cmp rfl rfl rfl (fun _ _ => rfl) rfl) (.inl rfl) (by kernel_rfl) (VA.t (i := 12) (v := .bool (!(decide (rv_11 < 0)))) rfl (t_not rfl rfl rfl) (.inl rfl) (by kernel_rfl) (VA.done (by kernel_rfl) (thenQ_normal (VW.k8 0 1 2 3 9 10 12 124 rfl ?_))))
    refine VW.cond (b := (!(decide (rv_11 < 0)))) rfl (fun hc_13 => ?_) (fun hc_13 => ?_)
    · replace h := iteT h hc_13
      refine VW.k6 0 1 2 3 9 10 rfl (VW.exit (thenQ_exit (blockQ_miss rfl (thenQ_exit (thenQ_exit ?_)))))
      obtain rfl := oi h
      exact hx0 _ [(ob_9, .cells ((bu_2.map Pr.c).flatten ++ sl_9))] rfl (Buf.own (n := 2) (l := bu_2.map Pr.c) ob_9 cap_9 len_9 sl_9 (elemsOK_map Pr.c_ok _) (by simp [hl_9]) hc_9 hs_9)
    · replace h := iteF h hc_13
      refine VW.skip (thenQ_normal (VW.k7 0 1 2 3 9 10 12 rfl (VW.draw 18 mix rfl (VA.t (i := 0) rfl (t_move rfl rfl) (.inl rfl) (by kernel_rfl) (VA.t (i := 1) rfl (t_move rfl rfl) (.inl rfl) (by kernel_rfl) (VA.t (i := 2) rfl (t_move rfl rfl) (.inl rfl) (by kernel_rfl) (VA.t (i := 3) rfl (t_move rfl rfl) (.inl rfl) (by kernel_rfl) (VA.t (i := 4) (v := .i (w64 (j_3 - 1))) rfl (t_sub rfl rfl (fun _ _ => rfl) rfl) (.inl rfl) (by kernel_rfl) (VA.phase (g := 3) [5, 6, 7, 8, 9, 10, 11, 12, 13, 14] 10 ?_)))))))))
      refine VP.take (i := 5) rfl (TOp.r (t_move rfl rfl)) (.inl rfl) (by kernel_rfl) (VP.take (i := 6) rfl (TOp.r (t_move rfl rfl)) (.inl rfl) (by kernel_rfl) (VP.take (i := 7) (v := .i (w64 (j_3 - 1))) rfl (TOp.r (t_sub rfl rfl (fun _ _ => rfl) rfl)) (.inl rfl) (by kernel_rfl) (VP.take (i := 8) (v := .ptr ob_9 ((w64 (j_3 - 1)).toNat * 2 + 0)) rfl (TOp.r (t_index_own rfl sl31 rfl rfl (getI_some hc_10).1 (by rw [hl_9]; exact getI_lt hc_10) rfl)) (.inl rfl) (by kernel_rfl) (VP.take (i := 9) (v := .agg (Pr.c c_10)) rfl (r_load_buf (n := 2) (f := 0) (j := 1) rfl sz59 rfl rfl hE_9 (map_get (getI_some hc_10).2 (Pr.c_eq c_10)) (nle rfl) (fun _ => ofCells_agg rfl)) (.inl rfl) (by kernel_rfl) (VP.take (i := 10) rfl (TOp.r (t_move rfl rfl)) (.inl rfl) (by kernel_rfl) (VP.take (i := 11) rfl (TOp.r (t_move rfl rfl)) (.inl rfl) (by kernel_rfl) (VP.take (i := 12) (v := .ptr ob_9 (j_3.toNat * 2 + 0)) rfl (TOp.r (t_index_own rfl sl31 rfl rfl (getI_some hc_8).1 (by rw [hl_9]; exact getI_lt hc_8) rfl)) (.inl rfl) (by kernel_rfl) (VP.take (i := 13) (v := .agg (Pr.c c_8)) rfl (r_load_buf (n := 2) (f := 0) (j := 1) rfl sz59 rfl rfl hE_9 (map_get (getI_some hc_8).2 (Pr.c_eq c_8)) (nle rfl) (fun _ => ofCells_agg rfl)) (.inl rfl) (by kernel_rfl) (VP.take (i := 14) (v := .ptr ob_9 (j_3.toNat * 2 + 0)) rfl (TOp.r (t_index_own rfl sl31 rfl rfl (getI_some hc_8).1 (by rw [hl_9]; exact getI_lt hc_8) rfl)) (.inl rfl) (by kernel_rfl) ?_)))))))))
      refine VP.done (by kernel_rfl) (VA.w (i := 15) (fun v H' => .any = v ∧ H' = hq ([a3_g, [(ob_9, .cells (((bu_2.set j_3.toNat c_10).map Pr.c).flatten ++ sl_9))]]) []) rfl (w_store_buf (n := 2) (f := 0) (j := 1) rfl sz59 rfl rfl rfl hE_9 (map_get (getI_some hc_8).2 (Pr.c_eq c_8)) rfl rfl (nle rfl) rfl (map_set (Pr.c_eq c_10)) ⟨rfl, rfl⟩) (.inl rfl) (by kernel_rfl) rfl ?_)
      rintro _ _ ⟨rfl, rfl⟩
      have hl_14 : len_9 = (bu_2.set j_3.toNat c_10).length := by simp [hl_9]
      obtain ⟨c_15, hc_15, h⟩ := obind h
      refine VA.t (i := 16) (v := .ptr ob_9 ((w64 (j_3 - 1)).toNat * 2 + 0)) rfl (t_index_own rfl sl31 rfl rfl (getI_some hc_15).1 (by rw [hl_14]; exact getI_lt hc_15) rfl) (.inl rfl) (by kernel_rfl) (VA.w (i := 17) (fun v H' => .any = v ∧ H' = hq ([a3_g, [(ob_9, .cells ((((bu_2.set j_3.toNat c_10).set (w64 (j_3 - 1)).toNat c_8).map Pr.c).flatten ++ sl_9))]]) []) rfl (w_store_buf (n := 2) (f := 0) (j := 1) rfl sz59 rfl rfl rfl (elemsOK_map Pr.c_ok _) (map_get (getI_some hc_15).2 (Pr.c_eq c_15)) rfl rfl (nle rfl) rfl (map_set (Pr.c_eq c_8)) ⟨rfl, rfl⟩) (.inl rfl) (by kernel_rfl) rfl ?_)
      rintro _ _ ⟨rfl, rfl⟩
      have hl_16 : len_9 = ((bu_2.set j_3.toNat c_10).set (w64 (j_3 - 1)).toNat c_8).length := by simp [hl_14]
      refine VA.done (by kernel_rfl) (blockQ_normal (thenQ_normal (VW.k7 0 1 2 3 9 10 12 rfl (VW.region (VO.m rfl rfl (VO.t (v := .i (w64 (j_3 + 1))) (t_add rfl rfl (fun _ _ => rfl) rfl) rfl rfl (VO.a (v := .i (w64 (j_3 + 1))) rfl rfl (VO.nil (thenQ_normal (VL.round ?_))))))))))
      refine VW.k7 0 1 2 3 9 10 12 rfl ?_
      exact ih _ _ _ h (.own ob_9 cap_9 len_9) [(ob_9, .cells ((((bu_2.set j_3.toNat c_10).set (w64 (j_3 - 1)).toNat c_8).map Pr.c).flatten ++ sl_9))] (Buf.own (n := 2) (l := ((bu_2.set j_3.toNat c_10).set (w64 (j_3 - 1)).toNat c_8).map Pr.c) ob_9 cap_9 len_9 sl_9 (elemsOK_map Pr.c_ok _) (by simp [hl_16]) hc_9 hs_9) hx0
  · replace h := iteF h hc_7
    refine VW.k6 0 1 2 3 9 10 rfl (VW.exit (thenQ_exit (thenQ_exit ?_)))
    obtain rfl := oi h
    exact hx0 _ bp0_4 rfl hbp0_4

theorem slices_partialInsertionSortCmpFunc_2int.l3_ok (a3 : Pr → Pr → Option Int) (a1 : Int) (a2 : Int) (i_0 : Int) (j_1 : Int) (a3_f : Nat) (a3_a a3_c : List VV) (a3_g : Seg) (a3_k : FnOK Tryd.prog a3_f) (a3_h : ∀ (y0 : Pr) (y1 : Pr) (z : Int), a3 y0 y1 = some z → VCalls Tryd.prog a3_f (a3_a ++ [.agg (Pr.c y0), .agg (Pr.c y1)] ++ a3_c) (hq [a3_g] []) (fun v H => .i z = v ∧ H = hq [a3_g] [])) {Q : Exit → Env → HH → Prop} :
    ∀ (bu_2 : List Pr) (j_3 : Int) (o : (List Pr)), PL.slices_partialInsertionSortCmpFunc_2int.l3 a3 a1 a2 i_0 j_1 bu_2 j_3 = some o →
    ∀ (vp0_4 : VV) (bp0_4 : Seg) (hbp0_4 : Buf 2 (bu_2.map Pr.c) vp0_4 bp0_4) (hx0 : ∀ (bu_5 : List Pr) (bp0_6 : Seg), bu_5 = o → Buf 2 (bu_5.map Pr.c) vp0_4 bp0_6 → Q (.exit 4) ⟨[(0, vp0_4), (1, .i a1), (2, .i a2), (3, .func (.func a3_f) a3_a a3_c), (9, .i i_0), (10, .i j_1)], []⟩ (hq ([a3_g, bp0_6]) [])), VW Tryd.prog 141 (codeAt [1, 1, 0, 1, 0, 0, 1, 0, 0, 1, 1, 1, 1, 0, 1, 0, 1, 0, 0] (bodyOf Tryd.f75)) (thenQ (VL Tryd.prog 141 (codeAt [1, 1, 0, 1, 0, 0, 1, 0, 0, 1, 1, 1, 1, 0, 1, 0, 1, 0, 0] (bodyOf Tryd.f75)) Q) Q) ⟨[(0, vp0_4), (1, .i a1), (2, .i a2), (3, .func (.func a3_f) a3_a a3_c), (9, .i i_0), (10, .i j_1), (11, .i j_3)], []⟩ (hq ([a3_g, bp0_4]) []) := by
  refine PL.slices_partialInsertionSortCmpFunc_2int.l3.partial_correctness a3 a1 a2 i_0 j_1 (motive := fun bu_2 j_3 o => ∀ (vp0_4 : VV) (bp0_4 : Seg) (hbp0_4 : Buf 2 (bu_2.map Pr.c) vp0_4 bp0_4) (hx0 : ∀ (bu_5 : List Pr) (bp0_6 : Seg), bu_5 = o → Buf 2 (bu_5.map Pr.c) vp0_4 bp0_6 → Q (.exit 4) ⟨[(0, vp0_4), (1, .i a1), (2, .i a2), (3, .func (.func a3_f) a3_a a3_c), (9, .i i_0), (10, .i j_1)], []⟩ (hq ([a3_g, bp0_6]) [])), VW Tryd.prog 141 (codeAt [1, 1, 0, 1, 0, 0, 1, 0, 0, 1, 1, 1, 1, 0, 1, 0, 1, 0, 0] (bodyOf Tryd.f75)) (thenQ (VL Tryd.prog 141 (codeAt [1, 1, 0, 1, 0, 0, 1, 0, 0, 1, 1, 1, 1, 0, 1, 0, 1, 0, 0] (bodyOf Tryd.f75)) Q) Q) ⟨[(0, vp0_4), (1, .i a1), (2, .i a2), (3, .func (.func a3_f) a3_a a3_c), (9, .i i_0), (10, .i j_1), (11, .i j_3)], []⟩ (hq ([a3_g, bp0_4]) [])) ?_
  intro _ ih bu_2 j_3 o h vp0_4 bp0_4 hbp0_4 hx0
  refine VW.seq (VW.q (VO.m rfl rfl (VO.t (v := .bool (decide (j_3 ≥ 1))) (t_cmp rfl rfl rfl (fun _ _ => rfl) rfl) rfl rfl (VO.n (VW.k8 0 1 2 3 9 10 11 69 rfl ?_)))))
  refine VW.cond (b := (decide (j_3 ≥ 1))) rfl (fun hc_7 => ?_) (fun hc_7 => ?_)
  · replace h := iteT h hc_7
    refine VW.skip (thenQ_normal (VW.k7 0 1 2 3 9 10 11 rfl (VW.seq (VW.block (VW.seq (VW.seq (VW.draw 13 mix rfl (VA.phase (g := 3) [0, 1, 2, 3, 4, 5, 6, 7, 8, 9] 10 (VP.take (i := 0) rfl (TOp.r (t_move rfl rfl)) (.inl rfl) (by kernel_rfl) ?_)))))))))
    refine VP.take (i := 1) rfl (TOp.r (t_move rfl rfl)) (.inl rfl) (by kernel_rfl) (VP.take (i := 2) rfl (TOp.r (t_move rfl rfl)) (.inl rfl) (by kernel_rfl) ?_)
    obtain ⟨c_8, hc_8, h⟩ := obind h
    obtain ⟨ob_9, cap_9, len_9, sl_9, rfl, rfl, hE_9, hl_9, hc_9, hs_9⟩ := buf_at hbp0_4 hc_8
    refine VP.take (i := 3) (v := .ptr ob_9 (j_3.toNat * 2 + 0)) rfl (TOp.r (t_index_own rfl sl31 rfl rfl (getI_some hc_8).1 (by rw [hl_9]; exact getI_lt hc_8) rfl)) (.inl rfl) (by kernel_rfl) (VP.take (i := 4) (v := .agg (Pr.c c_8)) rfl (r_load_buf (n := 2) (f := 0) (j := 1) rfl sz59 rfl rfl hE_9 (map_get (getI_some hc_8).2 (Pr.c_eq c_8)) (nle rfl) (fun _ => ofCells_agg rfl)) (.inl rfl) (by kernel_rfl) (VP.take (i := 5) rfl (TOp.r (t_move rfl rfl)) (.inl rfl) (by kernel_rfl) (VP.take (i := 6) rfl (TOp.r (t_move rfl rfl)) (.inl rfl) (by kernel_rfl) (VP.take (i := 7) (v := .i (w64 (j_3 - 1))) rfl (TOp.r (t_sub rfl rfl (fun _ _ => rfl) rfl)) (.inl rfl) (by kernel_rfl) ?_))))
    obtain ⟨c_10, hc_10, h⟩ := obind h
    refine VP.take (i := 8) (v := .ptr ob_9 ((w64 (j_3 - 1)).toNat * 2 + 0)) rfl (TOp.r (t_index_own rfl sl31 rfl rfl (getI_some hc_10).1 (by rw [hl_9]; exact getI_lt hc_10) rfl)) (.inl rfl) (by kernel_rfl) (VP.take (i := 9) (v := .agg (Pr.c c_10)) rfl (r_load_buf (n := 2) (f := 0) (j := 1) rfl sz59 rfl rfl hE_9 (map_get (getI_some hc_10).2 (Pr.c_eq c_10)) (nle rfl) (fun _ => ofCells_agg rfl)) (.inl rfl) (by kernel_rfl) (VP.done (by kernel_rfl) ?_))
    obtain ⟨rv_11, hx_12, h⟩ := obind h
    refine VA.w (i := 10) (fun v H' => .i rv_11 = v ∧ H' = hq ([a3_g, [(ob_9, .cells ((bu_2.map Pr.c).flatten ++ sl_9))]]) []) rfl (w_call_q (sa := [a3_g]) (sg := [[(ob_9, .cells ((bu_2.map Pr.c).flatten ++ sl_9))]]) (tks := []) rfl a3_k rfl ⟨_, _, rfl, rfl, _, _, rfl, rfl, rfl⟩ (a3_h _ _ _ hx_12) (by rintro v H' ⟨rfl, rfl⟩; exact ⟨[a3_g], rfl, rfl, rfl⟩)) (.inl rfl) (by kernel_rfl) rfl ?_
    rintro _ _ ⟨rfl, rfl⟩
    refine VA.t (i := 11) (v := .bool (decide (rv_11 < 0))) rfl (t_cmp rfl rfl rfl (fun _ _ => rfl) rfl) (.inl rfl) (by kernel_rfl) (VA.t (i := 12) (v := .bool (!(decide (rv_11 < 0)))) rfl (t_not rfl rfl rfl) (.inl rfl) (by kernel_rfl) (VA.done (by kernel_rfl) (thenQ_normal (VW.k8 0 1 2 3 9 10 11 84 rfl ?_))))
    refine VW.cond (b := (!(decide (rv_11 < 0)))) rfl (fun hc_13 => ?_) (fun hc_13 => ?_)
    · replace h := iteT h hc_13
      refine VW.k6 0 1 2 3 9 10 rfl (VW.exit (thenQ_exit (blockQ_miss rfl (thenQ_exit (thenQ_exit ?_)))))
      obtain rfl := oi h
      exact hx0 _ [(ob_9, .cells ((bu_2.map Pr.c).flatten ++ sl_9))] rfl (Buf.own (n := 2) (l := bu_2.map Pr.c) ob_9 cap_9 len_9 sl_9 (elemsOK_map Pr.c_ok _) (by simp [hl_9]) hc_9 hs_9)
    · replace h := iteF h hc_13
      refine VW.skip (thenQ_normal (VW.k7 0 1 2 3 9 10 11 rfl (VW.draw 18 mix rfl (VA.t (i := 0) rfl (t_move rfl rfl) (.inl rfl) (by kernel_rfl) (VA.t (i := 1) rfl (t_move rfl rfl) (.inl rfl) (by kernel_rfl) (VA.t (i := 2) rfl (t_move rfl rfl) (.inl rfl) (by kernel_rfl) (VA.t (i := 3) rfl (t_move rfl rfl) (.inl rfl) (by kernel_rfl) (VA.t (i := 4) (v := .i (w64 (j_3 - 1))) rfl (t_sub rfl rfl (fun _ _ => rfl) rfl) (.inl rfl) (by kernel_rfl) (VA.phase (g := 3) [5, 6, 7, 8, 9, 10, 11, 12, 13, 14] 10 ?_)))))))))
      refine VP.take (i := 5) rfl (TOp.r (t_move rfl rfl)) (.inl rfl) (by kernel_rfl) (VP.take (i := 6) rfl (TOp.r (t_move rfl rfl)) (.inl rfl) (by kernel_rfl) (VP.take (i := 7) (v := .i (w64 (j_3 - 1))) rfl (TOp.r (t_sub rfl rfl (fun _ _ => rfl) rfl)) (.inl rfl) (by kernel_rfl) (VP.take (i := 8) (v := .ptr ob_9 ((w64 (j_3 - 1)).toNat * 2 + 0)) rfl (TOp.r (t_index_own rfl sl31 rfl rfl (getI_some hc_10).1 (by rw [hl_9]; exact getI_lt hc_10) rfl)) (.inl rfl) (by kernel_rfl) (VP.take (i := 9) (v := .agg (Pr.c c_10)) rfl (r_load_buf (n := 2) (f := 0) (j := 1) rfl sz59 rfl rfl hE_9 (map_get (getI_some hc_10).2 (Pr.c_eq c_10)) (nle rfl) (fun _ => ofCells_agg rfl)) (.inl rfl) (by kernel_rfl) (VP.take (i := 10) rfl (TOp.r (t_move rfl rfl)) (.inl rfl) (by kernel_rfl) (VP.take (i := 11) rfl (TOp.r (t_move rfl rfl)) (.inl rfl) (by kernel_rfl) (VP.take (i := 12) (v := .ptr ob_9 (j_3.toNat * 2 + 0)) rfl (TOp.r (t_index_own rfl sl31 rfl rfl (getI_some hc_8).1 (by rw [hl_9]; exact getI_lt hc_8) rfl)) (.inl rfl) (by kernel_rfl) (VP.take (i := 13) (v := .agg (Pr.c c_8)) rfl (r_load_buf (n := 2) (f := 0) (j := 1) rfl sz59 rfl rfl hE_9 (map_get (getI_some hc_8).2 (Pr.c_eq c_8)) (nle rfl) (fun _ => ofCells_agg rfl)) (.inl rfl) (by kernel_rfl) (VP.take (i := 14) (v := .ptr ob_9 (j_3.toNat * 2 + 0)) rfl (TOp.r (t_index_own rfl sl31 rfl rfl (getI_some hc_8).1 (by rw [hl_9]; exact getI_lt hc_8) rfl)) (.inl rfl) (by kernel_rfl) ?_)))))))))
      refine VP.done (by kernel_rfl) (VA.w (i := 15) (fun v H' => .any = v ∧ H' = hq ([a3_g, [(ob_9, .cells (((bu_2.set j_3.toNat c_10).map Pr.c).flatten ++ sl_9))]]) []) rfl (w_store_buf (n := 2) (f := 0) (j := 1) rfl sz59 rfl rfl rfl hE_9 (map_get (getI_some hc_8).2 (Pr.c_eq c_8)) rfl rfl (nle rfl) rfl (map_set (Pr.c_eq c_10)) ⟨rfl, rfl⟩) (.inl rfl) (by kernel_rfl) rfl ?_)
      rintro _ _ ⟨rfl, rfl⟩
      have hl_14 : len_9 = (bu_2.set j_3.toNat c_10).length := by simp [hl_9]
      obtain ⟨c_15, hc_15, h⟩ := obind h
      refine VA.t (i := 16) (v := .ptr ob_9 ((w64 (j_3 - 1)).toNat * 2 + 0)) rfl (t_index_own rfl sl31 rfl rfl (getI_some hc_15).1 (by rw [hl_14]; exact getI_lt hc_15) rfl) (.inl rfl) (by kernel_rfl) (VA.w (i := 17) (fun v H' => .any = v ∧ H' = hq ([a3_g, [(ob_9, .cells ((((bu_2.set j_3.toNat c_10).set (w64 (j_3 - 1)).toNat c_8).map Pr.c).flatten ++ sl_9))]]) []) rfl (w_store_buf (n := 2) (f := 0) (j := 1) rfl sz59 rfl rfl rfl (elemsOK_map Pr.c_ok _) (map_get (getI_some hc_15).2 (Pr.c_eq c_15)) rfl rfl (nle rfl) rfl (map_set (Pr.c_eq c_8)) ⟨rfl, rfl⟩) (.inl rfl) (by kernel_rfl) rfl ?_)
      rintro _ _ ⟨rfl, rfl⟩
      have hl_16 : len_9 = ((bu_2.set j_3.toNat c_10).set (w64 (j_3 - 1)).toNat c_8).length := by simp [hl_14]
      refine VA.done (by kernel_rfl) (blockQ_normal (thenQ_normal (VW.k7 0 1 2 3 9 10 11 rfl (VW.region (VO.m rfl rfl (VO.t (v := .i (w64 (j_3 - 1))) (t_sub rfl rfl (fun _ _ => rfl) rfl) rfl rfl (VO.a (v := .i (w64 (j_3 - 1))) rfl rfl (VO.nil (thenQ_normal (VL.round ?_))))))))))
      refine VW.k7 0 1 2 3 9 10 11 rfl ?_
      exact ih _ _ _ h (.own ob_9 cap_9 len_9) [(ob_9, .cells ((((bu_2.set j_3.toNat c_10).set (w64 (j_3 - 1)).toNat c_8).map Pr.c).flatten ++ sl_9))] (Buf.own (n := 2) (l := ((bu_2.set j_3.toNat c_10).set (w64 (j_3 - 1)).toNat c_8).map Pr.c) ob_9 cap_9 len_9 sl_9 (elemsOK_map Pr.c_ok _) (by simp [hl_16]) hc_9 hs_9) hx0
  · replace h := iteF h hc_7
    refine VW.k6 0 1 2 3 9 10 rfl (VW.exit (thenQ_exit (thenQ_exit ?_)))
    obtain rfl := oi h
    exact hx0 _ bp0_4 rfl hbp0_4

theorem slices_partialInsertionSortCmpFunc_2int.l0_ok (a3 : Pr → Pr → Option Int) (a1 : Int) (a2 : Int) (a3_f : Nat) (a3_a a3_c : List VV) (a3_g : Seg) (a3_k : FnOK Tryd.prog a3_f) (a3_h : ∀ (y0 : Pr) (y1 : Pr) (z : Int), a3 y0 y1 = some z → VCalls Tryd.prog a3_f (a3_a ++ [.agg (Pr.c y0), .agg (Pr.c y1)] ++ a3_c) (hq [a3_g] []) (fun v H => .i z = v ∧ H = hq [a3_g] [])) {Q : Exit → Env → HH → Prop} :
    ∀ (bu_0 : List Pr) (i_1 : Int) (j_2 : Int) (o : (List Pr) ⊕ (List Pr × Bool)), PL.slices_partialInsertionSortCmpFunc_2int.l0 a3 a1 a2 bu_0 i_1 j_2 = some o →
    ∀ (vp0_3 : VV) (bp0_3 : Seg) (hbp0_3 : Buf 2 (bu_0.map Pr.c) vp0_3 bp0_3) (hx0 : ∀ (bu_4 : List Pr) (bp0_5 : Seg), Sum.inl bu_4 = o → Buf 2 (bu_4.map Pr.c) vp0_3 bp0_5 → Q (.exit 0) ⟨[], []⟩ (hq ([bp0_5, a3_g]) [])) (hx1 : ∀ (bu_6 : List Pr) (x_7 : Bool) (bp0_8 : Seg), Sum.inr (bu_6, x_7) = o → Buf 2 (bu_6.map Pr.c) vp0_3 bp0_8 → Q .ret ⟨[(8, .bool x_7)], []⟩ (hq ([bp0_8, a3_g]) [])), VW Tryd.prog 141 (codeAt [1, 1, 0, 1, 0, 0] (bodyOf Tryd.f75)) (thenQ (VL Tryd.prog 141 (codeAt [1, 1, 0, 1, 0, 0] (bodyOf Tryd.f75)) Q) Q) ⟨[(0, vp0_3), (1, .i a1), (2, .i a2), (3, .func (.func a3_f) a3_a a3_c), (9, .i i_1), (10, .i j_2)], []⟩ (hq ([bp0_3, a3_g]) []) := by
  refine PL.slices_partialInsertionSortCmpFunc_2int.l0.partial_correctness a3 a1 a2 (motive := fun bu_0 i_1 j_2 o => ∀ (vp0_3 : VV) (bp0_3 : Seg) (hbp0_3 : Buf 2 (bu_0.map Pr.c) vp0_3 bp0_3) (hx0 : ∀ (bu_4 : List Pr) (bp0_5 : Seg), Sum.inl bu_4 = o → Buf 2 (bu_4.map Pr.c) vp0_3 bp0_5 → Q (.exit 0) ⟨[], []⟩ (hq ([bp0_5, a3_g]) [])) (hx1 : ∀ (bu_6 : List Pr) (x_7 : Bool) (bp0_8 : Seg), Sum.inr (bu_6, x_7) = o → Buf 2 (bu_6.map Pr.c) vp0_3 bp0_8 → Q .ret ⟨[(8, .bool x_7)], []⟩ (hq ([bp0_8, a3_g]) [])), VW Tryd.prog 141 (codeAt [1, 1, 0, 1, 0, 0] (bodyOf Tryd.f75)) (thenQ (VL Tryd.prog 141 (codeAt [1, 1, 0, 1, 0, 0] (bodyOf Tryd.f75)) Q) Q) ⟨[(0, vp0_3), (1, .i a1), (2, .i a2), (3, .func (.func a3_f) a3_a a3_c), (9, .i i_1), (10, .i j_2)], []⟩ (hq ([bp0_3, a3_g]) [])) ?_
  intro _ ih bu_0 i_1 j_2 o h vp0_3 bp0_3 hbp0_3 hx0 hx1
  refine VW.seq (VW.q (VO.m rfl rfl (VO.t (v := .bool (decide (j_2 < 5))) (t_cmp rfl rfl rfl (fun _ _ => rfl) rfl) rfl rfl (VO.n (VW.k7 0 1 2 3 9 10 16 rfl ?_)))))
  refine VW.cond (b := (decide (j_2 < 5))) rfl (fun hc_9 => ?_) (fun hc_9 => ?_)
  · replace h := iteT h hc_9
    refine VW.skip (thenQ_normal (VW.k6 0 1 2 3 9 10 rfl (VW.seq (VW.block (VW.seq (VW.block (VW.k6 0 1 2 3 9 10 rfl ?_)))))))
    obtain ⟨o_10, hx_11, h⟩ := obind h
    refine VW.loopL (slices_partialInsertionSortCmpFunc_2int.l1_ok a3 a1 a2 bu_0 j_2 a3_f a3_a a3_c a3_g a3_k a3_h _ _ hx_11 vp0_3 bp0_3 hbp0_3 ?_)
    · intro i_12 bp0_13 ho_ hbp0_13
      subst ho_
      try dsimp only at h
      refine blockQ_hit (thenQ_normal (VW.seq (VW.q (VO.m rfl rfl (VO.m rfl rfl (VO.t (v := .bool (i_12 == a2)) (t_cmp rfl rfl rfl rfl rfl) rfl rfl (VO.n (VW.k7 0 1 2 3 9 10 41 rfl ?_))))))))
      refine VW.cond (b := (i_12 == a2)) rfl (fun hc_14 => ?_) (fun hc_14 => ?_)
      · replace h := iteT h hc_14
        refine VW.q (VO.a (v := .bool true) rfl (fun _ _ => rfl) (VO.n (VW.k1 8 rfl (VW.frontS 0 rfl (VW.frontS 1 rfl (VW.k1 8 rfl (VW.ret (thenQ_ret (blockQ_ret ?_)))))))))
        refine thenQ_ret (thenQ_ret ?_)
        obtain rfl := oi h
        exact hx1 _ _ bp0_13 rfl hbp0_13
      · replace h := iteF h hc_14
        refine VW.skip (thenQ_normal (VW.k6 0 1 2 3 9 10 rfl (VW.seq (VW.q (VO.m rfl rfl (VO.m rfl rfl (VO.t (v := .i (w64 (a2 - a1))) (t_sub rfl rfl rfl rfl) rfl rfl (VO.t (v := .bool (decide ((w64 (a2 - a1)) < 50))) (t_cmp rfl rfl rfl (fun _ _ => rfl) rfl) rfl rfl (VO.n ?_)))))))))
        refine VW.k7 0 1 2 3 9 10 45 rfl ?_
        refine VW.cond (b := (decide ((w64 (a2 - a1)) < 50))) rfl (fun hc_15 => ?_) (fun hc_15 => ?_)
        · replace h := iteT h hc_15
          refine VW.q (VO.a (v := .bool false) rfl (fun _ _ => rfl) (VO.n (VW.k1 8 rfl (VW.frontS 0 rfl (VW.frontS 1 rfl (VW.k1 8 rfl (VW.ret (thenQ_ret (blockQ_ret ?_)))))))))
          refine thenQ_ret (thenQ_ret ?_)
          obtain rfl := oi h
          exact hx1 _ _ bp0_13 rfl hbp0_13
        · replace h := iteF h hc_15
          refine VW.skip (thenQ_normal (VW.k6 0 1 2 3 9 10 rfl (VW.seq (VW.draw 18 mix rfl (VA.t (i := 0) rfl (t_move rfl rfl) (.inl rfl) (by kernel_rfl) (VA.t (i := 1) rfl (t_move rfl rfl) (.inl rfl) (by kernel_rfl) (VA.t (i := 2) rfl (t_move rfl rfl) (.inl rfl) (by kernel_rfl) (VA.t (i := 3) rfl (t_move rfl rfl) (.inl rfl) (by kernel_rfl) (VA.t (i := 4) (v := .i (w64 (i_12 - 1))) rfl (t_sub rfl rfl (fun _ _ => rfl) rfl) (.inl rfl) (by kernel_rfl) ?_)))))))))
          refine VA.phase (g := 3) [5, 6, 7, 8, 9, 10, 11, 12, 13, 14] 10 (VP.take (i := 5) rfl (TOp.r (t_move rfl rfl)) (.inl rfl) (by kernel_rfl) (VP.take (i := 6) rfl (TOp.r (t_move rfl rfl)) (.inl rfl) (by kernel_rfl) (VP.take (i := 7) (v := .i (w64 (i_12 - 1))) rfl (TOp.r (t_sub rfl rfl (fun _ _ => rfl) rfl)) (.inl rfl) (by kernel_rfl) ?_)))
          obtain ⟨c_16, hc_16, h⟩ := obind h
          obtain ⟨ob_17, cap_17, len_17, sl_17, rfl, rfl, hE_17, hl_17, hc_17, hs_17⟩ := buf_at hbp0_13 hc_16
          refine VP.take (i := 8) (v := .ptr ob_17 ((w64 (i_12 - 1)).toNat * 2 + 0)) rfl (TOp.r (t_index_own rfl sl31 rfl rfl (getI_some hc_16).1 (by rw [hl_17]; exact getI_lt hc_16) rfl)) (.inl rfl) (by kernel_rfl) (VP.take (i := 9) (v := .agg (Pr.c c_16)) rfl (r_load_buf (n := 2) (f := 0) (j := 1) rfl sz59 rfl rfl hE_17 (map_get (getI_some hc_16).2 (Pr.c_eq c_16)) (nle rfl) (fun _ => ofCells_agg rfl)) (.inl rfl) (by kernel_rfl) (VP.take (i := 10) rfl (TOp.r (t_move rfl rfl)) (.inl rfl) (by kernel_rfl) (VP.take (i := 11) rfl (TOp.r (t_move rfl rfl)) (.inl rfl) (by kernel_rfl) ?_)))
          obtain ⟨c_18, hc_18, h⟩ := obind h
          refine VP.take (i := 12) (v := .ptr ob_17 (i_12.toNat * 2 + 0)) rfl (TOp.r (t_index_own rfl sl31 rfl rfl (getI_some hc_18).1 (by rw [hl_17]; exact getI_lt hc_18) rfl)) (.inl rfl) (by kernel_rfl) (VP.take (i := 13) (v := .agg (Pr.c c_18)) rfl (r_load_buf (n := 2) (f := 0) (j := 1) rfl sz59 rfl rfl hE_17 (map_get (getI_some hc_18).2 (Pr.c_eq c_18)) (nle rfl) (fun _ => ofCells_agg rfl)) (.inl rfl) (by kernel_rfl) (VP.take (i := 14) (v := .ptr ob_17 (i_12.toNat * 2 + 0)) rfl (TOp.r (t_index_own rfl sl31 rfl rfl (getI_some hc_18).1 (by rw [hl_17]; exact getI_lt hc_18) rfl)) (.inl rfl) (by kernel_rfl) (VP.done (by kernel_rfl) (VA.w (i := 15) (fun v H' => .any = v ∧ H' = hq ([a3_g, [(ob_17, .cells (((bu_0.set i_12.toNat c_16).map Pr.c).flatten ++ sl_17))]]) []) rfl (w_store_buf (n := 2) (f := 0) (j := 1) rfl sz59 rfl rfl rfl hE_17 (map_get (getI_some hc_18).2 (Pr.c_eq c_18)) rfl rfl (nle rfl) rfl (map_set (Pr.c_eq c_16)) ⟨rfl, rfl⟩) (.inl rfl) (by kernel_rfl) rfl ?_))))
          rintro _ _ ⟨rfl, rfl⟩
          have hl_19 : len_17 = (bu_0.set i_12.toNat c_16).length := by simp [hl_17]
          obtain ⟨c_20, hc_20, h⟩ := obind h
          refine VA.t (i := 16) (v := .ptr ob_17 ((w64 (i_12 - 1)).toNat * 2 + 0)) rfl (t_index_own rfl sl31 rfl rfl (getI_some hc_20).1 (by rw [hl_19]; exact getI_lt hc_20) rfl) (.inl rfl) (by kernel_rfl) (VA.w (i := 17) (fun v H' => .any = v ∧ H' = hq ([a3_g, [(ob_17, .cells ((((bu_0.set i_12.toNat c_16).set (w64 (i_12 - 1)).toNat c_18).map Pr.c).flatten ++ sl_17))]]) []) rfl (w_store_buf (n := 2) (f := 0) (j := 1) rfl sz59 rfl rfl rfl (elemsOK_map Pr.c_ok _) (map_get (getI_some hc_20).2 (Pr.c_eq c_20)) rfl rfl (nle rfl) rfl (map_set (Pr.c_eq c_18)) ⟨rfl, rfl⟩) (.inl rfl) (by kernel_rfl) rfl ?_)
          rintro _ _ ⟨rfl, rfl⟩
          have hl_21 : len_17 = ((bu_0.set i_12.toNat c_16).set (w64 (i_12 - 1)).toNat c_18).length := by simp [hl_19]
          refine VA.done (by kernel_rfl) (thenQ_normal (VW.k6 0 1 2 3 9 10 rfl (VW.seq (VW.q (VO.m rfl rfl (VO.m rfl rfl (VO.t (v := .i (w64 (i_12 - a1))) (t_sub rfl rfl rfl rfl) rfl rfl (VO.t (v := .bool (decide ((w64 (i_12 - a1)) ≥ 2))) (t_cmp rfl rfl rfl (fun _ _ => rfl) rfl) rfl rfl (VO.n ?_)))))))))
          refine VW.k7 0 1 2 3 9 10 65 rfl ?_
          obtain ⟨o_22, h, hx_23⟩ := obind h
          refine VW.joinQ (E := List Pr × Seg) (I := fun ⟨bu_24, bp0_25⟩ => bu_24 = o_22 ∧ Buf 2 (bu_24.map Pr.c) (.own ob_17 cap_17 len_17) bp0_25 ∧ True) (env' := fun ⟨bu_24, bp0_25⟩ => ⟨[(0, .own ob_17 cap_17 len_17), (1, .i a1), (2, .i a2), (3, .func (.func a3_f) a3_a a3_c), (9, .i i_12), (10, .i j_2)], []⟩) (H' := fun ⟨bu_24, bp0_25⟩ => hq ([a3_g, bp0_25]) []) ?_ (fun J_26 => ?_)
          · rintro ⟨bu_24, bp0_25⟩ ⟨ho_, hbp0_25, _⟩
            subst ho_
            replace h := hx_23
            clear hx_23
            try dsimp only at h
            show VW _ _ _ _ ⟨[(0, .own ob_17 cap_17 len_17), (1, .i a1), (2, .i a2), (3, .func (.func a3_f) a3_a a3_c), (9, .i i_12), (10, .i j_2)], []⟩ (hq ([a3_g, bp0_25]) [])
            refine VW.q (VO.m rfl rfl (VO.m rfl rfl (VO.t (v := .i (w64 (a2 - i_12))) (t_sub rfl rfl rfl rfl) rfl rfl (VO.t (v := .bool (decide ((w64 (a2 - i_12)) ≥ 2))) (t_cmp rfl rfl rfl (fun _ _ => rfl) rfl) rfl rfl (VO.n (VW.k7 0 1 2 3 9 10 104 rfl ?_))))))
            refine VW.cond (b := (decide ((w64 (a2 - i_12)) ≥ 2))) rfl (fun hc_27 => ?_) (fun hc_27 => ?_)
            · replace h := iteT h hc_27
              refine VW.q (VO.m rfl rfl (VO.t (v := .i (w64 (i_12 + 1))) (t_add rfl rfl (fun _ _ => rfl) rfl) rfl rfl (VO.a (v := .i (w64 (i_12 + 1))) rfl rfl (VO.n (VW.k7 0 1 2 3 9 10 12 rfl (VW.block (VW.k7 0 1 2 3 9 10 12 rfl ?_)))))))
              obtain ⟨o_28, hx_29, h⟩ := obind h
              refine VW.loopL (slices_partialInsertionSortCmpFunc_2int.l2_ok a3 a1 a2 i_12 j_2 a3_f a3_a a3_c a3_g a3_k a3_h _ _ _ hx_29 (.own ob_17 cap_17 len_17) bp0_25 hbp0_25 ?_)
              · intro bu_30 bp0_31 ho_ hbp0_31
                subst ho_
                try dsimp only at h
                refine blockQ_hit (blockQ_normal (thenQ_normal (VW.region (VO.m rfl rfl (VO.t (v := .i (w64 (j_2 + 1))) (t_add rfl rfl (fun _ _ => rfl) rfl) rfl rfl (VO.a (v := .i (w64 (j_2 + 1))) rfl rfl (VO.nil (thenQ_normal (VL.round ?_)))))))))
                refine VW.k6 0 1 2 3 9 10 rfl (VW.frontS 0 rfl (VW.frontS 1 rfl ?_))
                exact ih _ _ _ _ h (.own ob_17 cap_17 len_17) bp0_31 hbp0_31 hx0 hx1
            · replace h := iteF h hc_27
              refine VW.skip (blockQ_normal (thenQ_normal (VW.k6 0 1 2 3 9 10 rfl (VW.region (VO.m rfl rfl (VO.t (v := .i (w64 (j_2 + 1))) (t_add rfl rfl (fun _ _ => rfl) rfl) rfl rfl (VO.a (v := .i (w64 (j_2 + 1))) rfl rfl (VO.nil (thenQ_normal (VL.round ?_))))))))))
              refine VW.k6 0 1 2 3 9 10 rfl (VW.frontS 0 rfl (VW.frontS 1 rfl ?_))
              exact ih _ _ _ _ h (.own ob_17 cap_17 len_17) bp0_25 hbp0_25 hx0 hx1
          · refine VW.cond (b := (decide ((w64 (i_12 - a1)) ≥ 2))) rfl (fun hc_32 => ?_) (fun hc_32 => ?_)
            · replace h := iteT h hc_32
              refine VW.q (VO.m rfl rfl (VO.t (v := .i (w64 (i_12 - 1))) (t_sub rfl rfl (fun _ _ => rfl) rfl) rfl rfl (VO.a (v := .i (w64 (i_12 - 1))) rfl rfl (VO.n (VW.k7 0 1 2 3 9 10 11 rfl (VW.block (VW.k7 0 1 2 3 9 10 11 rfl ?_)))))))
              obtain ⟨o_33, hx_34, h⟩ := obind h
              refine VW.loopL (slices_partialInsertionSortCmpFunc_2int.l3_ok a3 a1 a2 i_12 j_2 a3_f a3_a a3_c a3_g a3_k a3_h _ _ _ hx_34 (.own ob_17 cap_17 len_17) [(ob_17, .cells ((((bu_0.set i_12.toNat c_16).set (w64 (i_12 - 1)).toNat c_18).map Pr.c).flatten ++ sl_17))] (Buf.own (n := 2) (l := ((bu_0.set i_12.toNat c_16).set (w64 (i_12 - 1)).toNat c_18).map Pr.c) ob_17 cap_17 len_17 sl_17 (elemsOK_map Pr.c_ok _) (by simp [hl_21]) hc_17 hs_17) ?_)
              · intro bu_35 bp0_36 ho_ hbp0_36
                subst ho_
                try dsimp only at h
                refine blockQ_hit ?_
                exact thenQ_normal (J_26 ⟨bu_35, bp0_36⟩ ⟨Option.some.inj h, hbp0_36, trivial⟩)
            · replace h := iteF h hc_32
              refine VW.k6 0 1 2 3 9 10 rfl (VW.skip ?_)
              exact thenQ_normal (J_26 ⟨(bu_0.set i_12.toNat c_16).set (w64 (i_12 - 1)).toNat c_18, [(ob_17, .cells ((((bu_0.set i_12.toNat c_16).set (w64 (i_12 - 1)).toNat c_18).map Pr.c).flatten ++ sl_17))]⟩ ⟨Option.some.inj h, (Buf.own (n := 2) (l := ((bu_0.set i_12.toNat c_16).set (w64 (i_12 - 1)).toNat c_18).map Pr.c) ob_17 cap_17 len_17 sl_17 (elemsOK_map Pr.c_ok _) (by simp [hl_21]) hc_17 hs_17), trivial⟩)
  · replace h := iteF h hc_9
    refine VW.subN (t' := []) trivial rfl (VW.exit (thenQ_exit (thenQ_exit ?_)))
    obtain rfl := oi h
    exact hx0 _ bp0_3 rfl hbp0_3

theorem slices_partialInsertionSortCmpFunc_2int_ok (a0 : List Pr) (a1 : Int) (a2 : Int) (a3 : Pr → Pr → Option Int) (r : Bool × List Pr) (h : PL.slices_partialInsertionSortCmpFunc_2int a0 a1 a2 a3 = some r) (v0 : VV) (b0 : Seg) (a3_f : Nat) (a3_a : List VV) (a3_c : List VV) (a3_g : Seg) (hB0 : Buf 2 (a0.map Pr.c) v0 b0) (a3_k : FnOK Tryd.prog a3_f) (a3_h : ∀ (y0 : Pr) (y1 : Pr) (z : Int), a3 y0 y1 = some z → VCalls Tryd.prog a3_f (a3_a ++ [.agg (Pr.c y0), .agg (Pr.c y1)] ++ a3_c) (hq [a3_g] []) (fun v H => .i z = v ∧ H = hq [a3_g] [])) :
    VCalls Tryd.prog 75 [v0, .i a1, .i a2, .func (.func a3_f) a3_a a3_c] (hq [b0, a3_g] []) (fun v H => ∃ bk0, Buf 2 (r.2.map Pr.c) v0 bk0 ∧ .bool r.1 = v ∧ H = hq [bk0, a3_g] []) := by
  unfold PL.slices_partialInsertionSortCmpFunc_2int at h
  refine VCalls.of_body 141 [8] Tryd.func75 rfl rfl rfl (nle rfl) (VW.k4 0 1 2 3 rfl (VW.q (VO.a (v := .bool false) rfl (fun _ _ => rfl) (VO.n (VW.k4 0 1 2 3 rfl (VW.q (VO.m rfl rfl (VO.t (v := .i (w64 (a1 + 1))) (t_add rfl rfl (fun _ _ => rfl) rfl) rfl rfl (VO.a (v := .i (w64 (a1 + 1))) rfl rfl ?_)))))))))
  refine VO.n (VW.k5 0 1 2 3 9 rfl (VW.seq (VW.q (VO.a (v := .i 0) rfl (fun _ _ => rfl) (VO.n (VW.block (VW.k6 0 1 2 3 9 10 rfl ?_)))))))
  obtain ⟨o_0, hx_1, h⟩ := obind h
  refine VW.loopL (slices_partialInsertionSortCmpFunc_2int.l0_ok a3 a1 a2 a3_f a3_a a3_c a3_g a3_k a3_h _ _ _ _ hx_1 v0 b0 hB0 ?_ ?_)
  · intro bu_2 bp0_3 ho_ hbp0_3
    subst ho_
    try dsimp only at h
    refine blockQ_hit (thenQ_normal (VW.q (VO.a (v := .bool false) rfl (fun _ _ => rfl) (VO.n (VW.ret ?_)))))
    obtain rfl := oi h
    exact ⟨.inr rfl, rfl, _, .bool false, hq [bp0_3, a3_g] [], rfl, VLe.refl _, hq_sub (.cons_cons _ (.cons_cons _ .slnil)) .slnil, bp0_3, hbp0_3, rfl, rfl⟩
  · intro bu_4 x_5 bp0_6 ho_ hbp0_6
    subst ho_
    try dsimp only at h
    refine blockQ_ret (thenQ_ret ?_)
    obtain rfl := oi h
    exact ⟨.inr rfl, rfl, _, .bool x_5, hq [bp0_6, a3_g] [], rfl, VLe.refl _, hq_sub (.cons_cons _ (.cons_cons _ .slnil)) .slnil, bp0_6, hbp0_6, rfl, rfl⟩

theorem slices_partitionEqualCmpFunc_2int.l1_ok (a4 : Pr → Pr → Option Int) (a1 : Int) (bu_0 : List Pr) (j_1 : Int) (a4_f : Nat) (a4_a a4_c : List VV) (a4_g : Seg) (a4_k : FnOK Tryd.prog a4_f) (a4_h : ∀ (y0 : Pr) (y1 : Pr) (z : Int), a4 y0 y1 = some z → VCalls Tryd.prog a4_f (a4_a ++ [.agg (Pr.c y0), .agg (Pr.c y1)] ++ a4_c) (hq [a4_g] []) (fun v H => .i z = v ∧ H = hq [a4_g] [])) {Q : Exit → Env → HH → Prop} :
    ∀ (i_2 : Int) (o : Int), PL.slices_partitionEqualCmpFunc_2int.l1 a4 a1 bu_0 j_1 i_2 = some o →
    ∀ (vp0_3 : VV) (bp0_3 : Seg) (hbp0_3 : Buf 2 (bu_0.map Pr.c) vp0_3 bp0_3) (hx0 : ∀ (i_4 : Int) (bp0_5 : Seg), i_4 = o → Buf 2 (bu_0.map Pr.c) vp0_3 bp0_5 → Q (.exit 2) ⟨[(0, vp0_3), (1, .i a1), (4, .func (.func a4_f) a4_a a4_c), (11, .i i_4), (12, .i j_1)], []⟩ (hq ([a4_g, bp0_5]) [])), VW Tryd.prog 90 (codeAt [1, 1, 1, 0, 0, 0, 0, 0, 0, 0] (bodyOf Tryd.f76)) (thenQ (VL Tryd.prog 90 (codeAt [1, 1, 1, 0, 0, 0, 0, 0, 0, 0] (bodyOf Tryd.f76)) Q) Q) ⟨[(0, vp0_3), (1, .i a1), (4, .func (.func a4_f) a4_a a4_c), (11, .i i_2), (12, .i j_1)], []⟩ (hq ([bp0_3, a4_g]) []) := by
  refine PL.slices_partitionEqualCmpFunc_2int.l1.partial_correctness a4 a1 bu_0 j_1 (motive := fun i_2 o => ∀ (vp0_3 : VV) (bp0_3 : Seg) (hbp0_3 : Buf 2 (bu_0.map Pr.c) vp0_3 bp0_3) (hx0 : ∀ (i_4 : Int) (bp0_5 : Seg), i_4 = o → Buf 2 (bu_0.map Pr.c) vp0_3 bp0_5 → Q (.exit 2) ⟨[(0, vp0_3), (1, .i a1), (4, .func (.func a4_f) a4_a a4_c), (11, .i i_4), (12, .i j_1)], []⟩ (hq ([a4_g, bp0_5]) [])), VW Tryd.prog 90 (codeAt [1, 1, 1, 0, 0, 0, 0, 0, 0, 0] (bodyOf Tryd.f76)) (thenQ (VL Tryd.prog 90 (codeAt [1, 1, 1, 0, 0, 0, 0, 0, 0, 0] (bodyOf Tryd.f76)) Q) Q) ⟨[(0, vp0_3), (1, .i a1), (4, .func (.func a4_f) a4_a a4_c), (11, .i i_2), (12, .i j_1)], []⟩ (hq ([bp0_3, a4_g]) [])) ?_
  intro _ ih i_2 o h vp0_3 bp0_3 hbp0_3 hx0
  refine VW.seq (VW.seq (VW.draw 17 mix rfl (VA.t (i := 0) rfl (t_move rfl rfl) (.inl rfl) (by kernel_rfl) (VA.t (i := 1) rfl (t_move rfl rfl) (.inl rfl) (by kernel_rfl) (VA.t (i := 2) (v := .bool (decide (i_2 ≤ j_1))) rfl (t_cmp rfl rfl rfl rfl rfl) (.inl rfl) (by kernel_rfl) (VA.t (i := 3) rfl (t_move rfl rfl) (.inl rfl) (by kernel_rfl) ?_))))))
  refine VA.caseB (d := 34) (b := (decide (i_2 ≤ j_1))) rfl (fun hc_6 => ?_) (fun hc_6 => ?_)
  · replace h := iteT h hc_6
    refine VA.phase (g := 4) [4, 5, 6, 7, 8, 9, 10, 11, 12] 9 (VP.take (i := 4) rfl (TOp.r (t_move rfl rfl)) (.inr ⟨_, _, _, rfl, rfl, rfl⟩) (by kernel_rfl) (VP.take (i := 5) rfl (TOp.r (t_move rfl rfl)) (.inr ⟨_, _, _, rfl, rfl, rfl⟩) (by kernel_rfl) (VP.take (i := 6) rfl (TOp.r (t_move rfl rfl)) (.inr ⟨_, _, _, rfl, rfl, rfl⟩) (by kernel_rfl) ?_)))
    obtain ⟨c_7, hc_7, h⟩ := obind h
    obtain ⟨ob_8, cap_8, len_8, sl_8, rfl, rfl, hE_8, hl_8, hc_8, hs_8⟩ := buf_at hbp0_3 hc_7
    refine VP.take (i := 7) (v := .ptr ob_8 (a1.toNat * 2 + 0)) rfl (TOp.r (t_index_own rfl sl31 rfl rfl (getI_some hc_7).1 (by rw [hl_8]; exact getI_lt hc_7) rfl)) (.inr ⟨_, _, _, rfl, rfl, rfl⟩) (by kernel_rfl) (VP.take (i := 8) (v := .agg (Pr.c c_7)) rfl (r_load_buf (n := 2) (f := 0) (j := 0) rfl sz59 rfl rfl hE_8 (map_get (getI_some hc_7).2 (Pr.c_eq c_7)) (nle rfl) (fun _ => ofCells_agg rfl)) (.inr ⟨_, _, _, rfl, rfl, rfl⟩) (by kernel_rfl) (VP.take (i := 9) rfl (TOp.r (t_move rfl rfl)) (.inr ⟨_, _, _, rfl, rfl, rfl⟩) (by kernel_rfl) (VP.take (i := 10) rfl (TOp.r (t_move rfl rfl)) (.inr ⟨_, _, _, rfl, rfl, rfl⟩) (by kernel_rfl) ?_)))
    obtain ⟨c_9, hc_9, h⟩ := obind h
    refine VP.take (i := 11) (v := .ptr ob_8 (i_2.toNat * 2 + 0)) rfl (TOp.r (t_index_own rfl sl31 rfl rfl (getI_some hc_9).1 (by rw [hl_8]; exact getI_lt hc_9) rfl)) (.inr ⟨_, _, _, rfl, rfl, rfl⟩) (by kernel_rfl) (VP.take (i := 12) (v := .agg (Pr.c c_9)) rfl (r_load_buf (n := 2) (f := 0) (j := 0) rfl sz59 rfl rfl hE_8 (map_get (getI_some hc_9).2 (Pr.c_eq c_9)) (nle rfl) (fun _ => ofCells_agg rfl)) (.inr ⟨_, _, _, rfl, rfl, rfl⟩) (by kernel_rfl) (VP.done (by kernel_rfl) (VA.frontS 1 rfl ?_)))
    obtain ⟨rv_10, hx_11, h⟩ := obind h
    refine VA.w (i := 13) (fun v H' => .i rv_10 = v ∧ H' = hq ([a4_g, [(ob_8, .cells ((bu_0.map Pr.c).flatten ++ sl_8))]]) []) rfl (w_call_q (sa := [a4_g]) (sg := [[(ob_8, .cells ((bu_0.map Pr.c).flatten ++ sl_8))]]) (tks := []) rfl a4_k rfl ⟨_, _, rfl, rfl, _, _, rfl, rfl, rfl⟩ (a4_h _ _ _ hx_11) (by rintro v H' ⟨rfl, rfl⟩; exact ⟨[a4_g], rfl, rfl, rfl⟩)) (.inr ⟨_, _, _, rfl, rfl, rfl⟩) (by kernel_rfl) rfl ?_
    rintro _ _ ⟨rfl, rfl⟩
    refine VA.t (i := 14) (v := .bool (decide (rv_10 < 0))) rfl (t_cmp rfl rfl rfl (fun _ _ => rfl) rfl) (.inr ⟨_, _, _, rfl, rfl, rfl⟩) (by kernel_rfl) (VA.t (i := 15) (v := .bool (!(decide (rv_10 < 0)))) rfl (t_not rfl rfl rfl) (.inr ⟨_, _, _, rfl, rfl, rfl⟩) (by kernel_rfl) (VA.t (i := 16) (v := .bool (!(decide (rv_10 < 0)))) rfl (t_pick (b := true) rfl rfl (fun _ => rfl) (fun h => by cases h)) (.inl rfl) (by kernel_rfl) (VA.done (by kernel_rfl) (thenQ_normal (VW.subK (.c 0 rfl (.c 1 rfl (.c 4 rfl (.c 11 rfl (.c 12 rfl (.c 35 rfl (.c 36 rfl (.c 37 rfl (.c 38 rfl (.c 39 rfl (.c 40 rfl (.c 41 rfl (.c 42 rfl (.c 43 rfl (.c 44 rfl (.c 45 rfl (.c 46 rfl (.c 47 rfl .n)))))))))))))))))) rfl ?_)))))
    refine VW.cond (b := (!(decide (rv_10 < 0)))) rfl (fun hc_12 => ?_) (fun hc_12 => ?_)
    · replace h := iteT h hc_12
      refine VW.skip (thenQ_normal (VW.subK (.c 0 rfl (.c 1 rfl (.c 4 rfl (.c 11 rfl (.c 12 rfl (.c 35 rfl (.c 36 rfl (.c 37 rfl (.c 38 rfl (.c 39 rfl (.c 40 rfl (.c 41 rfl (.c 42 rfl (.c 43 rfl (.c 44 rfl (.c 45 rfl (.c 46 rfl .n))))))))))))))))) rfl (VW.block (VW.region (VO.m rfl rfl (VO.t (v := .i (w64 (i_2 + 1))) (t_add rfl rfl (fun _ _ => rfl) rfl) rfl rfl (VO.a (v := .i (w64 (i_2 + 1))) rfl rfl (VO.nil (blockQ_normal ?_)))))))))
      refine thenQ_normal (VL.round ?_)
      refine VW.k5 0 1 4 11 12 rfl (VW.frontS 0 rfl (VW.frontS 1 rfl ?_))
      exact ih _ _ h (.own ob_8 cap_8 len_8) [(ob_8, .cells ((bu_0.map Pr.c).flatten ++ sl_8))] (Buf.own (n := 2) (l := bu_0.map Pr.c) ob_8 cap_8 len_8 sl_8 (elemsOK_map Pr.c_ok _) (by simp [hl_8]) hc_8 hs_8) hx0
    · replace h := iteF h hc_12
      refine VW.k5 0 1 4 11 12 rfl (VW.exit (thenQ_exit (thenQ_exit ?_)))
      obtain rfl := oi h
      exact hx0 _ [(ob_8, .cells ((bu_0.map Pr.c).flatten ++ sl_8))] rfl (Buf.own (n := 2) (l := bu_0.map Pr.c) ob_8 cap_8 len_8 sl_8 (elemsOK_map Pr.c_ok _) (by simp [hl_8]) hc_8 hs_8)
  · replace h := iteF h hc_6
    refine VA.s 4 rfl (by kernel_rfl) (VA.s 5 rfl (by kernel_rfl) (VA.s 6 rfl (by kernel_rfl) (VA.s 7 rfl (by kernel_rfl) (VA.s 8 rfl (by kernel_rfl) (VA.s 9 rfl (by kernel_rfl) (VA.s 10 rfl (by kernel_rfl) (VA.s 11 rfl (by kernel_rfl) (VA.s 12 rfl (by kernel_rfl) (VA.s 13 rfl (by kernel_rfl) ?_)))))))))
    refine VA.s 14 rfl (by kernel_rfl) (VA.s 15 rfl (by kernel_rfl) (VA.t (i := 16) (v := .bool false) rfl (t_pick (b := false) rfl rfl (fun h => by cases h) (fun _ => (fun _ _ => rfl))) (.inl rfl) (by kernel_rfl) (VA.done (by kernel_rfl) (thenQ_normal (VW.subK (.c 0 rfl (.c 1 rfl (.c 4 rfl (.c 11 rfl (.c 12 rfl (.c 35 rfl (.c 36 rfl (.c 37 rfl (.c 38 rfl (.c 39 rfl (.c 40 rfl (.c 41 rfl (.c 42 rfl (.c 43 rfl (.c 44 rfl (.c 45 rfl (.c 46 rfl (.c 47 rfl .n)))))))))))))))))) rfl (VW.condF rfl (VW.k5 0 1 4 11 12 rfl (VW.frontS 0 rfl (VW.frontS 1 rfl ?_)))))))))
    refine VW.exit (thenQ_exit (thenQ_exit ?_))
    obtain rfl := oi h
    exact hx0 _ bp0_3 rfl hbp0_3

theorem slices_partitionEqualCmpFunc_2int.l2_ok (a4 : Pr → Pr → Option Int) (a1 : Int) (bu_0 : List Pr) (i_1 : Int) (a4_f : Nat) (a4_a a4_c : List VV) (a4_g : Seg) (a4_k : FnOK Tryd.prog a4_f) (a4_h : ∀ (y0 : Pr) (y1 : Pr) (z : Int), a4 y0 y1 = some z → VCalls Tryd.prog a4_f (a4_a ++ [.agg (Pr.c y0), .agg (Pr.c y1)] ++ a4_c) (hq [a4_g] []) (fun v H => .i z = v ∧ H = hq [a4_g] [])) {Q : Exit → Env → HH → Prop} :
    ∀ (j_2 : Int) (o : Int), PL.slices_partitionEqualCmpFunc_2int.l2 a4 a1 bu_0 i_1 j_2 = some o →
    ∀ (vp0_3 : VV) (bp0_3 : Seg) (hbp0_3 : Buf 2 (bu_0.map Pr.c) vp0_3 bp0_3) (hx0 : ∀ (j_4 : Int) (bp0_5 : Seg), j_4 = o → Buf 2 (bu_0.map Pr.c) vp0_3 bp0_5 → Q (.exit 4) ⟨[(0, vp0_3), (1, .i a1), (4, .func (.func a4_f) a4_a a4_c), (11, .i i_1), (12, .i j_4)], []⟩ (hq ([a4_g, bp0_5]) [])), VW Tryd.prog 90 (codeAt [1, 1, 1, 0, 0, 0, 0, 1, 0, 0, 0] (bodyOf Tryd.f76)) (thenQ (VL Tryd.prog 90 (codeAt [1, 1, 1, 0, 0, 0, 0, 1, 0, 0, 0] (bodyOf Tryd.f76)) Q) Q) ⟨[(0, vp0_3), (1, .i a1), (4, .func (.func a4_f) a4_a a4_c), (11, .i i_1), (12, .i j_2)], []⟩ (hq ([a4_g, bp0_3]) []) := by
  refine PL.slices_partitionEqualCmpFunc_2int.l2.partial_correctness a4 a1 bu_0 i_1 (motive := fun j_2 o => ∀ (vp0_3 : VV) (bp0_3 : Seg) (hbp0_3 : Buf 2 (bu_0.map Pr.c) vp0_3 bp0_3) (hx0 : ∀ (j_4 : Int) (bp0_5 : Seg), j_4 = o → Buf 2 (bu_0.map Pr.c) vp0_3 bp0_5 → Q (.exit 4) ⟨[(0, vp0_3), (1, .i a1), (4, .func (.func a4_f) a4_a a4_c), (11, .i i_1), (12, .i j_4)], []⟩ (hq ([a4_g, bp0_5]) [])), VW Tryd.prog 90 (codeAt [1, 1, 1, 0, 0, 0, 0, 1, 0, 0, 0] (bodyOf Tryd.f76)) (thenQ (VL Tryd.prog 90 (codeAt [1, 1, 1, 0, 0, 0, 0, 1, 0, 0, 0] (bodyOf Tryd.f76)) Q) Q) ⟨[(0, vp0_3), (1, .i a1), (4, .func (.func a4_f) a4_a a4_c), (11, .i i_1), (12, .i j_2)], []⟩ (hq ([a4_g, bp0_3]) [])) ?_
  intro _ ih j_2 o h vp0_3 bp0_3 hbp0_3 hx0
  refine VW.seq (VW.seq (VW.draw 16 mix rfl (VA.t (i := 0) rfl (t_move rfl rfl) (.inl rfl) (by kernel_rfl) (VA.t (i := 1) rfl (t_move rfl rfl) (.inl rfl) (by kernel_rfl) (VA.t (i := 2) (v := .bool (decide (i_1 ≤ j_2))) rfl (t_cmp rfl rfl rfl rfl rfl) (.inl rfl) (by kernel_rfl) (VA.t (i := 3) rfl (t_move rfl rfl) (.inl rfl) (by kernel_rfl) ?_))))))
  refine VA.caseB (d := 53) (b := (decide (i_1 ≤ j_2))) rfl (fun hc_6 => ?_) (fun hc_6 => ?_)
  · replace h := iteT h hc_6
    refine VA.phase (g := 3) [4, 5, 6, 7, 8, 9, 10, 11, 12] 9 (VP.take (i := 4) rfl (TOp.r (t_move rfl rfl)) (.inr ⟨_, _, _, rfl, rfl, rfl⟩) (by kernel_rfl) (VP.take (i := 5) rfl (TOp.r (t_move rfl rfl)) (.inr ⟨_, _, _, rfl, rfl, rfl⟩) (by kernel_rfl) (VP.take (i := 6) rfl (TOp.r (t_move rfl rfl)) (.inr ⟨_, _, _, rfl, rfl, rfl⟩) (by kernel_rfl) ?_)))
    obtain ⟨c_7, hc_7, h⟩ := obind h
    obtain ⟨ob_8, cap_8, len_8, sl_8, rfl, rfl, hE_8, hl_8, hc_8, hs_8⟩ := buf_at hbp0_3 hc_7
    refine VP.take (i := 7) (v := .ptr ob_8 (a1.toNat * 2 + 0)) rfl (TOp.r (t_index_own rfl sl31 rfl rfl (getI_some hc_7).1 (by rw [hl_8]; exact getI_lt hc_7) rfl)) (.inr ⟨_, _, _, rfl, rfl, rfl⟩) (by kernel_rfl) (VP.take (i := 8) (v := .agg (Pr.c c_7)) rfl (r_load_buf (n := 2) (f := 0) (j := 1) rfl sz59 rfl rfl hE_8 (map_get (getI_some hc_7).2 (Pr.c_eq c_7)) (nle rfl) (fun _ => ofCells_agg rfl)) (.inr ⟨_, _, _, rfl, rfl, rfl⟩) (by kernel_rfl) (VP.take (i := 9) rfl (TOp.r (t_move rfl rfl)) (.inr ⟨_, _, _, rfl, rfl, rfl⟩) (by kernel_rfl) (VP.take (i := 10) rfl (TOp.r (t_move rfl rfl)) (.inr ⟨_, _, _, rfl, rfl, rfl⟩) (by kernel_rfl) ?_)))
    obtain ⟨c_9, hc_9, h⟩ := obind h
    refine VP.take (i := 11) (v := .ptr ob_8 (j_2.toNat * 2 + 0)) rfl (TOp.r (t_index_own rfl sl31 rfl rfl (getI_some hc_9).1 (by rw [hl_8]; exact getI_lt hc_9) rfl)) (.inr ⟨_, _, _, rfl, rfl, rfl⟩) (by kernel_rfl) (VP.take (i := 12) (v := .agg (Pr.c c_9)) rfl (r_load_buf (n := 2) (f := 0) (j := 1) rfl sz59 rfl rfl hE_8 (map_get (getI_some hc_9).2 (Pr.c_eq c_9)) (nle rfl) (fun _ => ofCells_agg rfl)) (.inr ⟨_, _, _, rfl, rfl, rfl⟩) (by kernel_rfl) (VP.done (by kernel_rfl) ?_))
    obtain ⟨rv_10, hx_11, h⟩ := obind h
    refine VA.w (i := 13) (fun v H' => .i rv_10 = v ∧ H' = hq ([a4_g, [(ob_8, .cells ((bu_0.map Pr.c).flatten ++ sl_8))]]) []) rfl (w_call_q (sa := [a4_g]) (sg := [[(ob_8, .cells ((bu_0.map Pr.c).flatten ++ sl_8))]]) (tks := []) rfl a4_k rfl ⟨_, _, rfl, rfl, _, _, rfl, rfl, rfl⟩ (a4_h _ _ _ hx_11) (by rintro v H' ⟨rfl, rfl⟩; exact ⟨[a4_g], rfl, rfl, rfl⟩)) (.inr ⟨_, _, _, rfl, rfl, rfl⟩) (by kernel_rfl) rfl ?_
    rintro _ _ ⟨rfl, rfl⟩
    refine VA.t (i := 14) (v := .bool (decide (rv_10 < 0))) rfl (t_cmp rfl rfl rfl (fun _ _ => rfl) rfl) (.inr ⟨_, _, _, rfl, rfl, rfl⟩) (by kernel_rfl) (VA.t (i := 15) (v := .bool (decide (rv_10 < 0))) rfl (t_pick (b := true) rfl rfl (fun _ => rfl) (fun h => by cases h)) (.inl rfl) (by kernel_rfl) (VA.done (by kernel_rfl) (thenQ_normal (VW.subK (.c 0 rfl (.c 1 rfl (.c 4 rfl (.c 11 rfl (.c 12 rfl (.c 54 rfl (.c 55 rfl (.c 56 rfl (.c 57 rfl (.c 58 rfl (.c 59 rfl (.c 60 rfl (.c 61 rfl (.c 62 rfl (.c 63 rfl (.c 64 rfl (.c 65 rfl .n))))))))))))))))) rfl ?_))))
    refine VW.cond (b := (decide (rv_10 < 0))) rfl (fun hc_12 => ?_) (fun hc_12 => ?_)
    · replace h := iteT h hc_12
      refine VW.skip (thenQ_normal (VW.subK (.c 0 rfl (.c 1 rfl (.c 4 rfl (.c 11 rfl (.c 12 rfl (.c 54 rfl (.c 55 rfl (.c 56 rfl (.c 57 rfl (.c 58 rfl (.c 59 rfl (.c 60 rfl (.c 61 rfl (.c 62 rfl (.c 63 rfl (.c 64 rfl .n)))))))))))))))) rfl (VW.block (VW.region (VO.m rfl rfl (VO.t (v := .i (w64 (j_2 - 1))) (t_sub rfl rfl (fun _ _ => rfl) rfl) rfl rfl (VO.a (v := .i (w64 (j_2 - 1))) rfl rfl (VO.nil (blockQ_normal ?_)))))))))
      refine thenQ_normal (VL.round ?_)
      refine VW.k5 0 1 4 11 12 rfl ?_
      exact ih _ _ h (.own ob_8 cap_8 len_8) [(ob_8, .cells ((bu_0.map Pr.c).flatten ++ sl_8))] (Buf.own (n := 2) (l := bu_0.map Pr.c) ob_8 cap_8 len_8 sl_8 (elemsOK_map Pr.c_ok _) (by simp [hl_8]) hc_8 hs_8) hx0
    · replace h := iteF h hc_12
      refine VW.k5 0 1 4 11 12 rfl (VW.exit (thenQ_exit (thenQ_exit ?_)))
      obtain rfl := oi h
      exact hx0 _ [(ob_8, .cells ((bu_0.map Pr.c).flatten ++ sl_8))] rfl (Buf.own (n := 2) (l := bu_0.map Pr.c) ob_8 cap_8 len_8 sl_8 (elemsOK_map Pr.c_ok _) (by simp [hl_8]) hc_8 hs_8)
  · replace h := iteF h hc_6
    refine VA.s 4 rfl (by kernel_rfl) (VA.s 5 rfl (by kernel_rfl) (VA.s 6 rfl (by kernel_rfl) (VA.s 7 rfl (by kernel_rfl) (VA.s 8 rfl (by kernel_rfl) (VA.s 9 rfl (by kernel_rfl) (VA.s 10 rfl (by kernel_rfl) (VA.s 11 rfl (by kernel_rfl) (VA.s 12 rfl (by kernel_rfl) (VA.s 13 rfl (by kernel_rfl) ?_)))))))))
    refine VA.s 14 rfl (by kernel_rfl) (VA.t (i := 15) (v := .bool false) rfl (t_pick (b := false) rfl rfl (fun h => by cases h) (fun _ => (fun _ _ => rfl))) (.inl rfl) (by kernel_rfl) (VA.done (by kernel_rfl) (thenQ_normal (VW.subK (.c 0 rfl (.c 1 rfl (.c 4 rfl (.c 11 rfl (.c 12 rfl (.c 54 rfl (.c 55 rfl (.c 56 rfl (.c 57 rfl (.c 58 rfl (.c 59 rfl (.c 60 rfl (.c 61 rfl (.c 62 rfl (.c 63 rfl (.c 64 rfl (.c 65 rfl .n))))))))))))))))) rfl (VW.condF rfl (VW.k5 0 1 4 11 12 rfl (VW.exit (thenQ_exit (thenQ_exit ?_)))))))))
    obtain rfl := oi h
    exact hx0 _ bp0_3 rfl hbp0_3

theorem slices_partitionEqualCmpFunc_2int.l0_ok (a4 : Pr → Pr → Option Int) (a1 : Int) (a4_f : Nat) (a4_a a4_c : List VV) (a4_g : Seg) (a4_k : FnOK Tryd.prog a4_f) (a4_h : ∀ (y0 : Pr) (y1 : Pr) (z : Int), a4 y0 y1 = some z → VCalls Tryd.prog a4_f (a4_a ++ [.agg (Pr.c y0), .agg (Pr.c y1)] ++ a4_c) (hq [a4_g] []) (fun v H => .i z = v ∧ H = hq [a4_g] [])) {Q : Exit → Env → HH → Prop} :
    ∀ (bu_0 : List Pr) (i_1 : Int) (j_2 : Int) (o : (List Pr × Int)), PL.slices_partitionEqualCmpFunc_2int.l0 a4 a1 bu_0 i_1 j_2 = some o →
    ∀ (vp0_3 : VV) (bp0_3 : Seg) (hbp0_3 : Buf 2 (bu_0.map Pr.c) vp0_3 bp0_3) (hx0 : ∀ (bu_4 : List Pr) (i_5 : Int) (bp0_6 : Seg), (bu_4, i_5) = o → Buf 2 (bu_4.map Pr.c) vp0_3 bp0_6 → Q (.exit 0) ⟨[(11, .i i_5)], []⟩ (hq ([a4_g, bp0_6]) [])), VW Tryd.prog 90 (codeAt [1, 1, 1, 0, 0, 0] (bodyOf Tryd.f76)) (thenQ (VL Tryd.prog 90 (codeAt [1, 1, 1, 0, 0, 0] (bodyOf Tryd.f76)) Q) Q) ⟨[(0, vp0_3), (1, .i a1), (4, .func (.func a4_f) a4_a a4_c), (11, .i i_1), (12, .i j_2)], []⟩ (hq ([bp0_3, a4_g]) []) := by
  refine PL.slices_partitionEqualCmpFunc_2int.l0.partial_correctness a4 a1 (motive := fun bu_0 i_1 j_2 o => ∀ (vp0_3 : VV) (bp0_3 : Seg) (hbp0_3 : Buf 2 (bu_0.map Pr.c) vp0_3 bp0_3) (hx0 : ∀ (bu_4 : List Pr) (i_5 : Int) (bp0_6 : Seg), (bu_4, i_5) = o → Buf 2 (bu_4.map Pr.c) vp0_3 bp0_6 → Q (.exit 0) ⟨[(11, .i i_5)], []⟩ (hq ([a4_g, bp0_6]) [])), VW Tryd.prog 90 (codeAt [1, 1, 1, 0, 0, 0] (bodyOf Tryd.f76)) (thenQ (VL Tryd.prog 90 (codeAt [1, 1, 1, 0, 0, 0] (bodyOf Tryd.f76)) Q) Q) ⟨[(0, vp0_3), (1, .i a1), (4, .func (.func a4_f) a4_a a4_c), (11, .i i_1), (12, .i j_2)], []⟩ (hq ([bp0_3, a4_g]) [])) ?_
  intro _ ih bu_0 i_1 j_2 o h vp0_3 bp0_3 hbp0_3 hx0
  refine VW.block (VW.seq (VW.block (VW.k5 0 1 4 11 12 rfl ?_)))
  obtain ⟨o_7, hx_8, h⟩ := obind h
  refine VW.loopL (slices_partitionEqualCmpFunc_2int.l1_ok a4 a1 bu_0 j_2 a4_f a4_a a4_c a4_g a4_k a4_h _ _ hx_8 vp0_3 bp0_3 hbp0_3 ?_)
  · intro i_9 bp0_10 ho_ hbp0_10
    subst ho_
    try dsimp only at h
    refine blockQ_hit (thenQ_normal (VW.seq (VW.block (VW.k5 0 1 4 11 12 rfl ?_))))
    obtain ⟨o_11, hx_12, h⟩ := obind h
    refine VW.loopL (slices_partitionEqualCmpFunc_2int.l2_ok a4 a1 bu_0 i_9 a4_f a4_a a4_c a4_g a4_k a4_h _ _ hx_12 vp0_3 bp0_10 hbp0_10 ?_)
    · intro j_13 bp0_14 ho_ hbp0_14
      subst ho_
      try dsimp only at h
      refine blockQ_hit (thenQ_normal (VW.seq (VW.q (VO.m rfl rfl (VO.m rfl rfl (VO.t (v := .bool (decide (i_9 > j_13))) (t_cmp rfl rfl rfl rfl rfl) rfl rfl (VO.n (VW.k6 0 1 4 11 12 70 rfl ?_))))))))
      refine VW.cond (b := (decide (i_9 > j_13))) rfl (fun hc_15 => ?_) (fun hc_15 => ?_)
      · replace h := iteT h hc_15
        refine VW.k1 11 rfl (VW.exit (thenQ_exit (blockQ_miss rfl (thenQ_exit ?_))))
        obtain rfl := oi h
        exact hx0 _ _ bp0_14 rfl hbp0_14
      · replace h := iteF h hc_15
        refine VW.skip (thenQ_normal (VW.k5 0 1 4 11 12 rfl (VW.seq (VW.draw 16 mix rfl (VA.t (i := 0) rfl (t_move rfl rfl) (.inl rfl) (by kernel_rfl) (VA.t (i := 1) rfl (t_move rfl rfl) (.inl rfl) (by kernel_rfl) (VA.t (i := 2) rfl (t_move rfl rfl) (.inl rfl) (by kernel_rfl) (VA.t (i := 3) rfl (t_move rfl rfl) (.inl rfl) (by kernel_rfl) (VA.phase (g := 3) [4, 5, 6, 7, 8, 9, 10, 11, 12] 9 ?_)))))))))
        refine VP.take (i := 4) rfl (TOp.r (t_move rfl rfl)) (.inl rfl) (by kernel_rfl) (VP.take (i := 5) rfl (TOp.r (t_move rfl rfl)) (.inl rfl) (by kernel_rfl) ?_)
        obtain ⟨c_16, hc_16, h⟩ := obind h
        obtain ⟨ob_17, cap_17, len_17, sl_17, rfl, rfl, hE_17, hl_17, hc_17, hs_17⟩ := buf_at hbp0_14 hc_16
        refine VP.take (i := 6) (v := .ptr ob_17 (j_13.toNat * 2 + 0)) rfl (TOp.r (t_index_own rfl sl31 rfl rfl (getI_some hc_16).1 (by rw [hl_17]; exact getI_lt hc_16) rfl)) (.inl rfl) (by kernel_rfl) (VP.take (i := 7) (v := .agg (Pr.c c_16)) rfl (r_load_buf (n := 2) (f := 0) (j := 1) rfl sz59 rfl rfl hE_17 (map_get (getI_some hc_16).2 (Pr.c_eq c_16)) (nle rfl) (fun _ => ofCells_agg rfl)) (.inl rfl) (by kernel_rfl) (VP.take (i := 8) rfl (TOp.r (t_move rfl rfl)) (.inl rfl) (by kernel_rfl) (VP.take (i := 9) rfl (TOp.r (t_move rfl rfl)) (.inl rfl) (by kernel_rfl) ?_)))
        obtain ⟨c_18, hc_18, h⟩ := obind h
        refine VP.take (i := 10) (v := .ptr ob_17 (i_9.toNat * 2 + 0)) rfl (TOp.r (t_index_own rfl sl31 rfl rfl (getI_some hc_18).1 (by rw [hl_17]; exact getI_lt hc_18) rfl)) (.inl rfl) (by kernel_rfl) (VP.take (i := 11) (v := .agg (Pr.c c_18)) rfl (r_load_buf (n := 2) (f := 0) (j := 1) rfl sz59 rfl rfl hE_17 (map_get (getI_some hc_18).2 (Pr.c_eq c_18)) (nle rfl) (fun _ => ofCells_agg rfl)) (.inl rfl) (by kernel_rfl) (VP.take (i := 12) (v := .ptr ob_17 (i_9.toNat * 2 + 0)) rfl (TOp.r (t_index_own rfl sl31 rfl rfl (getI_some hc_18).1 (by rw [hl_17]; exact getI_lt hc_18) rfl)) (.inl rfl) (by kernel_rfl) (VP.done (by kernel_rfl) (VA.w (i := 13) (fun v H' => .any = v ∧ H' = hq ([a4_g, [(ob_17, .cells (((bu_0.set i_9.toNat c_16).map Pr.c).flatten ++ sl_17))]]) []) rfl (w_store_buf (n := 2) (f := 0) (j := 1) rfl sz59 rfl rfl rfl hE_17 (map_get (getI_some hc_18).2 (Pr.c_eq c_18)) rfl rfl (nle rfl) rfl (map_set (Pr.c_eq c_16)) ⟨rfl, rfl⟩) (.inl rfl) (by kernel_rfl) rfl ?_))))
        rintro _ _ ⟨rfl, rfl⟩
        have hl_19 : len_17 = (bu_0.set i_9.toNat c_16).length := by simp [hl_17]
        obtain ⟨c_20, hc_20, h⟩ := obind h
        refine VA.t (i := 14) (v := .ptr ob_17 (j_13.toNat * 2 + 0)) rfl (t_index_own rfl sl31 rfl rfl (getI_some hc_20).1 (by rw [hl_19]; exact getI_lt hc_20) rfl) (.inl rfl) (by kernel_rfl) (VA.w (i := 15) (fun v H' => .any = v ∧ H' = hq ([a4_g, [(ob_17, .cells ((((bu_0.set i_9.toNat c_16).set j_13.toNat c_18).map Pr.c).flatten ++ sl_17))]]) []) rfl (w_store_buf (n := 2) (f := 0) (j := 1) rfl sz59 rfl rfl rfl (elemsOK_map Pr.c_ok _) (map_get (getI_some hc_20).2 (Pr.c_eq c_20)) rfl rfl (nle rfl) rfl (map_set (Pr.c_eq c_18)) ⟨rfl, rfl⟩) (.inl rfl) (by kernel_rfl) rfl ?_)
        rintro _ _ ⟨rfl, rfl⟩
        have hl_21 : len_17 = ((bu_0.set i_9.toNat c_16).set j_13.toNat c_18).length := by simp [hl_19]
        refine VA.done (by kernel_rfl) (thenQ_normal (VW.k5 0 1 4 11 12 rfl (VW.q (VO.m rfl rfl (VO.t (v := .i (w64 (i_9 + 1))) (t_add rfl rfl (fun _ _ => rfl) rfl) rfl rfl (VO.a (v := .i (w64 (i_9 + 1))) rfl rfl (VO.n (VW.k5 0 1 4 12 11 rfl (VW.region ?_)))))))))
        refine VO.m rfl rfl (VO.t (v := .i (w64 (j_13 - 1))) (t_sub rfl rfl (fun _ _ => rfl) rfl) rfl rfl (VO.a (v := .i (w64 (j_13 - 1))) rfl rfl (VO.nil (blockQ_normal (thenQ_normal (VL.round ?_))))))
        refine VW.k5 0 1 4 11 12 rfl (VW.frontS 0 rfl (VW.frontS 1 rfl ?_))
        exact ih _ _ _ _ h (.own ob_17 cap_17 len_17) [(ob_17, .cells ((((bu_0.set i_9.toNat c_16).set j_13.toNat c_18).map Pr.c).flatten ++ sl_17))] (Buf.own (n := 2) (l := ((bu_0.set i_9.toNat c_16).set j_13.toNat c_18).map Pr.c) ob_17 cap_17 len_17 sl_17 (elemsOK_map Pr.c_ok _) (by simp [hl_21]) hc_17 hs_17) hx0

theorem slices_partitionEqualCmpFunc_2int_ok (a0 : List Pr) (a1 : Int) (a2 : Int) (a3 : Int) (a4 : Pr → Pr → Option Int) (r : Int × List Pr) (h : PL.slices_partitionEqualCmpFunc_2int a0 a1 a2 a3 a4 = some r) (v0 : VV) (b0 : Seg) (a4_f : Nat) (a4_a : List VV) (a4_c : List VV) (a4_g : Seg) (hB0 : Buf 2 (a0.map Pr.c) v0 b0) (a4_k : FnOK Tryd.prog a4_f) (a4_h : ∀ (y0 : Pr) (y1 : Pr) (z : Int), a4 y0 y1 = some z → VCalls Tryd.prog a4_f (a4_a ++ [.agg (Pr.c y0), .agg (Pr.c y1)] ++ a4_c) (hq [a4_g] []) (fun v H => .i z = v ∧ H = hq [a4_g] [])) :
    VCalls Tryd.prog 76 [v0, .i a1, .i a2, .i a3, .func (.func a4_f) a4_a a4_c] (hq [b0, a4_g] []) (fun v H => ∃ bk0, Buf 2 (r.2.map Pr.c) v0 bk0 ∧ .i r.1 = v ∧ H = hq [bk0, a4_g] []) := by
  unfold PL.slices_partitionEqualCmpFunc_2int at h
  refine VCalls.of_body 90 [10] Tryd.func76 rfl rfl rfl (nle rfl) (VW.k5 0 1 2 3 4 rfl (VW.q (VO.a (v := .i 0) rfl (fun _ _ => rfl) (VO.n (VW.k5 0 1 2 3 4 rfl (VW.seq (VW.draw 16 mix rfl (VA.t (i := 0) rfl (t_move rfl rfl) (.inl rfl) (by kernel_rfl) (VA.t (i := 1) rfl (t_move rfl rfl) (.inl rfl) (by kernel_rfl) ?_)))))))))
  refine VA.t (i := 2) rfl (t_move rfl rfl) (.inl rfl) (by kernel_rfl) (VA.t (i := 3) rfl (t_move rfl rfl) (.inl rfl) (by kernel_rfl) (VA.phase (g := 3) [4, 5, 6, 7, 8, 9, 10, 11, 12] 9 (VP.take (i := 4) rfl (TOp.r (t_move rfl rfl)) (.inl rfl) (by kernel_rfl) (VP.take (i := 5) rfl (TOp.r (t_move rfl rfl)) (.inl rfl) (by kernel_rfl) ?_))))
  obtain ⟨c_0, hc_0, h⟩ := obind h
  obtain ⟨ob_1, cap_1, len_1, sl_1, rfl, rfl, hE_1, hl_1, hc_1, hs_1⟩ := buf_at hB0 hc_0
  refine VP.take (i := 6) (v := .ptr ob_1 (a3.toNat * 2 + 0)) rfl (TOp.r (t_index_own rfl sl31 rfl rfl (getI_some hc_0).1 (by rw [hl_1]; exact getI_lt hc_0) rfl)) (.inl rfl) (by kernel_rfl) (VP.take (i := 7) (v := .agg (Pr.c c_0)) rfl (r_load_buf (n := 2) (f := 0) (j := 0) rfl sz59 rfl rfl hE_1 (map_get (getI_some hc_0).2 (Pr.c_eq c_0)) (nle rfl) (fun _ => ofCells_agg rfl)) (.inl rfl) (by kernel_rfl) (VP.take (i := 8) rfl (TOp.r (t_move rfl rfl)) (.inl rfl) (by kernel_rfl) (VP.take (i := 9) rfl (TOp.r (t_move rfl rfl)) (.inl rfl) (by kernel_rfl) ?_)))
  obtain ⟨c_2, hc_2, h⟩ := obind h
  refine VP.take (i := 10) (v := .ptr ob_1 (a1.toNat * 2 + 0)) rfl (TOp.r (t_index_own rfl sl31 rfl rfl (getI_some hc_2).1 (by rw [hl_1]; exact getI_lt hc_2) rfl)) (.inl rfl) (by kernel_rfl) (VP.take (i := 11) (v := .agg (Pr.c c_2)) rfl (r_load_buf (n := 2) (f := 0) (j := 0) rfl sz59 rfl rfl hE_1 (map_get (getI_some hc_2).2 (Pr.c_eq c_2)) (nle rfl) (fun _ => ofCells_agg rfl)) (.inl rfl) (by kernel_rfl) (VP.take (i := 12) (v := .ptr ob_1 (a1.toNat * 2 + 0)) rfl (TOp.r (t_index_own rfl sl31 rfl rfl (getI_some hc_2).1 (by rw [hl_1]; exact getI_lt hc_2) rfl)) (.inl rfl) (by kernel_rfl) (VP.done (by kernel_rfl) (VA.w (i := 13) (fun v H' => .any = v ∧ H' = hq ([[(ob_1, .cells (((a0.set a1.toNat c_0).map Pr.c).flatten ++ sl_1))], a4_g]) []) rfl (w_store_buf (n := 2) (f := 0) (j := 0) rfl sz59 rfl rfl rfl hE_1 (map_get (getI_some hc_2).2 (Pr.c_eq c_2)) rfl rfl (nle rfl) rfl (map_set (Pr.c_eq c_0)) ⟨rfl, rfl⟩) (.inl rfl) (by kernel_rfl) rfl ?_))))
  rintro _ _ ⟨rfl, rfl⟩
  have hl_3 : len_1 = (a0.set a1.toNat c_0).length := by simp [hl_1]
  obtain ⟨c_4, hc_4, h⟩ := obind h
  refine VA.t (i := 14) (v := .ptr ob_1 (a3.toNat * 2 + 0)) rfl (t_index_own rfl sl31 rfl rfl (getI_some hc_4).1 (by rw [hl_3]; exact getI_lt hc_4) rfl) (.inl rfl) (by kernel_rfl) (VA.w (i := 15) (fun v H' => .any = v ∧ H' = hq ([[(ob_1, .cells ((((a0.set a1.toNat c_0).set a3.toNat c_2).map Pr.c).flatten ++ sl_1))], a4_g]) []) rfl (w_store_buf (n := 2) (f := 0) (j := 0) rfl sz59 rfl rfl rfl (elemsOK_map Pr.c_ok _) (map_get (getI_some hc_4).2 (Pr.c_eq c_4)) rfl rfl (nle rfl) rfl (map_set (Pr.c_eq c_2)) ⟨rfl, rfl⟩) (.inl rfl) (by kernel_rfl) rfl ?_)
  rintro _ _ ⟨rfl, rfl⟩
  have hl_5 : len_1 = ((a0.set a1.toNat c_0).set a3.toNat c_2).length := by simp [hl_3]
  refine VA.done (by kernel_rfl) (thenQ_normal (VW.k4 0 1 2 4 rfl (VW.q (VO.m rfl rfl (VO.t (v := .i (w64 (a1 + 1))) (t_add rfl rfl (fun _ _ => rfl) rfl) rfl rfl (VO.m rfl rfl (VO.t (v := .i (w64 (a2 - 1))) (t_sub rfl rfl (fun _ _ => rfl) rfl) rfl rfl (VO.a (v := .i (w64 (a1 + 1))) rfl rfl (VO.a (v := .i (w64 (a2 - 1))) rfl rfl ?_)))))))))
  refine VO.n (VW.k5 0 1 4 11 12 rfl (VW.seq (VW.block (VW.k5 0 1 4 11 12 rfl ?_))))
  obtain ⟨o_6, hx_7, h⟩ := obind h
  refine VW.loopL (slices_partitionEqualCmpFunc_2int.l0_ok a4 a1 a4_f a4_a a4_c a4_g a4_k a4_h _ _ _ _ hx_7 (.own ob_1 cap_1 len_1) [(ob_1, .cells ((((a0.set a1.toNat c_0).set a3.toNat c_2).map Pr.c).flatten ++ sl_1))] (Buf.own (n := 2) (l := ((a0.set a1.toNat c_0).set a3.toNat c_2).map Pr.c) ob_1 cap_1 len_1 sl_1 (elemsOK_map Pr.c_ok _) (by simp [hl_5]) hc_1 hs_1) ?_)
  · intro bu_8 i_9 bp0_10 ho_ hbp0_10
    subst ho_
    try dsimp only at h
    refine blockQ_hit (thenQ_normal (VW.q (VO.m rfl rfl (VO.a (v := .i i_9) rfl rfl (VO.n (VW.k1 10 rfl (VW.frontS 0 rfl (VW.frontS 1 rfl (VW.ret ?_)))))))))
    obtain rfl := oi h
    exact ⟨.inr rfl, rfl, _, .i i_9, hq [bp0_10, a4_g] [], rfl, VLe.refl _, hq_sub (.cons_cons _ (.cons_cons _ .slnil)) .slnil, bp0_10, hbp0_10, rfl, rfl⟩

theorem slices_partitionCmpFunc_2int.l0_ok (a4 : Pr → Pr → Option Int) (a0 : List Pr) (a1 : Int) (a2 : Int) (a3 : Int) (c_0 : Pr) (c_1 : Pr) (a4_f : Nat) (a4_a a4_c : List VV) (a4_g : Seg) (a4_k : FnOK Tryd.prog a4_f) (a4_h : ∀ (y0 : Pr) (y1 : Pr) (z : Int), a4 y0 y1 = some z → VCalls Tryd.prog a4_f (a4_a ++ [.agg (Pr.c y0), .agg (Pr.c y1)] ++ a4_c) (hq [a4_g] []) (fun v H => .i z = v ∧ H = hq [a4_g] [])) {Q : Exit → Env → HH → Prop} :
    ∀ (i_2 : Int) (o : Int), PL.slices_partitionCmpFunc_2int.l0 a4 a0 a1 a2 a3 c_0 c_1 i_2 = some o →
    ∀ (vp0_3 : VV) (bp0_3 : Seg) (hbp0_3 : Buf 2 (((a0.set a1.toNat c_0).set a3.toNat c_1).map Pr.c) vp0_3 bp0_3) (hx0 : ∀ (i_4 : Int) (bp0_5 : Seg), i_4 = o → Buf 2 (((a0.set a1.toNat c_0).set a3.toNat c_1).map Pr.c) vp0_3 bp0_5 → Q (.exit 0) ⟨[(0, vp0_3), (1, .i a1), (4, .func (.func a4_f) a4_a a4_c), (12, .i i_4), (13, .i (w64 (a2 - 1)))], []⟩ (hq ([a4_g, bp0_5]) [])), VW Tryd.prog 178 (codeAt [1, 1, 1, 0, 0, 0] (bodyOf Tryd.f77)) (thenQ (VL Tryd.prog 178 (codeAt [1, 1, 1, 0, 0, 0] (bodyOf Tryd.f77)) Q) Q) ⟨[(0, vp0_3), (1, .i a1), (4, .func (.func a4_f) a4_a a4_c), (12, .i i_2), (13, .i (w64 (a2 - 1)))], []⟩ (hq ([bp0_3, a4_g]) []) := by
  refine PL.slices_partitionCmpFunc_2int.l0.partial_correctness a4 a0 a1 a2 a3 c_0 c_1 (motive := fun i_2 o => ∀ (vp0_3 : VV) (bp0_3 : Seg) (hbp0_3 : Buf 2 (((a0.set a1.toNat c_0).set a3.toNat c_1).map Pr.c) vp0_3 bp0_3) (hx0 : ∀ (i_4 : Int) (bp0_5 : Seg), i_4 = o → Buf 2 (((a0.set a1.toNat c_0).set a3.toNat c_1).map Pr.c) vp0_3 bp0_5 → Q (.exit 0) ⟨[(0, vp0_3), (1, .i a1), (4, .func (.func a4_f) a4_a a4_c), (12, .i i_4), (13, .i (w64 (a2 - 1)))], []⟩ (hq ([a4_g, bp0_5]) [])), VW Tryd.prog 178 (codeAt [1, 1, 1, 0, 0, 0] (bodyOf Tryd.f77)) (thenQ (VL Tryd.prog 178 (codeAt [1, 1, 1, 0, 0, 0] (bodyOf Tryd.f77)) Q) Q) ⟨[(0, vp0_3), (1, .i a1), (4, .func (.func a4_f) a4_a a4_c), (12, .i i_2), (13, .i (w64 (a2 - 1)))], []⟩ (hq ([bp0_3, a4_g]) [])) ?_
  intro _ ih i_2 o h vp0_3 bp0_3 hbp0_3 hx0
  refine VW.seq (VW.seq (VW.draw 16 mix rfl (VA.t (i := 0) rfl (t_move rfl rfl) (.inl rfl) (by kernel_rfl) (VA.t (i := 1) rfl (t_move rfl rfl) (.inl rfl) (by kernel_rfl) (VA.t (i := 2) (v := .bool (decide (i_2 ≤ (w64 (a2 - 1))))) rfl (t_cmp rfl rfl rfl rfl rfl) (.inl rfl) (by kernel_rfl) (VA.t (i := 3) rfl (t_move rfl rfl) (.inl rfl) (by kernel_rfl) ?_))))))
  refine VA.caseB (d := 35) (b := (decide (i_2 ≤ (w64 (a2 - 1))))) rfl (fun hc_6 => ?_) (fun hc_6 => ?_)
  · replace h := iteT h hc_6
    refine VA.phase (g := 3) [4, 5, 6, 7, 8, 9, 10, 11, 12] 9 (VP.take (i := 4) rfl (TOp.r (t_move rfl rfl)) (.inr ⟨_, _, _, rfl, rfl, rfl⟩) (by kernel_rfl) (VP.take (i := 5) rfl (TOp.r (t_move rfl rfl)) (.inr ⟨_, _, _, rfl, rfl, rfl⟩) (by kernel_rfl) (VP.take (i := 6) rfl (TOp.r (t_move rfl rfl)) (.inr ⟨_, _, _, rfl, rfl, rfl⟩) (by kernel_rfl) ?_)))
    obtain ⟨c_7, hc_7, h⟩ := obind h
    obtain ⟨ob_8, cap_8, len_8, sl_8, rfl, rfl, hE_8, hl_8, hc_8, hs_8⟩ := buf_at hbp0_3 hc_7
    refine VP.take (i := 7) (v := .ptr ob_8 (i_2.toNat * 2 + 0)) rfl (TOp.r (t_index_own rfl sl31 rfl rfl (getI_some hc_7).1 (by rw [hl_8]; exact getI_lt hc_7) rfl)) (.inr ⟨_, _, _, rfl, rfl, rfl⟩) (by kernel_rfl) (VP.take (i := 8) (v := .agg (Pr.c c_7)) rfl (r_load_buf (n := 2) (f := 0) (j := 0) rfl sz59 rfl rfl hE_8 (map_get (getI_some hc_7).2 (Pr.c_eq c_7)) (nle rfl) (fun _ => ofCells_agg rfl)) (.inr ⟨_, _, _, rfl, rfl, rfl⟩) (by kernel_rfl) (VP.take (i := 9) rfl (TOp.r (t_move rfl rfl)) (.inr ⟨_, _, _, rfl, rfl, rfl⟩) (by kernel_rfl) (VP.take (i := 10) rfl (TOp.r (t_move rfl rfl)) (.inr ⟨_, _, _, rfl, rfl, rfl⟩) (by kernel_rfl) ?_)))
    obtain ⟨c_9, hc_9, h⟩ := obind h
    refine VP.take (i := 11) (v := .ptr ob_8 (a1.toNat * 2 + 0)) rfl (TOp.r (t_index_own rfl sl31 rfl rfl (getI_some hc_9).1 (by rw [hl_8]; exact getI_lt hc_9) rfl)) (.inr ⟨_, _, _, rfl, rfl, rfl⟩) (by kernel_rfl) (VP.take (i := 12) (v := .agg (Pr.c c_9)) rfl (r_load_buf (n := 2) (f := 0) (j := 0) rfl sz59 rfl rfl hE_8 (map_get (getI_some hc_9).2 (Pr.c_eq c_9)) (nle rfl) (fun _ => ofCells_agg rfl)) (.inr ⟨_, _, _, rfl, rfl, rfl⟩) (by kernel_rfl) (VP.done (by kernel_rfl) (VA.frontS 1 rfl ?_)))
    obtain ⟨rv_10, hx_11, h⟩ := obind h
    refine VA.w (i := 13) (fun v H' => .i rv_10 = v ∧ H' = hq ([a4_g, [(ob_8, .cells ((((a0.set a1.toNat c_0).set a3.toNat c_1).map Pr.c).flatten ++ sl_8))]]) []) rfl (w_call_q (sa := [a4_g]) (sg := [[(ob_8, .cells ((((a0.set a1.toNat c_0).set a3.toNat c_1).map Pr.c).flatten ++ sl_8))]]) (tks := []) rfl a4_k rfl ⟨_, _, rfl, rfl, _, _, rfl, rfl, rfl⟩ (a4_h _ _ _ hx_11) (by rintro v H' ⟨rfl, rfl⟩; exact ⟨[a4_g], rfl, rfl, rfl⟩)) (.inr ⟨_, _, _, rfl, rfl, rfl⟩) (by kernel_rfl) rfl ?_
    rintro _ _ ⟨rfl, rfl⟩
    refine VA.t (i := 14) (v := .bool (decide (rv_10 < 0))) rfl (t_cmp rfl rfl rfl (fun _ _ => rfl) rfl) (.inr ⟨_, _, _, rfl, rfl, rfl⟩) (by kernel_rfl) (VA.t (i := 15) (v := .bool (decide (rv_10 < 0))) rfl (t_pick (b := true) rfl rfl (fun _ => rfl) (fun h => by cases h)) (.inl rfl) (by kernel_rfl) (VA.done (by kernel_rfl) (thenQ_normal (VW.subK (.c 0 rfl (.c 1 rfl (.c 4 rfl (.c 12 rfl (.c 13 rfl (.c 36 rfl (.c 37 rfl (.c 38 rfl (.c 39 rfl (.c 40 rfl (.c 41 rfl (.c 42 rfl (.c 43 rfl (.c 44 rfl (.c 45 rfl (.c 46 rfl (.c 47 rfl .n))))))))))))))))) rfl ?_))))
    refine VW.cond (b := (decide (rv_10 < 0))) rfl (fun hc_12 => ?_) (fun hc_12 => ?_)
    · replace h := iteT h hc_12
      refine VW.skip (thenQ_normal (VW.subK (.c 0 rfl (.c 1 rfl (.c 4 rfl (.c 12 rfl (.c 13 rfl (.c 36 rfl (.c 37 rfl (.c 38 rfl (.c 39 rfl (.c 40 rfl (.c 41 rfl (.c 42 rfl (.c 43 rfl (.c 44 rfl (.c 45 rfl (.c 46 rfl .n)))))))))))))))) rfl (VW.block (VW.region (VO.m rfl rfl (VO.t (v := .i (w64 (i_2 + 1))) (t_add rfl rfl (fun _ _ => rfl) rfl) rfl rfl (VO.a (v := .i (w64 (i_2 + 1))) rfl rfl (VO.nil (blockQ_normal ?_)))))))))
      refine thenQ_normal (VL.round ?_)
      refine VW.k5 0 1 4 12 13 rfl (VW.frontS 0 rfl (VW.frontS 1 rfl ?_))
      exact ih _ _ h (.own ob_8 cap_8 len_8) [(ob_8, .cells ((((a0.set a1.toNat c_0).set a3.toNat c_1).map Pr.c).flatten ++ sl_8))] (Buf.own (n := 2) (l := ((a0.set a1.toNat c_0).set a3.toNat c_1).map Pr.c) ob_8 cap_8 len_8 sl_8 (elemsOK_map Pr.c_ok _) (by simp [hl_8]) hc_8 hs_8) hx0
    · replace h := iteF h hc_12
      refine VW.k5 0 1 4 12 13 rfl (VW.exit (thenQ_exit (thenQ_exit ?_)))
      obtain rfl := oi h
      exact hx0 _ [(ob_8, .cells ((((a0.set a1.toNat c_0).set a3.toNat c_1).map Pr.c).flatten ++ sl_8))] rfl (Buf.own (n := 2) (l := ((a0.set a1.toNat c_0).set a3.toNat c_1).map Pr.c) ob_8 cap_8 len_8 sl_8 (elemsOK_map Pr.c_ok _) (by simp [hl_8]) hc_8 hs_8)
  · replace h := iteF h hc_6
    refine VA.s 4 rfl (by kernel_rfl) (VA.s 5 rfl (by kernel_rfl) (VA.s 6 rfl (by kernel_rfl) (VA.s 7 rfl (by kernel_rfl) (VA.s 8 rfl (by kernel_rfl) (VA.s 9 rfl (by kernel_rfl) (VA.s 10 rfl (by kernel_rfl) (VA.s 11 rfl (by kernel_rfl) (VA.s 12 rfl (by kernel_rfl) (VA.s 13 rfl (by kernel_rfl) ?_)))))))))
    refine VA.s 14 rfl (by kernel_rfl) (VA.t (i := 15) (v := .bool false) rfl (t_pick (b := false) rfl rfl (fun h => by cases h) (fun _ => (fun _ _ => rfl))) (.inl rfl) (by kernel_rfl) (VA.done (by kernel_rfl) (thenQ_normal (VW.subK (.c 0 rfl (.c 1 rfl (.c 4 rfl (.c 12 rfl (.c 13 rfl (.c 36 rfl (.c 37 rfl (.c 38 rfl (.c 39 rfl (.c 40 rfl (.c 41 rfl (.c 42 rfl (.c 43 rfl (.c 44 rfl (.c 45 rfl (.c 46 rfl (.c 47 rfl .n))))))))))))))))) rfl (VW.condF rfl (VW.k5 0 1 4 12 13 rfl (VW.frontS 0 rfl (VW.frontS 1 rfl (VW.exit ?_)))))))))
    refine thenQ_exit (thenQ_exit ?_)
    obtain rfl := oi h
    exact hx0 _ bp0_3 rfl hbp0_3

theorem slices_partitionCmpFunc_2int.l1_ok (a4 : Pr → Pr → Option Int) (a0 : List Pr) (a1 : Int) (a3 : Int) (c_0 : Pr) (c_1 : Pr) (i_2 : Int) (a4_f : Nat) (a4_a a4_c : List VV) (a4_g : Seg) (a4_k : FnOK Tryd.prog a4_f) (a4_h : ∀ (y0 : Pr) (y1 : Pr) (z : Int), a4 y0 y1 = some z → VCalls Tryd.prog a4_f (a4_a ++ [.agg (Pr.c y0), .agg (Pr.c y1)] ++ a4_c) (hq [a4_g] []) (fun v H => .i z = v ∧ H = hq [a4_g] [])) {Q : Exit → Env → HH → Prop} :
    ∀ (j_3 : Int) (o : Int), PL.slices_partitionCmpFunc_2int.l1 a4 a0 a1 a3 c_0 c_1 i_2 j_3 = some o →
    ∀ (vp0_4 : VV) (bp0_4 : Seg) (hbp0_4 : Buf 2 (((a0.set a1.toNat c_0).set a3.toNat c_1).map Pr.c) vp0_4 bp0_4) (hx0 : ∀ (j_5 : Int) (bp0_6 : Seg), j_5 = o → Buf 2 (((a0.set a1.toNat c_0).set a3.toNat c_1).map Pr.c) vp0_4 bp0_6 → Q (.exit 2) ⟨[(0, vp0_4), (1, .i a1), (4, .func (.func a4_f) a4_a a4_c), (12, .i i_2), (13, .i j_5)], []⟩ (hq ([a4_g, bp0_6]) [])), VW Tryd.prog 178 (codeAt [1, 1, 1, 1, 0, 0, 0] (bodyOf Tryd.f77)) (thenQ (VL Tryd.prog 178 (codeAt [1, 1, 1, 1, 0, 0, 0] (bodyOf Tryd.f77)) Q) Q) ⟨[(0, vp0_4), (1, .i a1), (4, .func (.func a4_f) a4_a a4_c), (12, .i i_2), (13, .i j_3)], []⟩ (hq ([a4_g, bp0_4]) []) := by
  refine PL.slices_partitionCmpFunc_2int.l1.partial_correctness a4 a0 a1 a3 c_0 c_1 i_2 (motive := fun j_3 o => ∀ (vp0_4 : VV) (bp0_4 : Seg) (hbp0_4 : Buf 2 (((a0.set a1.toNat c_0).set a3.toNat c_1).map Pr.c) vp0_4 bp0_4) (hx0 : ∀ (j_5 : Int) (bp0_6 : Seg), j_5 = o → Buf 2 (((a0.set a1.toNat c_0).set a3.toNat c_1).map Pr.c) vp0_4 bp0_6 → Q (.exit 2) ⟨[(0, vp0_4), (1, .i a1), (4, .func (.func a4_f) a4_a a4_c), (12, .i i_2), (13, .i j_5)], []⟩ (hq ([a4_g, bp0_6]) [])), VW Tryd.prog 178 (codeAt [1, 1, 1, 1, 0, 0, 0] (bodyOf Tryd.f77)) (thenQ (VL Tryd.prog 178 (codeAt [1, 1, 1, 1, 0, 0, 0] (bodyOf Tryd.f77)) Q) Q) ⟨[(0, vp0_4), (1, .i a1), (4, .func (.func a4_f) a4_a a4_c), (12, .i i_2), (13, .i j_3)], []⟩ (hq ([a4_g, bp0_4]) [])) ?_
  intro _ ih j_3 o h vp0_4 bp0_4 hbp0_4 hx0
  refine VW.seq (VW.seq (VW.draw 17 mix rfl (VA.t (i := 0) rfl (t_move rfl rfl) (.inl rfl) (by kernel_rfl) (VA.t (i := 1) rfl (t_move rfl rfl) (.inl rfl) (by kernel_rfl) (VA.t (i := 2) (v := .bool (decide (i_2 ≤ j_3))) rfl (t_cmp rfl rfl rfl rfl rfl) (.inl rfl) (by kernel_rfl) (VA.t (i := 3) rfl (t_move rfl rfl) (.inl rfl) (by kernel_rfl) ?_))))))
  refine VA.caseB (d := 53) (b := (decide (i_2 ≤ j_3))) rfl (fun hc_7 => ?_) (fun hc_7 => ?_)
  · replace h := iteT h hc_7
    refine VA.phase (g := 4) [4, 5, 6, 7, 8, 9, 10, 11, 12] 9 (VP.take (i := 4) rfl (TOp.r (t_move rfl rfl)) (.inr ⟨_, _, _, rfl, rfl, rfl⟩) (by kernel_rfl) (VP.take (i := 5) rfl (TOp.r (t_move rfl rfl)) (.inr ⟨_, _, _, rfl, rfl, rfl⟩) (by kernel_rfl) (VP.take (i := 6) rfl (TOp.r (t_move rfl rfl)) (.inr ⟨_, _, _, rfl, rfl, rfl⟩) (by kernel_rfl) ?_)))
    obtain ⟨c_8, hc_8, h⟩ := obind h
    obtain ⟨ob_9, cap_9, len_9, sl_9, rfl, rfl, hE_9, hl_9, hc_9, hs_9⟩ := buf_at hbp0_4 hc_8
    refine VP.take (i := 7) (v := .ptr ob_9 (j_3.toNat * 2 + 0)) rfl (TOp.r (t_index_own rfl sl31 rfl rfl (getI_some hc_8).1 (by rw [hl_9]; exact getI_lt hc_8) rfl)) (.inr ⟨_, _, _, rfl, rfl, rfl⟩) (by kernel_rfl) (VP.take (i := 8) (v := .agg (Pr.c c_8)) rfl (r_load_buf (n := 2) (f := 0) (j := 1) rfl sz59 rfl rfl hE_9 (map_get (getI_some hc_8).2 (Pr.c_eq c_8)) (nle rfl) (fun _ => ofCells_agg rfl)) (.inr ⟨_, _, _, rfl, rfl, rfl⟩) (by kernel_rfl) (VP.take (i := 9) rfl (TOp.r (t_move rfl rfl)) (.inr ⟨_, _, _, rfl, rfl, rfl⟩) (by kernel_rfl) (VP.take (i := 10) rfl (TOp.r (t_move rfl rfl)) (.inr ⟨_, _, _, rfl, rfl, rfl⟩) (by kernel_rfl) ?_)))
    obtain ⟨c_10, hc_10, h⟩ := obind h
    refine VP.take (i := 11) (v := .ptr ob_9 (a1.toNat * 2 + 0)) rfl (TOp.r (t_index_own rfl sl31 rfl rfl (getI_some hc_10).1 (by rw [hl_9]; exact getI_lt hc_10) rfl)) (.inr ⟨_, _, _, rfl, rfl, rfl⟩) (by kernel_rfl) (VP.take (i := 12) (v := .agg (Pr.c c_10)) rfl (r_load_buf (n := 2) (f := 0) (j := 1) rfl sz59 rfl rfl hE_9 (map_get (getI_some hc_10).2 (Pr.c_eq c_10)) (nle rfl) (fun _ => ofCells_agg rfl)) (.inr ⟨_, _, _, rfl, rfl, rfl⟩) (by kernel_rfl) (VP.done (by kernel_rfl) ?_))
    obtain ⟨rv_11, hx_12, h⟩ := obind h
    refine VA.w (i := 13) (fun v H' => .i rv_11 = v ∧ H' = hq ([a4_g, [(ob_9, .cells ((((a0.set a1.toNat c_0).set a3.toNat c_1).map Pr.c).flatten ++ sl_9))]]) []) rfl (w_call_q (sa := [a4_g]) (sg := [[(ob_9, .cells ((((a0.set a1.toNat c_0).set a3.toNat c_1).map Pr.c).flatten ++ sl_9))]]) (tks := []) rfl a4_k rfl ⟨_, _, rfl, rfl, _, _, rfl, rfl, rfl⟩ (a4_h _ _ _ hx_12) (by rintro v H' ⟨rfl, rfl⟩; exact ⟨[a4_g], rfl, rfl, rfl⟩)) (.inr ⟨_, _, _, rfl, rfl, rfl⟩) (by kernel_rfl) rfl ?_
    rintro _ _ ⟨rfl, rfl⟩
    refine VA.t (i := 14) (v := .bool (decide (rv_11 < 0))) rfl (t_cmp rfl rfl rfl (fun _ _ => rfl) rfl) (.inr ⟨_, _, _, rfl, rfl, rfl⟩) (by kernel_rfl) (VA.t (i := 15) (v := .bool (!(decide (rv_11 < 0)))) rfl (t_not rfl rfl rfl) (.inr ⟨_, _, _, rfl, rfl, rfl⟩) (by kernel_rfl) (VA.t (i := 16) (v := .bool (!(decide (rv_11 < 0)))) rfl (t_pick (b := true) rfl rfl (fun _ => rfl) (fun h => by cases h)) (.inl rfl) (by kernel_rfl) (VA.done (by kernel_rfl) (thenQ_normal (VW.subK (.c 0 rfl (.c 1 rfl (.c 4 rfl (.c 12 rfl (.c 13 rfl (.c 54 rfl (.c 55 rfl (.c 56 rfl (.c 57 rfl (.c 58 rfl (.c 59 rfl (.c 60 rfl (.c 61 rfl (.c 62 rfl (.c 63 rfl (.c 64 rfl (.c 65 rfl (.c 66 rfl .n)))))))))))))))))) rfl ?_)))))
    refine VW.cond (b := (!(decide (rv_11 < 0)))) rfl (fun hc_13 => ?_) (fun hc_13 => ?_)
    · replace h := iteT h hc_13
      refine VW.skip (thenQ_normal (VW.subK (.c 0 rfl (.c 1 rfl (.c 4 rfl (.c 12 rfl (.c 13 rfl (.c 54 rfl (.c 55 rfl (.c 56 rfl (.c 57 rfl (.c 58 rfl (.c 59 rfl (.c 60 rfl (.c 61 rfl (.c 62 rfl (.c 63 rfl (.c 64 rfl (.c 65 rfl .n))))))))))))))))) rfl (VW.block (VW.region (VO.m rfl rfl (VO.t (v := .i (w64 (j_3 - 1))) (t_sub rfl rfl (fun _ _ => rfl) rfl) rfl rfl (VO.a (v := .i (w64 (j_3 - 1))) rfl rfl (VO.nil (blockQ_normal ?_)))))))))
      refine thenQ_normal (VL.round ?_)
      refine VW.k5 0 1 4 12 13 rfl ?_
      exact ih _ _ h (.own ob_9 cap_9 len_9) [(ob_9, .cells ((((a0.set a1.toNat c_0).set a3.toNat c_1).map Pr.c).flatten ++ sl_9))] (Buf.own (n := 2) (l := ((a0.set a1.toNat c_0).set a3.toNat c_1).map Pr.c) ob_9 cap_9 len_9 sl_9 (elemsOK_map Pr.c_ok _) (by simp [hl_9]) hc_9 hs_9) hx0
    · replace h := iteF h hc_13
      refine VW.k5 0 1 4 12 13 rfl (VW.exit (thenQ_exit (thenQ_exit ?_)))
      obtain rfl := oi h
      exact hx0 _ [(ob_9, .cells ((((a0.set a1.toNat c_0).set a3.toNat c_1).map Pr.c).flatten ++ sl_9))] rfl (Buf.own (n := 2) (l := ((a0.set a1.toNat c_0).set a3.toNat c_1).map Pr.c) ob_9 cap_9 len_9 sl_9 (elemsOK_map Pr.c_ok _) (by simp [hl_9]) hc_9 hs_9)
  · replace h := iteF h hc_7
    refine VA.s 4 rfl (by kernel_rfl) (VA.s 5 rfl (by kernel_rfl) (VA.s 6 rfl (by kernel_rfl) (VA.s 7 rfl (by kernel_rfl) (VA.s 8 rfl (by kernel_rfl) (VA.s 9 rfl (by kernel_rfl) (VA.s 10 rfl (by kernel_rfl) (VA.s 11 rfl (by kernel_rfl) (VA.s 12 rfl (by kernel_rfl) (VA.s 13 rfl (by kernel_rfl) ?_)))))))))
    refine VA.s 14 rfl (by kernel_rfl) (VA.s 15 rfl (by kernel_rfl) (VA.t (i := 16) (v := .bool false) rfl (t_pick (b := false) rfl rfl (fun h => by cases h) (fun _ => (fun _ _ => rfl))) (.inl rfl) (by kernel_rfl) (VA.done (by kernel_rfl) (thenQ_normal (VW.subK (.c 0 rfl (.c 1 rfl (.c 4 rfl (.c 12 rfl (.c 13 rfl (.c 54 rfl (.c 55 rfl (.c 56 rfl (.c 57 rfl (.c 58 rfl (.c 59 rfl (.c 60 rfl (.c 61 rfl (.c 62 rfl (.c 63 rfl (.c 64 rfl (.c 65 rfl (.c 66 rfl .n)))))))))))))))))) rfl (VW.condF rfl (VW.k5 0 1 4 12 13 rfl (VW.exit (thenQ_exit ?_)))))))))
    refine thenQ_exit ?_
    obtain rfl := oi h
    exact hx0 _ bp0_4 rfl hbp0_4

theorem slices_partitionCmpFunc_2int.l3_ok (a4 : Pr → Pr → Option Int) (a1 : Int) (bu_0 : List Pr) (j_1 : Int) (a4_f : Nat) (a4_a a4_c : List VV) (a4_g : Seg) (a4_k : FnOK Tryd.prog a4_f) (a4_h : ∀ (y0 : Pr) (y1 : Pr) (z : Int), a4 y0 y1 = some z → VCalls Tryd.prog a4_f (a4_a ++ [.agg (Pr.c y0), .agg (Pr.c y1)] ++ a4_c) (hq [a4_g] []) (fun v H => .i z = v ∧ H = hq [a4_g] [])) {Q : Exit → Env → HH → Prop} :
    ∀ (i_2 : Int) (o : Int), PL.slices_partitionCmpFunc_2int.l3 a4 a1 bu_0 j_1 i_2 = some o →
    ∀ (vp0_3 : VV) (bp0_3 : Seg) (hbp0_3 : Buf 2 (bu_0.map Pr.c) vp0_3 bp0_3) (hx0 : ∀ (i_4 : Int) (bp0_5 : Seg), i_4 = o → Buf 2 (bu_0.map Pr.c) vp0_3 bp0_5 → Q (.exit 6) ⟨[(0, vp0_3), (1, .i a1), (4, .func (.func a4_f) a4_a a4_c), (12, .i i_4), (13, .i j_1)], []⟩ (hq ([a4_g, bp0_5]) [])), VW Tryd.prog 178 (codeAt [1, 1, 1, 1, 1, 1, 1, 1, 1, 0, 0, 0, 0, 0, 0, 0] (bodyOf Tryd.f77)) (thenQ (VL Tryd.prog 178 (codeAt [1, 1, 1, 1, 1, 1, 1, 1, 1, 0, 0, 0, 0, 0, 0, 0] (bodyOf Tryd.f77)) Q) Q) ⟨[(0, vp0_3), (1, .i a1), (4, .func (.func a4_f) a4_a a4_c), (12, .i i_2), (13, .i j_1)], []⟩ (hq ([a4_g, bp0_3]) []) := by
  refine PL.slices_partitionCmpFunc_2int.l3.partial_correctness a4 a1 bu_0 j_1 (motive := fun i_2 o => ∀ (vp0_3 : VV) (bp0_3 : Seg) (hbp0_3 : Buf 2 (bu_0.map Pr.c) vp0_3 bp0_3) (hx0 : ∀ (i_4 : Int) (bp0_5 : Seg), i_4 = o → Buf 2 (bu_0.map Pr.c) vp0_3 bp0_5 → Q (.exit 6) ⟨[(0, vp0_3), (1, .i a1), (4, .func (.func a4_f) a4_a a4_c), (12, .i i_4), (13, .i j_1)], []⟩ (hq ([a4_g, bp0_5]) [])), VW Tryd.prog 178 (codeAt [1, 1, 1, 1, 1, 1, 1, 1, 1, 0, 0, 0, 0, 0, 0, 0] (bodyOf Tryd.f77)) (thenQ (VL Tryd.prog 178 (codeAt [1, 1, 1, 1, 1, 1, 1, 1, 1, 0, 0, 0, 0, 0, 0, 0] (bodyOf Tryd.f77)) Q) Q) ⟨[(0, vp0_3), (1, .i a1), (4, .func (.func a4_f) a4_a a4_c), (12, .i i_2), (13, .i j_1)], []⟩ (hq ([a4_g, bp0_3]) [])) ?_
  intro _ ih i_2 o h vp0_3 bp0_3 hbp0_3 hx0
  refine VW.seq (VW.seq (VW.draw 16 mix rfl (VA.t (i := 0) rfl (t_move rfl rfl) (.inl rfl) (by kernel_rfl) (VA.t (i := 1) rfl (t_move rfl rfl) (.inl rfl) (by kernel_rfl) (VA.t (i := 2) (v := .bool (decide (i_2 ≤ j_1))) rfl (t_cmp rfl rfl rfl rfl rfl) (.inl rfl) (by kernel_rfl) (VA.t (i := 3) rfl (t_move rfl rfl) (.inl rfl) (by kernel_rfl) ?_))))))
  refine VA.caseB (d := 108) (b := (decide (i_2 ≤ j_1))) rfl (fun hc_6 => ?_) (fun hc_6 => ?_)
  · replace h := iteT h hc_6
    refine VA.phase (g := 3) [4, 5, 6, 7, 8, 9, 10, 11, 12] 9 (VP.take (i := 4) rfl (TOp.r (t_move rfl rfl)) (.inr ⟨_, _, _, rfl, rfl, rfl⟩) (by kernel_rfl) (VP.take (i := 5) rfl (TOp.r (t_move rfl rfl)) (.inr ⟨_, _, _, rfl, rfl, rfl⟩) (by kernel_rfl) (VP.take (i := 6) rfl (TOp.r (t_move rfl rfl)) (.inr ⟨_, _, _, rfl, rfl, rfl⟩) (by kernel_rfl) ?_)))
    obtain ⟨c_7, hc_7, h⟩ := obind h
    obtain ⟨ob_8, cap_8, len_8, sl_8, rfl, rfl, hE_8, hl_8, hc_8, hs_8⟩ := buf_at hbp0_3 hc_7
    refine VP.take (i := 7) (v := .ptr ob_8 (i_2.toNat * 2 + 0)) rfl (TOp.r (t_index_own rfl sl31 rfl rfl (getI_some hc_7).1 (by rw [hl_8]; exact getI_lt hc_7) rfl)) (.inr ⟨_, _, _, rfl, rfl, rfl⟩) (by kernel_rfl) (VP.take (i := 8) (v := .agg (Pr.c c_7)) rfl (r_load_buf (n := 2) (f := 0) (j := 1) rfl sz59 rfl rfl hE_8 (map_get (getI_some hc_7).2 (Pr.c_eq c_7)) (nle rfl) (fun _ => ofCells_agg rfl)) (.inr ⟨_, _, _, rfl, rfl, rfl⟩) (by kernel_rfl) (VP.take (i := 9) rfl (TOp.r (t_move rfl rfl)) (.inr ⟨_, _, _, rfl, rfl, rfl⟩) (by kernel_rfl) (VP.take (i := 10) rfl (TOp.r (t_move rfl rfl)) (.inr ⟨_, _, _, rfl, rfl, rfl⟩) (by kernel_rfl) ?_)))
    obtain ⟨c_9, hc_9, h⟩ := obind h
    refine VP.take (i := 11) (v := .ptr ob_8 (a1.toNat * 2 + 0)) rfl (TOp.r (t_index_own rfl sl31 rfl rfl (getI_some hc_9).1 (by rw [hl_8]; exact getI_lt hc_9) rfl)) (.inr ⟨_, _, _, rfl, rfl, rfl⟩) (by kernel_rfl) (VP.take (i := 12) (v := .agg (Pr.c c_9)) rfl (r_load_buf (n := 2) (f := 0) (j := 1) rfl sz59 rfl rfl hE_8 (map_get (getI_some hc_9).2 (Pr.c_eq c_9)) (nle rfl) (fun _ => ofCells_agg rfl)) (.inr ⟨_, _, _, rfl, rfl, rfl⟩) (by kernel_rfl) (VP.done (by kernel_rfl) ?_))
    obtain ⟨rv_10, hx_11, h⟩ := obind h
    refine VA.w (i := 13) (fun v H' => .i rv_10 = v ∧ H' = hq ([a4_g, [(ob_8, .cells ((bu_0.map Pr.c).flatten ++ sl_8))]]) []) rfl (w_call_q (sa := [a4_g]) (sg := [[(ob_8, .cells ((bu_0.map Pr.c).flatten ++ sl_8))]]) (tks := []) rfl a4_k rfl ⟨_, _, rfl, rfl, _, _, rfl, rfl, rfl⟩ (a4_h _ _ _ hx_11) (by rintro v H' ⟨rfl, rfl⟩; exact ⟨[a4_g], rfl, rfl, rfl⟩)) (.inr ⟨_, _, _, rfl, rfl, rfl⟩) (by kernel_rfl) rfl ?_
    rintro _ _ ⟨rfl, rfl⟩
    refine VA.t (i := 14) (v := .bool (decide (rv_10 < 0))) rfl (t_cmp rfl rfl rfl (fun _ _ => rfl) rfl) (.inr ⟨_, _, _, rfl, rfl, rfl⟩) (by kernel_rfl) (VA.t (i := 15) (v := .bool (decide (rv_10 < 0))) rfl (t_pick (b := true) rfl rfl (fun _ => rfl) (fun h => by cases h)) (.inl rfl) (by kernel_rfl) (VA.done (by kernel_rfl) (thenQ_normal (VW.subK (.c 0 rfl (.c 1 rfl (.c 4 rfl (.c 12 rfl (.c 13 rfl (.c 109 rfl (.c 110 rfl (.c 111 rfl (.c 112 rfl (.c 113 rfl (.c 114 rfl (.c 115 rfl (.c 116 rfl (.c 117 rfl (.c 118 rfl (.c 119 rfl (.c 120 rfl .n))))))))))))))))) rfl ?_))))
    refine VW.cond (b := (decide (rv_10 < 0))) rfl (fun hc_12 => ?_) (fun hc_12 => ?_)
    · replace h := iteT h hc_12
      refine VW.skip (thenQ_normal (VW.subK (.c 0 rfl (.c 1 rfl (.c 4 rfl (.c 12 rfl (.c 13 rfl (.c 109 rfl (.c 110 rfl (.c 111 rfl (.c 112 rfl (.c 113 rfl (.c 114 rfl (.c 115 rfl (.c 116 rfl (.c 117 rfl (.c 118 rfl (.c 119 rfl .n)))))))))))))))) rfl (VW.block (VW.region (VO.m rfl rfl (VO.t (v := .i (w64 (i_2 + 1))) (t_add rfl rfl (fun _ _ => rfl) rfl) rfl rfl (VO.a (v := .i (w64 (i_2 + 1))) rfl rfl (VO.nil (blockQ_normal ?_)))))))))
      refine thenQ_normal (VL.round ?_)
      refine VW.k5 0 1 4 12 13 rfl ?_
      exact ih _ _ h (.own ob_8 cap_8 len_8) [(ob_8, .cells ((bu_0.map Pr.c).flatten ++ sl_8))] (Buf.own (n := 2) (l := bu_0.map Pr.c) ob_8 cap_8 len_8 sl_8 (elemsOK_map Pr.c_ok _) (by simp [hl_8]) hc_8 hs_8) hx0
    · replace h := iteF h hc_12
      refine VW.k5 0 1 4 12 13 rfl (VW.exit (thenQ_exit (thenQ_exit ?_)))
      obtain rfl := oi h
      exact hx0 _ [(ob_8, .cells ((bu_0.map Pr.c).flatten ++ sl_8))] rfl (Buf.own (n := 2) (l := bu_0.map Pr.c) ob_8 cap_8 len_8 sl_8 (elemsOK_map Pr.c_ok _) (by simp [hl_8]) hc_8 hs_8)
  · replace h := iteF h hc_6
    refine VA.s 4 rfl (by kernel_rfl) (VA.s 5 rfl (by kernel_rfl) (VA.s 6 rfl (by kernel_rfl) (VA.s 7 rfl (by kernel_rfl) (VA.s 8 rfl (by kernel_rfl) (VA.s 9 rfl (by kernel_rfl) (VA.s 10 rfl (by kernel_rfl) (VA.s 11 rfl (by kernel_rfl) (VA.s 12 rfl (by kernel_rfl) (VA.s 13 rfl (by kernel_rfl) ?_)))))))))
    refine VA.s 14 rfl (by kernel_rfl) (VA.t (i := 15) (v := .bool false) rfl (t_pick (b := false) rfl rfl (fun h => by cases h) (fun _ => (fun _ _ => rfl))) (.inl rfl) (by kernel_rfl) (VA.done (by kernel_rfl) (thenQ_normal (VW.subK (.c 0 rfl (.c 1 rfl (.c 4 rfl (.c 12 rfl (.c 13 rfl (.c 109 rfl (.c 110 rfl (.c 111 rfl (.c 112 rfl (.c 113 rfl (.c 114 rfl (.c 115 rfl (.c 116 rfl (.c 117 rfl (.c 118 rfl (.c 119 rfl (.c 120 rfl .n))))))))))))))))) rfl (VW.condF rfl (VW.k5 0 1 4 12 13 rfl (VW.exit (thenQ_exit (thenQ_exit ?_)))))))))
    obtain rfl := oi h
    exact hx0 _ bp0_3 rfl hbp0_3

theorem slices_partitionCmpFunc_2int.l4_ok (a4 : Pr → Pr → Option Int) (a1 : Int) (bu_0 : List Pr) (i_1 : Int) (a4_f : Nat) (a4_a a4_c : List VV) (a4_g : Seg) (a4_k : FnOK Tryd.prog a4_f) (a4_h : ∀ (y0 : Pr) (y1 : Pr) (z : Int), a4 y0 y1 = some z → VCalls Tryd.prog a4_f (a4_a ++ [.agg (Pr.c y0), .agg (Pr.c y1)] ++ a4_c) (hq [a4_g] []) (fun v H => .i z = v ∧ H = hq [a4_g] [])) {Q : Exit → Env → HH → Prop} :
    ∀ (j_2 : Int) (o : Int), PL.slices_partitionCmpFunc_2int.l4 a4 a1 bu_0 i_1 j_2 = some o →
    ∀ (vp0_3 : VV) (bp0_3 : Seg) (hbp0_3 : Buf 2 (bu_0.map Pr.c) vp0_3 bp0_3) (hx0 : ∀ (j_4 : Int) (bp0_5 : Seg), j_4 = o → Buf 2 (bu_0.map Pr.c) vp0_3 bp0_5 → Q (.exit 8) ⟨[(0, vp0_3), (1, .i a1), (4, .func (.func a4_f) a4_a a4_c), (12, .i i_1), (13, .i j_4)], []⟩ (hq ([a4_g, bp0_5]) [])), VW Tryd.prog 178 (codeAt [1, 1, 1, 1, 1, 1, 1, 1, 1, 0, 0, 0, 0, 1, 0, 0, 0] (bodyOf Tryd.f77)) (thenQ (VL Tryd.prog 178 (codeAt [1, 1, 1, 1, 1, 1, 1, 1, 1, 0, 0, 0, 0, 1, 0, 0, 0] (bodyOf Tryd.f77)) Q) Q) ⟨[(0, vp0_3), (1, .i a1), (4, .func (.func a4_f) a4_a a4_c), (12, .i i_1), (13, .i j_2)], []⟩ (hq ([a4_g, bp0_3]) []) := by
  refine PL.slices_partitionCmpFunc_2int.l4.partial_correctness a4 a1 bu_0 i_1 (motive := fun j_2 o => ∀ (vp0_3 : VV) (bp0_3 : Seg) (hbp0_3 : Buf 2 (bu_0.map Pr.c) vp0_3 bp0_3) (hx0 : ∀ (j_4 : Int) (bp0_5 : Seg), j_4 = o → Buf 2 (bu_0.map Pr.c) vp0_3 bp0_5 → Q (.exit 8) ⟨[(0, vp0_3), (1, .i a1), (4, .func (.func a4_f) a4_a a4_c), (12, .i i_1), (13, .i j_4)], []⟩ (hq ([a4_g, bp0_5]) [])), VW Tryd.prog 178 (codeAt [1, 1, 1, 1, 1, 1, 1, 1, 1, 0, 0, 0, 0, 1, 0, 0, 0] (bodyOf Tryd.f77)) (thenQ (VL Tryd.prog 178 (codeAt [1, 1, 1, 1, 1, 1, 1, 1, 1, 0, 0, 0, 0, 1, 0, 0, 0] (bodyOf Tryd.f77)) Q) Q) ⟨[(0, vp0_3), (1, .i a1), (4, .func (.func a4_f) a4_a a4_c), (12, .i i_1), (13, .i j_2)], []⟩ (hq ([a4_g, bp0_3]) [])) ?_
  intro _ ih j_2 o h vp0_3 bp0_3 hbp0_3 hx0
  refine VW.seq (VW.seq (VW.draw 17 mix rfl (VA.t (i := 0) rfl (t_move rfl rfl) (.inl rfl) (by kernel_rfl) (VA.t (i := 1) rfl (t_move rfl rfl) (.inl rfl) (by kernel_rfl) (VA.t (i := 2) (v := .bool (decide (i_1 ≤ j_2))) rfl (t_cmp rfl rfl rfl rfl rfl) (.inl rfl) (by kernel_rfl) (VA.t (i := 3) rfl (t_move rfl rfl) (.inl rfl) (by kernel_rfl) ?_))))))
  refine VA.caseB (d := 126) (b := (decide (i_1 ≤ j_2))) rfl (fun hc_6 => ?_) (fun hc_6 => ?_)
  · replace h := iteT h hc_6
    refine VA.phase (g := 4) [4, 5, 6, 7, 8, 9, 10, 11, 12] 9 (VP.take (i := 4) rfl (TOp.r (t_move rfl rfl)) (.inr ⟨_, _, _, rfl, rfl, rfl⟩) (by kernel_rfl) (VP.take (i := 5) rfl (TOp.r (t_move rfl rfl)) (.inr ⟨_, _, _, rfl, rfl, rfl⟩) (by kernel_rfl) (VP.take (i := 6) rfl (TOp.r (t_move rfl rfl)) (.inr ⟨_, _, _, rfl, rfl, rfl⟩) (by kernel_rfl) ?_)))
    obtain ⟨c_7, hc_7, h⟩ := obind h
    obtain ⟨ob_8, cap_8, len_8, sl_8, rfl, rfl, hE_8, hl_8, hc_8, hs_8⟩ := buf_at hbp0_3 hc_7
    refine VP.take (i := 7) (v := .ptr ob_8 (j_2.toNat * 2 + 0)) rfl (TOp.r (t_index_own rfl sl31 rfl rfl (getI_some hc_7).1 (by rw [hl_8]; exact getI_lt hc_7) rfl)) (.inr ⟨_, _, _, rfl, rfl, rfl⟩) (by kernel_rfl) (VP.take (i := 8) (v := .agg (Pr.c c_7)) rfl (r_load_buf (n := 2) (f := 0) (j := 1) rfl sz59 rfl rfl hE_8 (map_get (getI_some hc_7).2 (Pr.c_eq c_7)) (nle rfl) (fun _ => ofCells_agg rfl)) (.inr ⟨_, _, _, rfl, rfl, rfl⟩) (by kernel_rfl) (VP.take (i := 9) rfl (TOp.r (t_move rfl rfl)) (.inr ⟨_, _, _, rfl, rfl, rfl⟩) (by kernel_rfl) (VP.take (i := 10) rfl (TOp.r (t_move rfl rfl)) (.inr ⟨_, _, _, rfl, rfl, rfl⟩) (by kernel_rfl) ?_)))
    obtain ⟨c_9, hc_9, h⟩ := obind h
    refine VP.take (i := 11) (v := .ptr ob_8 (a1.toNat * 2 + 0)) rfl (TOp.r (t_index_own rfl sl31 rfl rfl (getI_some hc_9).1 (by rw [hl_8]; exact getI_lt hc_9) rfl)) (.inr ⟨_, _, _, rfl, rfl, rfl⟩) (by kernel_rfl) (VP.take (i := 12) (v := .agg (Pr.c c_9)) rfl (r_load_buf (n := 2) (f := 0) (j := 1) rfl sz59 rfl rfl hE_8 (map_get (getI_some hc_9).2 (Pr.c_eq c_9)) (nle rfl) (fun _ => ofCells_agg rfl)) (.inr ⟨_, _, _, rfl, rfl, rfl⟩) (by kernel_rfl) (VP.done (by kernel_rfl) ?_))
    obtain ⟨rv_10, hx_11, h⟩ := obind h
    refine VA.w (i := 13) (fun v H' => .i rv_10 = v ∧ H' = hq ([a4_g, [(ob_8, .cells ((bu_0.map Pr.c).flatten ++ sl_8))]]) []) rfl (w_call_q (sa := [a4_g]) (sg := [[(ob_8, .cells ((bu_0.map Pr.c).flatten ++ sl_8))]]) (tks := []) rfl a4_k rfl ⟨_, _, rfl, rfl, _, _, rfl, rfl, rfl⟩ (a4_h _ _ _ hx_11) (by rintro v H' ⟨rfl, rfl⟩; exact ⟨[a4_g], rfl, rfl, rfl⟩)) (.inr ⟨_, _, _, rfl, rfl, rfl⟩) (by kernel_rfl) rfl ?_
    rintro _ _ ⟨rfl, rfl⟩
    refine VA.t (i := 14) (v := .bool (decide (rv_10 < 0))) rfl (t_cmp rfl rfl rfl (fun _ _ => rfl) rfl) (.inr ⟨_, _, _, rfl, rfl, rfl⟩) (by kernel_rfl) (VA.t (i := 15) (v := .bool (!(decide (rv_10 < 0)))) rfl (t_not rfl rfl rfl) (.inr ⟨_, _, _, rfl, rfl, rfl⟩) (by kernel_rfl) (VA.t (i := 16) (v := .bool (!(decide (rv_10 < 0)))) rfl (t_pick (b := true) rfl rfl (fun _ => rfl) (fun h => by cases h)) (.inl rfl) (by kernel_rfl) (VA.done (by kernel_rfl) (thenQ_normal (VW.subK (.c 0 rfl (.c 1 rfl (.c 4 rfl (.c 12 rfl (.c 13 rfl (.c 127 rfl (.c 128 rfl (.c 129 rfl (.c 130 rfl (.c 131 rfl (.c 132 rfl (.c 133 rfl (.c 134 rfl (.c 135 rfl (.c 136 rfl (.c 137 rfl (.c 138 rfl (.c 139 rfl .n)))))))))))))))))) rfl ?_)))))
    refine VW.cond (b := (!(decide (rv_10 < 0)))) rfl (fun hc_12 => ?_) (fun hc_12 => ?_)
    · replace h := iteT h hc_12
      refine VW.skip (thenQ_normal (VW.subK (.c 0 rfl (.c 1 rfl (.c 4 rfl (.c 12 rfl (.c 13 rfl (.c 127 rfl (.c 128 rfl (.c 129 rfl (.c 130 rfl (.c 131 rfl (.c 132 rfl (.c 133 rfl (.c 134 rfl (.c 135 rfl (.c 136 rfl (.c 137 rfl (.c 138 rfl .n))))))))))))))))) rfl (VW.block (VW.region (VO.m rfl rfl (VO.t (v := .i (w64 (j_2 - 1))) (t_sub rfl rfl (fun _ _ => rfl) rfl) rfl rfl (VO.a (v := .i (w64 (j_2 - 1))) rfl rfl (VO.nil (blockQ_normal ?_)))))))))
      refine thenQ_normal (VL.round ?_)
      refine VW.k5 0 1 4 12 13 rfl ?_
      exact ih _ _ h (.own ob_8 cap_8 len_8) [(ob_8, .cells ((bu_0.map Pr.c).flatten ++ sl_8))] (Buf.own (n := 2) (l := bu_0.map Pr.c) ob_8 cap_8 len_8 sl_8 (elemsOK_map Pr.c_ok _) (by simp [hl_8]) hc_8 hs_8) hx0
    · replace h := iteF h hc_12
      refine VW.k5 0 1 4 12 13 rfl (VW.exit (thenQ_exit (thenQ_exit ?_)))
      obtain rfl := oi h
      exact hx0 _ [(ob_8, .cells ((bu_0.map Pr.c).flatten ++ sl_8))] rfl (Buf.own (n := 2) (l := bu_0.map Pr.c) ob_8 cap_8 len_8 sl_8 (elemsOK_map Pr.c_ok _) (by simp [hl_8]) hc_8 hs_8)
  · replace h := iteF h hc_6
    refine VA.s 4 rfl (by kernel_rfl) (VA.s 5 rfl (by kernel_rfl) (VA.s 6 rfl (by kernel_rfl) (VA.s 7 rfl (by kernel_rfl) (VA.s 8 rfl (by kernel_rfl) (VA.s 9 rfl (by kernel_rfl) (VA.s 10 rfl (by kernel_rfl) (VA.s 11 rfl (by kernel_rfl) (VA.s 12 rfl (by kernel_rfl) (VA.s 13 rfl (by kernel_rfl) ?_)))))))))
    refine VA.s 14 rfl (by kernel_rfl) (VA.s 15 rfl (by kernel_rfl) (VA.t (i := 16) (v := .bool false) rfl (t_pick (b := false) rfl rfl (fun h => by cases h) (fun _ => (fun _ _ => rfl))) (.inl rfl) (by kernel_rfl) (VA.done (by kernel_rfl) (thenQ_normal (VW.subK (.c 0 rfl (.c 1 rfl (.c 4 rfl (.c 12 rfl (.c 13 rfl (.c 127 rfl (.c 128 rfl (.c 129 rfl (.c 130 rfl (.c 131 rfl (.c 132 rfl (.c 133 rfl (.c 134 rfl (.c 135 rfl (.c 136 rfl (.c 137 rfl (.c 138 rfl (.c 139 rfl .n)))))))))))))))))) rfl (VW.condF rfl (VW.k5 0 1 4 12 13 rfl (VW.exit (thenQ_exit ?_)))))))))
    refine thenQ_exit ?_
    obtain rfl := oi h
    exact hx0 _ bp0_3 rfl hbp0_3

end Go.AV
