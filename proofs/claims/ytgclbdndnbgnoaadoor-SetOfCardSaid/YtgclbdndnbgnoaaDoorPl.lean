/- Plain functions: what the code computes. -/
import Derived.Test.YtgclbdndnbgnoaaDoorXp
namespace Go.AV
set_option linter.all false

structure Node where
  Op : Int
  Lo : Int
  Hi : Int
  Kids : List Node
  deriving Inhabited

structure Pr where
  x0 : Int
  x1 : Int
  deriving Inhabited, DecidableEq

structure GoType where
  Kind : Int
  Name : ByteArray
  Lo : Int
  Hi : Int
  Free : Bool
  Ext : Bool
  Items : List (List VV)
  Kids : List (List VV)
  deriving Inhabited

def k_t256_52136 : ByteArray := ⟨#[0, 1, 2, 2, 3, 3, 3, 3, 4, 4, 4, 4, 4, 4, 4, 4, 5, 5, 5, 5, 5, 5, 5, 5, 5, 5, 5, 5, 5, 5, 5, 5, 6, 6, 6, 6, 6, 6, 6, 6, 6, 6, 6, 6, 6, 6, 6, 6, 6, 6, 6, 6, 6, 6, 6, 6, 6, 6, 6, 6, 6, 6, 6, 6, 7, 7, 7, 7, 7, 7, 7, 7, 7, 7, 7, 7, 7, 7, 7, 7, 7, 7, 7, 7, 7, 7, 7, 7, 7, 7, 7, 7, 7, 7, 7, 7, 7, 7, 7, 7, 7, 7, 7, 7, 7, 7, 7, 7, 7, 7, 7, 7, 7, 7, 7, 7, 7, 7, 7, 7, 7, 7, 7, 7, 7, 7, 7, 7, 8, 8, 8, 8, 8, 8, 8, 8, 8, 8, 8, 8, 8, 8, 8, 8, 8, 8, 8, 8, 8, 8, 8, 8, 8, 8, 8, 8, 8, 8, 8, 8, 8, 8, 8, 8, 8, 8, 8, 8, 8, 8, 8, 8, 8, 8, 8, 8, 8, 8, 8, 8, 8, 8, 8, 8, 8, 8, 8, 8, 8, 8, 8, 8, 8, 8, 8, 8, 8, 8, 8, 8, 8, 8, 8, 8, 8, 8, 8, 8, 8, 8, 8, 8, 8, 8, 8, 8, 8, 8, 8, 8, 8, 8, 8, 8, 8, 8, 8, 8, 8, 8, 8, 8, 8, 8, 8, 8, 8, 8, 8, 8, 8, 8, 8, 8, 8, 8, 8, 8, 8, 8, 8, 8, 8, 8, 8, 8]⟩
def k_ : ByteArray := ⟨#[]⟩
def k__46_46 : ByteArray := ⟨#[46, 46]⟩
def k_ALL : ByteArray := ⟨#[65, 76, 76]⟩
def k__91 : ByteArray := ⟨#[91]⟩
def k__44_32_46_46_46_93 : ByteArray := ⟨#[44, 32, 46, 46, 46, 93]⟩
def k__40 : ByteArray := ⟨#[40]⟩
def k__41 : ByteArray := ⟨#[41]⟩
def k__32 : ByteArray := ⟨#[32]⟩
def k__124_94_45 : ByteArray := ⟨#[124, 94, 45]⟩

mutual
def PL.law03_count.l0 (a0 : Node) (left_27 : Int) (i_28 : Int) : Option (Int) :=
  if decide (i_28 < (a0.Kids.length : Int)) then
    if decide (left_27 > 0) then
      getI a0.Kids i_28 >>= fun c_37 =>
      PL.law03_count c_37 left_27 >>= fun rv_38 =>
      PL.law03_count.l0 a0 rv_38 (w64 (i_28 + 1))
    else
      some left_27
  else
    some left_27
  partial_fixpoint

def PL.law03_count (a0 : Node) (a1 : Int) : Option Int :=
  PL.law03_count.l0 a0 (w64 (a1 - 1)) 0 >>= fun left_34 =>
  some left_34
  partial_fixpoint

end

def PL.law03_large (a0 : Node) : Option Bool :=
  PL.law03_count a0 400 >>= fun rv_43 =>
  some (decide (rv_43 ≤ 0))

mutual
def PL.set_size.l0 (a0 : Node) (deep_95 : Int) (nodes_96 : Int) (x_97 : Int) : Option ((Int × Int)) :=
  if decide (x_97 < (a0.Kids.length : Int)) then
    getI a0.Kids x_97 >>= fun c_107 =>
    PL.set_size c_107 >>= fun (rv_109, rv_110) =>
    PL.set_size.l0 a0 (max deep_95 rv_110) (w64 (nodes_96 + rv_109)) (w64 (x_97 + 1))
  else
    some (deep_95, nodes_96)
  partial_fixpoint

def PL.set_size (a0 : Node) : Option (Int × Int) :=
  PL.set_size.l0 a0 0 1 0 >>= fun (deep_104, nodes_105) =>
  some (nodes_105, w64 (deep_104 + 1))
  partial_fixpoint

end

mutual
def PL.set_formed_1 (a0 : Node) : Option Bool :=
  PL.set_formed a0 >>= fun rv_115 =>
  some (!rv_115)
  partial_fixpoint

def PL.slices_IndexFunc_of_set_formed_1.l0 (a0 : List Node) (x_141 : Int) : Option (Unit ⊕ Int) :=
  if decide (x_141 < (a0.length : Int)) then
    getI a0 x_141 >>= fun c_149 =>
    PL.set_formed_1 c_149 >>= fun rv_150 =>
    if rv_150 then
      some (Sum.inr x_141)
    else
      PL.slices_IndexFunc_of_set_formed_1.l0 a0 (w64 (x_141 + 1))
  else
    some (Sum.inl ())
  partial_fixpoint

def PL.slices_IndexFunc_of_set_formed_1 (a0 : List Node) : Option Int :=
  PL.slices_IndexFunc_of_set_formed_1.l0 a0 0 >>= fun
  | Sum.inl _ =>
    some (-1)
  | Sum.inr x_147 =>
    some x_147
  partial_fixpoint

def PL.slices_ContainsFunc_of_set_formed_1 (a0 : List Node) : Option Bool :=
  PL.slices_IndexFunc_of_set_formed_1 a0 >>= fun rv_155 =>
  some (decide (rv_155 ≥ 0))
  partial_fixpoint

def PL.set_formed (a0 : Node) : Option Bool :=
  (
    if a0.Lo == 0 then
      some (a0.Hi == 0)
    else
      some false
  ) >>= fun ok_159 =>
  ((
    if a0.Op == 0 then
      if (a0.Kids.length : Int) == 0 then
        if decide (a0.Lo ≤ a0.Hi) then
          if decide (a0.Lo ≥ (-1000000000000000)) then
            (
              some (decide (a0.Hi ≤ 1000000000000000))
            ) >>= fun z => some (Sum.inr z)
          else
            (
              some false
            ) >>= fun z => some (Sum.inr z)
        else
          (
            some false
          ) >>= fun z => some (Sum.inr z)
      else
        (
          some false
        ) >>= fun z => some (Sum.inr z)
    else
      (
        if a0.Op == 1 then
          some (a0.Op == 1)
        else
          some (a0.Op == 2)
      ) >>= fun x_201 =>
      if x_201 then
        if ok_159 then
          some (Sum.inl (decide ((a0.Kids.length : Int) ≥ 2)))
        else
          some (Sum.inl false)
      else
        if a0.Op == 3 then
          if ok_159 then
            some (Sum.inl ((a0.Kids.length : Int) == 2))
          else
            some (Sum.inl false)
        else
          if a0.Op == 4 then
            if ok_159 then
              some (Sum.inl ((a0.Kids.length : Int) == 0))
            else
              some (Sum.inl false)
          else
            if a0.Op == 5 then
              if ok_159 then
                some (Sum.inl ((a0.Kids.length : Int) == 1))
              else
                some (Sum.inl false)
            else
              (
                some false
              ) >>= fun z => some (Sum.inr z)
  ) : Option (Bool ⊕ Bool)) >>= fun
  | .inl ok_181 =>
    if ok_181 then
      PL.slices_ContainsFunc_of_set_formed_1 a0.Kids >>= fun rv_186 =>
      some (!rv_186)
    else
      some false
  | .inr z => some z
  partial_fixpoint

end

def PL.set_check (a0 : Node) : Option Int :=
  PL.set_size a0 >>= fun (rv_218, rv_219) =>
  if decide (rv_218 > 200) then
    some 2
  else
    if decide (rv_219 > 20) then
      some 2
    else
      PL.set_formed a0 >>= fun rv_223 =>
      if !rv_223 then
        some 1
      else
        some 0

def PL.set_limited (a0 : List Pr) : Option (List Pr × Int) :=
  if decide ((a0.length : Int) > 100) then
    some ([], 2)
  else
    some (a0, 0)

def PL.slices_insertionSortCmpFunc_2int.l1 (a3 : Pr → Pr → Option Int) (a1 : Int) (a2 : Int) (i_275 : Int) (bu_337 : List Pr) (j_339 : Int) : Option ((List Pr)) :=
  if decide (j_339 > a1) then
    getI bu_337 j_339 >>= fun c_355 =>
    getI bu_337 (w64 (j_339 - 1)) >>= fun c_357 =>
    a3 c_355 c_357 >>= fun rv_358 =>
    if decide (rv_358 < 0) then
      getI (bu_337.set j_339.toNat c_357) (w64 (j_339 - 1)) >>= fun c_363 =>
      PL.slices_insertionSortCmpFunc_2int.l1 a3 a1 a2 i_275 ((bu_337.set j_339.toNat c_357).set (w64 (j_339 - 1)).toNat c_355) (w64 (j_339 - 1))
    else
      some bu_337
  else
    some bu_337
  partial_fixpoint

def PL.slices_insertionSortCmpFunc_2int.l0 (a3 : Pr → Pr → Option Int) (a1 : Int) (a2 : Int) (bu_273 : List Pr) (i_275 : Int) : Option ((List Pr)) :=
  if decide (i_275 < a2) then
    PL.slices_insertionSortCmpFunc_2int.l1 a3 a1 a2 i_275 bu_273 i_275 >>= fun bu_352 =>
    PL.slices_insertionSortCmpFunc_2int.l0 a3 a1 a2 bu_352 (w64 (i_275 + 1))
  else
    some bu_273
  partial_fixpoint

def PL.slices_insertionSortCmpFunc_2int (a0 : List Pr) (a1 : Int) (a2 : Int) (a3 : Pr → Pr → Option Int) : Option (List Pr) :=
  PL.slices_insertionSortCmpFunc_2int.l0 a3 a1 a2 a0 (w64 (a1 + 1)) >>= fun bu_321 =>
  some bu_321

def PL.slices_siftDownCmpFunc_2int.l0 (a4 : Pr → Pr → Option Int) (a2 : Int) (a3 : Int) (bu_407 : List Pr) (root_409 : Int) : Option ((List Pr) ⊕ (List Pr)) :=
  if decide ((w64 ((w64 (2 * root_409)) + 1)) ≥ a2) then
    some (Sum.inl bu_407)
  else
    if decide ((w64 ((w64 ((w64 (2 * root_409)) + 1)) + 1)) < a2) then
      getI bu_407 (w64 (a3 + (w64 ((w64 (2 * root_409)) + 1)))) >>= fun c_452 =>
      getI bu_407 (w64 ((w64 (a3 + (w64 ((w64 (2 * root_409)) + 1)))) + 1)) >>= fun c_454 =>
      a4 c_452 c_454 >>= fun rv_455 =>
      (
        if decide (rv_455 < 0) then
          some (w64 ((w64 ((w64 (2 * root_409)) + 1)) + 1))
        else
          some (w64 ((w64 (2 * root_409)) + 1))
      ) >>= fun child_459 =>
      getI bu_407 (w64 (a3 + root_409)) >>= fun c_463 =>
      getI bu_407 (w64 (a3 + child_459)) >>= fun c_465 =>
      a4 c_463 c_465 >>= fun rv_466 =>
      if !(decide (rv_466 < 0)) then
        some (Sum.inr bu_407)
      else
        getI (bu_407.set (w64 (a3 + root_409)).toNat c_465) (w64 (a3 + child_459)) >>= fun c_471 =>
        PL.slices_siftDownCmpFunc_2int.l0 a4 a2 a3 ((bu_407.set (w64 (a3 + root_409)).toNat c_465).set (w64 (a3 + child_459)).toNat c_463) child_459
    else
      getI bu_407 (w64 (a3 + root_409)) >>= fun c_475 =>
      getI bu_407 (w64 (a3 + (w64 ((w64 (2 * root_409)) + 1)))) >>= fun c_477 =>
      a4 c_475 c_477 >>= fun rv_478 =>
      if !(decide (rv_478 < 0)) then
        some (Sum.inr bu_407)
      else
        getI (bu_407.set (w64 (a3 + root_409)).toNat c_477) (w64 (a3 + (w64 ((w64 (2 * root_409)) + 1)))) >>= fun c_483 =>
        PL.slices_siftDownCmpFunc_2int.l0 a4 a2 a3 ((bu_407.set (w64 (a3 + root_409)).toNat c_477).set (w64 (a3 + (w64 ((w64 (2 * root_409)) + 1)))).toNat c_475) (w64 ((w64 (2 * root_409)) + 1))
  partial_fixpoint

def PL.slices_siftDownCmpFunc_2int (a0 : List Pr) (a1 : Int) (a2 : Int) (a3 : Int) (a4 : Pr → Pr → Option Int) : Option (List Pr) :=
  PL.slices_siftDownCmpFunc_2int.l0 a4 a2 a3 a0 a1 >>= fun
  | Sum.inl bu_446 =>
    some bu_446
  | Sum.inr bu_448 =>
    some bu_448

def PL.slices_heapSortCmpFunc_2int.l0 (a3 : Pr → Pr → Option Int) (a1 : Int) (a2 : Int) (bu_518 : List Pr) (i_520 : Int) : Option ((List Pr)) :=
  if decide (i_520 ≥ 0) then
    PL.slices_siftDownCmpFunc_2int bu_518 i_520 (w64 (a2 - a1)) a1 a3 >>= fun k_529 =>
    PL.slices_heapSortCmpFunc_2int.l0 a3 a1 a2 k_529 (w64 (i_520 - 1))
  else
    some bu_518
  partial_fixpoint

def PL.slices_heapSortCmpFunc_2int.l1 (a3 : Pr → Pr → Option Int) (a1 : Int) (bu_549 : List Pr) (i_551 : Int) : Option ((List Pr)) :=
  if decide (i_551 ≥ 0) then
    getI bu_549 (w64 (a1 + i_551)) >>= fun c_568 =>
    getI bu_549 a1 >>= fun c_570 =>
    getI (bu_549.set a1.toNat c_568) (w64 (a1 + i_551)) >>= fun c_573 =>
    PL.slices_siftDownCmpFunc_2int ((bu_549.set a1.toNat c_568).set (w64 (a1 + i_551)).toNat c_570) 0 i_551 a1 a3 >>= fun k_576 =>
    PL.slices_heapSortCmpFunc_2int.l1 a3 a1 k_576 (w64 (i_551 - 1))
  else
    some bu_549
  partial_fixpoint

def PL.slices_heapSortCmpFunc_2int (a0 : List Pr) (a1 : Int) (a2 : Int) (a3 : Pr → Pr → Option Int) : Option (List Pr) :=
  PL.slices_heapSortCmpFunc_2int.l0 a3 a1 a2 a0 (w64 (Int.tdiv (w64 ((w64 (a2 - a1)) - 1)) 2)) >>= fun bu_526 =>
  PL.slices_heapSortCmpFunc_2int.l1 a3 a1 bu_526 (w64 ((w64 (a2 - a1)) - 1)) >>= fun bu_565 =>
  some bu_565

def PL.math_bits_Len32 (a0 : Int) : Option Int :=
  (
    if decide (a0 ≥ 65536) then
      some (ishr .u32 a0 16, 16)
    else
      some (a0, 0)
  ) >>= fun (x_584, n_585) =>
  (
    if decide (x_584 ≥ 256) then
      some (ishr .u32 x_584 8, w64 (n_585 + 8))
    else
      some (x_584, n_585)
  ) >>= fun (x_591, n_592) =>
  if (0 : Int) ≤ (IntKind.wrap .u8 (x_591)) then
    if (IntKind.wrap .u8 (x_591)) < (k_t256_52136.size : Int) then
      some (w64 (n_592 + (w64 (((k_t256_52136.get! (IntKind.wrap .u8 (x_591)).toNat).toNat : Int)))))
    else none
  else none

def PL.math_bits_Len64 (a0 : Int) : Option Int :=
  (
    if decide (a0 ≥ 4294967296) then
      some (ishr .u64 a0 32, 32)
    else
      some (a0, 0)
  ) >>= fun (x_604, n_605) =>
  (
    if decide (x_604 ≥ 65536) then
      some (ishr .u64 x_604 16, w64 (n_605 + 16))
    else
      some (x_604, n_605)
  ) >>= fun (x_611, n_612) =>
  (
    if decide (x_611 ≥ 256) then
      some (ishr .u64 x_611 8, w64 (n_612 + 8))
    else
      some (x_611, n_612)
  ) >>= fun (x_618, n_619) =>
  if (0 : Int) ≤ (IntKind.wrap .u8 (x_618)) then
    if (IntKind.wrap .u8 (x_618)) < (k_t256_52136.size : Int) then
      some (w64 (n_619 + (w64 (((k_t256_52136.get! (IntKind.wrap .u8 (x_618)).toNat).toNat : Int)))))
    else none
  else none

def PL.math_bits_Len (a0 : Int) : Option Int :=
  PL.math_bits_Len64 a0 >>= fun rv_631 =>
  some rv_631

def PL.slices_nextPowerOfTwo (a0 : Int) : Option Int :=
  PL.math_bits_Len (IntKind.wrap .u64 (a0)) >>= fun rv_633 =>
  if (0 : Int) ≤ rv_633 then
    some (ishl .u64 1 rv_633)
  else none

def PL.slices_xorshift_Next (a0 : Int) : Option (Int × Int) :=
  some (ibits .xor .u64 (ibits .xor .u64 (ibits .xor .u64 a0 (ishl .u64 a0 13)) (ishr .u64 (ibits .xor .u64 a0 (ishl .u64 a0 13)) 7)) (ishl .u64 (ibits .xor .u64 (ibits .xor .u64 a0 (ishl .u64 a0 13)) (ishr .u64 (ibits .xor .u64 a0 (ishl .u64 a0 13)) 7)) 17), ibits .xor .u64 (ibits .xor .u64 (ibits .xor .u64 a0 (ishl .u64 a0 13)) (ishr .u64 (ibits .xor .u64 a0 (ishl .u64 a0 13)) 7)) (ishl .u64 (ibits .xor .u64 (ibits .xor .u64 a0 (ishl .u64 a0 13)) (ishr .u64 (ibits .xor .u64 a0 (ishl .u64 a0 13)) 7)) 17))

def PL.slices_breakPatternsCmpFunc_2int.l0 (a3 : Pr → Pr → Option Int) (a1 : Int) (a2 : Int) (rv_641 : Int) (bu_665 : List Pr) (c_667 : Int) (idx_668 : Int) : Option ((List Pr)) :=
  if decide (idx_668 ≤ (w64 ((w64 (a1 + (w64 ((w64 (Int.tdiv (w64 (a2 - a1)) 4)) * 2)))) + 1))) then
    PL.slices_xorshift_Next c_667 >>= fun (rv_693, k_694) =>
    (
      if decide ((w64 (ibits .and .u64 rv_693 (IntKind.wrap .u64 (rv_641 - 1)))) ≥ (w64 (a2 - a1))) then
        some (w64 ((w64 (ibits .and .u64 rv_693 (IntKind.wrap .u64 (rv_641 - 1)))) - (w64 (a2 - a1))))
      else
        some (w64 (ibits .and .u64 rv_693 (IntKind.wrap .u64 (rv_641 - 1))))
    ) >>= fun other_698 =>
    getI bu_665 (w64 (a1 + other_698)) >>= fun c_702 =>
    getI bu_665 idx_668 >>= fun c_704 =>
    getI (bu_665.set idx_668.toNat c_702) (w64 (a1 + other_698)) >>= fun c_707 =>
    PL.slices_breakPatternsCmpFunc_2int.l0 a3 a1 a2 rv_641 ((bu_665.set idx_668.toNat c_702).set (w64 (a1 + other_698)).toNat c_704) k_694 (w64 (idx_668 + 1))
  else
    some bu_665
  partial_fixpoint

def PL.slices_breakPatternsCmpFunc_2int (a0 : List Pr) (a1 : Int) (a2 : Int) (a3 : Pr → Pr → Option Int) : Option (List Pr) :=
  if decide ((w64 (a2 - a1)) ≥ 8) then
    PL.slices_nextPowerOfTwo (w64 (a2 - a1)) >>= fun rv_641 =>
    PL.slices_breakPatternsCmpFunc_2int.l0 a3 a1 a2 rv_641 a0 (IntKind.wrap .u64 (w64 (a2 - a1))) (w64 ((w64 (a1 + (w64 ((w64 (Int.tdiv (w64 (a2 - a1)) 4)) * 2)))) - 1)) >>= fun bu_689 =>
    some bu_689
  else
    some a0

def PL.slices_order2CmpFunc_2int (a0 : List Pr) (a1 : Int) (a2 : Int) (a3 : Int) (a4 : Pr → Pr → Option Int) : Option (Int × Int × List Pr × Int) :=
  getI a0 a2 >>= fun c_718 =>
  getI a0 a1 >>= fun c_720 =>
  a4 c_718 c_720 >>= fun rv_721 =>
  if decide (rv_721 < 0) then
    some (a2, a1, a0, w64 (a3 + 1))
  else
    some (a1, a2, a0, a3)

def PL.slices_medianCmpFunc_2int (a0 : List Pr) (a1 : Int) (a2 : Int) (a3 : Int) (a4 : Int) (a5 : Pr → Pr → Option Int) : Option (Int × List Pr × Int) :=
  PL.slices_order2CmpFunc_2int a0 a1 a2 a4 a5 >>= fun (rv_724, rv_725, k_726, k_727) =>
  PL.slices_order2CmpFunc_2int k_726 rv_725 a3 k_727 a5 >>= fun (rv_731, rv_732, k_733, k_734) =>
  PL.slices_order2CmpFunc_2int k_733 rv_724 rv_731 k_734 a5 >>= fun (rv_738, rv_739, k_740, k_741) =>
  some (rv_739, k_740, k_741)

def PL.slices_medianAdjacentCmpFunc_2int (a0 : List Pr) (a1 : Int) (a2 : Int) (a3 : Pr → Pr → Option Int) : Option (Int × List Pr × Int) :=
  PL.slices_medianCmpFunc_2int a0 (w64 (a1 - 1)) a1 (w64 (a1 + 1)) a2 a3 >>= fun (rv_745, k_746, k_747) =>
  some (rv_745, k_746, k_747)

def PL.slices_choosePivotCmpFunc_2int (a0 : List Pr) (a1 : Int) (a2 : Int) (a3 : Pr → Pr → Option Int) : Option (Int × Int × List Pr) :=
  (
    if decide ((w64 (a2 - a1)) ≥ 8) then
      (
        if decide ((w64 (a2 - a1)) ≥ 50) then
          PL.slices_medianAdjacentCmpFunc_2int a0 (w64 (a1 + (w64 ((w64 (Int.tdiv (w64 (a2 - a1)) 4)) * 1)))) 0 a3 >>= fun (rv_854, k_855, k_856) =>
          PL.slices_medianAdjacentCmpFunc_2int k_855 (w64 (a1 + (w64 ((w64 (Int.tdiv (w64 (a2 - a1)) 4)) * 2)))) k_856 a3 >>= fun (rv_860, k_861, k_862) =>
          PL.slices_medianAdjacentCmpFunc_2int k_861 (w64 (a1 + (w64 ((w64 (Int.tdiv (w64 (a2 - a1)) 4)) * 3)))) k_862 a3 >>= fun (rv_866, k_867, k_868) =>
          some (k_867, k_868, rv_854, rv_860, rv_866)
        else
          some (a0, 0, w64 (a1 + (w64 ((w64 (Int.tdiv (w64 (a2 - a1)) 4)) * 1))), w64 (a1 + (w64 ((w64 (Int.tdiv (w64 (a2 - a1)) 4)) * 2))), w64 (a1 + (w64 ((w64 (Int.tdiv (w64 (a2 - a1)) 4)) * 3))))
      ) >>= fun (bu_838, c_840, i_841, j_842, k_843) =>
      PL.slices_medianCmpFunc_2int bu_838 i_841 j_842 k_843 c_840 a3 >>= fun (rv_847, k_848, k_849) =>
      some (k_848, k_849, rv_847)
    else
      some (a0, 0, w64 (a1 + (w64 ((w64 (Int.tdiv (w64 (a2 - a1)) 4)) * 2))))
  ) >>= fun (bu_809, c_811, j_812) =>
  if c_811 == 0 then
    some (j_812, 1, bu_809)
  else
    if c_811 == 12 then
      some (j_812, 2, bu_809)
    else
      some (j_812, 0, bu_809)

def PL.slices_reverseRangeCmpFunc_2int.l0 (a3 : Pr → Pr → Option Int) (bu_882 : List Pr) (i_884 : Int) (j_885 : Int) : Option ((List Pr)) :=
  if decide (i_884 < j_885) then
    getI bu_882 j_885 >>= fun c_898 =>
    getI bu_882 i_884 >>= fun c_900 =>
    getI (bu_882.set i_884.toNat c_898) j_885 >>= fun c_903 =>
    PL.slices_reverseRangeCmpFunc_2int.l0 a3 ((bu_882.set i_884.toNat c_898).set j_885.toNat c_900) (w64 (i_884 + 1)) (w64 (j_885 - 1))
  else
    some bu_882
  partial_fixpoint

def PL.slices_reverseRangeCmpFunc_2int (a0 : List Pr) (a1 : Int) (a2 : Int) (a3 : Pr → Pr → Option Int) : Option (List Pr) :=
  PL.slices_reverseRangeCmpFunc_2int.l0 a3 a0 a1 (w64 (a2 - 1)) >>= fun bu_895 =>
  some bu_895

def PL.slices_partialInsertionSortCmpFunc_2int.l1 (a3 : Pr → Pr → Option Int) (a1 : Int) (a2 : Int) (bu_1747 : List Pr) (j_1750 : Int) (i_2001 : Int) : Option (Int) :=
  if decide (i_2001 < a2) then
    getI bu_1747 i_2001 >>= fun c_2012 =>
    getI bu_1747 (w64 (i_2001 - 1)) >>= fun c_2014 =>
    a3 c_2012 c_2014 >>= fun rv_2015 =>
    if !(decide (rv_2015 < 0)) then
      PL.slices_partialInsertionSortCmpFunc_2int.l1 a3 a1 a2 bu_1747 j_1750 (w64 (i_2001 + 1))
    else
      some i_2001
  else
    some i_2001
  partial_fixpoint

def PL.slices_partialInsertionSortCmpFunc_2int.l2 (a3 : Pr → Pr → Option Int) (a1 : Int) (a2 : Int) (i_2010 : Int) (j_1750 : Int) (bu_2094 : List Pr) (j_2096 : Int) : Option ((List Pr)) :=
  if decide (j_2096 < a2) then
    getI bu_2094 j_2096 >>= fun c_2112 =>
    getI bu_2094 (w64 (j_2096 - 1)) >>= fun c_2114 =>
    a3 c_2112 c_2114 >>= fun rv_2115 =>
    if !(decide (rv_2115 < 0)) then
      some bu_2094
    else
      getI (bu_2094.set j_2096.toNat c_2114) (w64 (j_2096 - 1)) >>= fun c_2120 =>
      PL.slices_partialInsertionSortCmpFunc_2int.l2 a3 a1 a2 i_2010 j_1750 ((bu_2094.set j_2096.toNat c_2114).set (w64 (j_2096 - 1)).toNat c_2112) (w64 (j_2096 + 1))
  else
    some bu_2094
  partial_fixpoint

def PL.slices_partialInsertionSortCmpFunc_2int.l3 (a3 : Pr → Pr → Option Int) (a1 : Int) (a2 : Int) (i_2010 : Int) (j_1750 : Int) (bu_2139 : List Pr) (j_2141 : Int) : Option ((List Pr)) :=
  if decide (j_2141 ≥ 1) then
    getI bu_2139 j_2141 >>= fun c_2157 =>
    getI bu_2139 (w64 (j_2141 - 1)) >>= fun c_2159 =>
    a3 c_2157 c_2159 >>= fun rv_2160 =>
    if !(decide (rv_2160 < 0)) then
      some bu_2139
    else
      getI (bu_2139.set j_2141.toNat c_2159) (w64 (j_2141 - 1)) >>= fun c_2165 =>
      PL.slices_partialInsertionSortCmpFunc_2int.l3 a3 a1 a2 i_2010 j_1750 ((bu_2139.set j_2141.toNat c_2159).set (w64 (j_2141 - 1)).toNat c_2157) (w64 (j_2141 - 1))
  else
    some bu_2139
  partial_fixpoint

def PL.slices_partialInsertionSortCmpFunc_2int.l0 (a3 : Pr → Pr → Option Int) (a1 : Int) (a2 : Int) (bu_1747 : List Pr) (i_1749 : Int) (j_1750 : Int) : Option ((List Pr) ⊕ (List Pr × Bool)) :=
  if decide (j_1750 < 5) then
    PL.slices_partialInsertionSortCmpFunc_2int.l1 a3 a1 a2 bu_1747 j_1750 i_1749 >>= fun i_2010 =>
    if i_2010 == a2 then
      some (Sum.inr (bu_1747, true))
    else
      if decide ((w64 (a2 - a1)) < 50) then
        some (Sum.inr (bu_1747, false))
      else
        getI bu_1747 (w64 (i_2010 - 1)) >>= fun c_2022 =>
        getI bu_1747 i_2010 >>= fun c_2024 =>
        getI (bu_1747.set i_2010.toNat c_2022) (w64 (i_2010 - 1)) >>= fun c_2027 =>
        (
          if decide ((w64 (i_2010 - a1)) ≥ 2) then
            PL.slices_partialInsertionSortCmpFunc_2int.l3 a3 a1 a2 i_2010 j_1750 ((bu_1747.set i_2010.toNat c_2022).set (w64 (i_2010 - 1)).toNat c_2024) (w64 (i_2010 - 1)) >>= fun bu_2154 =>
            some bu_2154
          else
            some ((bu_1747.set i_2010.toNat c_2022).set (w64 (i_2010 - 1)).toNat c_2024)
        ) >>= fun bu_2075 =>
        if decide ((w64 (a2 - i_2010)) ≥ 2) then
          PL.slices_partialInsertionSortCmpFunc_2int.l2 a3 a1 a2 i_2010 j_1750 bu_2075 (w64 (i_2010 + 1)) >>= fun bu_2109 =>
          PL.slices_partialInsertionSortCmpFunc_2int.l0 a3 a1 a2 bu_2109 i_2010 (w64 (j_1750 + 1))
        else
          PL.slices_partialInsertionSortCmpFunc_2int.l0 a3 a1 a2 bu_2075 i_2010 (w64 (j_1750 + 1))
  else
    some (Sum.inl bu_1747)
  partial_fixpoint

def PL.slices_partialInsertionSortCmpFunc_2int (a0 : List Pr) (a1 : Int) (a2 : Int) (a3 : Pr → Pr → Option Int) : Option (Bool × List Pr) :=
  PL.slices_partialInsertionSortCmpFunc_2int.l0 a3 a1 a2 a0 (w64 (a1 + 1)) 0 >>= fun
  | Sum.inl bu_1958 =>
    some (false, bu_1958)
  | Sum.inr (bu_1960, x_1962) =>
    some (x_1962, bu_1960)

def PL.slices_partitionEqualCmpFunc_2int.l1 (a4 : Pr → Pr → Option Int) (a1 : Int) (bu_2675 : List Pr) (j_2678 : Int) (i_2840 : Int) : Option (Int) :=
  if decide (i_2840 ≤ j_2678) then
    getI bu_2675 a1 >>= fun c_2851 =>
    getI bu_2675 i_2840 >>= fun c_2853 =>
    a4 c_2851 c_2853 >>= fun rv_2854 =>
    if !(decide (rv_2854 < 0)) then
      PL.slices_partitionEqualCmpFunc_2int.l1 a4 a1 bu_2675 j_2678 (w64 (i_2840 + 1))
    else
      some i_2840
  else
    some i_2840
  partial_fixpoint

def PL.slices_partitionEqualCmpFunc_2int.l2 (a4 : Pr → Pr → Option Int) (a1 : Int) (bu_2675 : List Pr) (i_2849 : Int) (j_2896 : Int) : Option (Int) :=
  if decide (i_2849 ≤ j_2896) then
    getI bu_2675 a1 >>= fun c_2907 =>
    getI bu_2675 j_2896 >>= fun c_2909 =>
    a4 c_2907 c_2909 >>= fun rv_2910 =>
    if decide (rv_2910 < 0) then
      PL.slices_partitionEqualCmpFunc_2int.l2 a4 a1 bu_2675 i_2849 (w64 (j_2896 - 1))
    else
      some j_2896
  else
    some j_2896
  partial_fixpoint

def PL.slices_partitionEqualCmpFunc_2int.l0 (a4 : Pr → Pr → Option Int) (a1 : Int) (bu_2675 : List Pr) (i_2677 : Int) (j_2678 : Int) : Option ((List Pr × Int)) :=
  PL.slices_partitionEqualCmpFunc_2int.l1 a4 a1 bu_2675 j_2678 i_2677 >>= fun i_2849 =>
  PL.slices_partitionEqualCmpFunc_2int.l2 a4 a1 bu_2675 i_2849 j_2678 >>= fun j_2905 =>
  if decide (i_2849 > j_2905) then
    some (bu_2675, i_2849)
  else
    getI bu_2675 j_2905 >>= fun c_2916 =>
    getI bu_2675 i_2849 >>= fun c_2918 =>
    getI (bu_2675.set i_2849.toNat c_2916) j_2905 >>= fun c_2921 =>
    PL.slices_partitionEqualCmpFunc_2int.l0 a4 a1 ((bu_2675.set i_2849.toNat c_2916).set j_2905.toNat c_2918) (w64 (i_2849 + 1)) (w64 (j_2905 - 1))
  partial_fixpoint

def PL.slices_partitionEqualCmpFunc_2int (a0 : List Pr) (a1 : Int) (a2 : Int) (a3 : Int) (a4 : Pr → Pr → Option Int) : Option (Int × List Pr) :=
  getI a0 a3 >>= fun c_2172 =>
  getI a0 a1 >>= fun c_2174 =>
  getI (a0.set a1.toNat c_2172) a3 >>= fun c_2177 =>
  PL.slices_partitionEqualCmpFunc_2int.l0 a4 a1 ((a0.set a1.toNat c_2172).set a3.toNat c_2174) (w64 (a1 + 1)) (w64 (a2 - 1)) >>= fun (bu_2800, i_2802) =>
  some (i_2802, bu_2800)

def PL.slices_partitionCmpFunc_2int.l0 (a4 : Pr → Pr → Option Int) (a0 : List Pr) (a1 : Int) (a2 : Int) (a3 : Int) (c_2926 : Pr) (c_2928 : Pr) (i_2971 : Int) : Option (Int) :=
  if decide (i_2971 ≤ (w64 (a2 - 1))) then
    getI ((a0.set a1.toNat c_2926).set a3.toNat c_2928) i_2971 >>= fun c_2982 =>
    getI ((a0.set a1.toNat c_2926).set a3.toNat c_2928) a1 >>= fun c_2984 =>
    a4 c_2982 c_2984 >>= fun rv_2985 =>
    if decide (rv_2985 < 0) then
      PL.slices_partitionCmpFunc_2int.l0 a4 a0 a1 a2 a3 c_2926 c_2928 (w64 (i_2971 + 1))
    else
      some i_2971
  else
    some i_2971
  partial_fixpoint

def PL.slices_partitionCmpFunc_2int.l1 (a4 : Pr → Pr → Option Int) (a0 : List Pr) (a1 : Int) (a3 : Int) (c_2926 : Pr) (c_2928 : Pr) (i_2980 : Int) (j_3027 : Int) : Option (Int) :=
  if decide (i_2980 ≤ j_3027) then
    getI ((a0.set a1.toNat c_2926).set a3.toNat c_2928) j_3027 >>= fun c_3038 =>
    getI ((a0.set a1.toNat c_2926).set a3.toNat c_2928) a1 >>= fun c_3040 =>
    a4 c_3038 c_3040 >>= fun rv_3041 =>
    if !(decide (rv_3041 < 0)) then
      PL.slices_partitionCmpFunc_2int.l1 a4 a0 a1 a3 c_2926 c_2928 i_2980 (w64 (j_3027 - 1))
    else
      some j_3027
  else
    some j_3027
  partial_fixpoint

def PL.slices_partitionCmpFunc_2int.l3 (a4 : Pr → Pr → Option Int) (a1 : Int) (bu_3558 : List Pr) (j_3561 : Int) (i_3723 : Int) : Option (Int) :=
  if decide (i_3723 ≤ j_3561) then
    getI bu_3558 i_3723 >>= fun c_3734 =>
    getI bu_3558 a1 >>= fun c_3736 =>
    a4 c_3734 c_3736 >>= fun rv_3737 =>
    if decide (rv_3737 < 0) then
      PL.slices_partitionCmpFunc_2int.l3 a4 a1 bu_3558 j_3561 (w64 (i_3723 + 1))
    else
      some i_3723
  else
    some i_3723
  partial_fixpoint

def PL.slices_partitionCmpFunc_2int.l4 (a4 : Pr → Pr → Option Int) (a1 : Int) (bu_3558 : List Pr) (i_3732 : Int) (j_3779 : Int) : Option (Int) :=
  if decide (i_3732 ≤ j_3779) then
    getI bu_3558 j_3779 >>= fun c_3790 =>
    getI bu_3558 a1 >>= fun c_3792 =>
    a4 c_3790 c_3792 >>= fun rv_3793 =>
    if !(decide (rv_3793 < 0)) then
      PL.slices_partitionCmpFunc_2int.l4 a4 a1 bu_3558 i_3732 (w64 (j_3779 - 1))
    else
      some j_3779
  else
    some j_3779
  partial_fixpoint

def PL.slices_partitionCmpFunc_2int.l2 (a4 : Pr → Pr → Option Int) (a1 : Int) (bu_3558 : List Pr) (i_3560 : Int) (j_3561 : Int) : Option ((List Pr × Int)) :=
  PL.slices_partitionCmpFunc_2int.l3 a4 a1 bu_3558 j_3561 i_3560 >>= fun i_3732 =>
  PL.slices_partitionCmpFunc_2int.l4 a4 a1 bu_3558 i_3732 j_3561 >>= fun j_3788 =>
  if decide (i_3732 > j_3788) then
    some (bu_3558, j_3788)
  else
    getI bu_3558 j_3788 >>= fun c_3799 =>
    getI bu_3558 i_3732 >>= fun c_3801 =>
    getI (bu_3558.set i_3732.toNat c_3799) j_3788 >>= fun c_3804 =>
    PL.slices_partitionCmpFunc_2int.l2 a4 a1 ((bu_3558.set i_3732.toNat c_3799).set j_3788.toNat c_3801) (w64 (i_3732 + 1)) (w64 (j_3788 - 1))
  partial_fixpoint

def PL.slices_partitionCmpFunc_2int (a0 : List Pr) (a1 : Int) (a2 : Int) (a3 : Int) (a4 : Pr → Pr → Option Int) : Option (Int × Bool × List Pr) :=
  getI a0 a3 >>= fun c_2926 =>
  getI a0 a1 >>= fun c_2928 =>
  getI (a0.set a1.toNat c_2926) a3 >>= fun c_2931 =>
  PL.slices_partitionCmpFunc_2int.l0 a4 a0 a1 a2 a3 c_2926 c_2928 (w64 (a1 + 1)) >>= fun i_2980 =>
  PL.slices_partitionCmpFunc_2int.l1 a4 a0 a1 a3 c_2926 c_2928 i_2980 (w64 (a2 - 1)) >>= fun j_3036 =>
  if decide (i_2980 > j_3036) then
    getI ((a0.set a1.toNat c_2926).set a3.toNat c_2928) a1 >>= fun c_3047 =>
    getI ((a0.set a1.toNat c_2926).set a3.toNat c_2928) j_3036 >>= fun c_3049 =>
    getI (((a0.set a1.toNat c_2926).set a3.toNat c_2928).set j_3036.toNat c_3047) a1 >>= fun c_3052 =>
    some (j_3036, true, (((a0.set a1.toNat c_2926).set a3.toNat c_2928).set j_3036.toNat c_3047).set a1.toNat c_3049)
  else
    getI ((a0.set a1.toNat c_2926).set a3.toNat c_2928) j_3036 >>= fun c_3055 =>
    getI ((a0.set a1.toNat c_2926).set a3.toNat c_2928) i_2980 >>= fun c_3057 =>
    getI (((a0.set a1.toNat c_2926).set a3.toNat c_2928).set i_2980.toNat c_3055) j_3036 >>= fun c_3060 =>
    PL.slices_partitionCmpFunc_2int.l2 a4 a1 ((((a0.set a1.toNat c_2926).set a3.toNat c_2928).set i_2980.toNat c_3055).set j_3036.toNat c_3057) (w64 (i_2980 + 1)) (w64 (j_3036 - 1)) >>= fun (bu_3683, j_3685) =>
    getI bu_3683 a1 >>= fun c_3809 =>
    getI bu_3683 j_3685 >>= fun c_3811 =>
    getI (bu_3683.set j_3685.toNat c_3809) a1 >>= fun c_3814 =>
    some (j_3685, false, (bu_3683.set j_3685.toNat c_3809).set a1.toNat c_3811)

mutual
def PL.slices_pdqsortCmpFunc_2int.l0 (a4 : Pr → Pr → Option Int) (bu_4159 : List Pr) (a_4161 : Int) (b_4162 : Int) (limit_4163 : Int) (wasBalanced_4164 : Bool) (wasPartitioned_4165 : Bool) : Option ((List Pr)) :=
  if decide ((w64 (b_4162 - a_4161)) ≤ 12) then
    PL.slices_insertionSortCmpFunc_2int bu_4159 a_4161 b_4162 a4 >>= fun k_4287 =>
    some k_4287
  else
    if limit_4163 == 0 then
      PL.slices_heapSortCmpFunc_2int bu_4159 a_4161 b_4162 a4 >>= fun k_4292 =>
      some k_4292
    else
      (
        if !wasBalanced_4164 then
          PL.slices_breakPatternsCmpFunc_2int bu_4159 a_4161 b_4162 a4 >>= fun k_4400 =>
          some (k_4400, w64 (limit_4163 - 1))
        else
          some (bu_4159, limit_4163)
      ) >>= fun (bu_4301, limit_4303) =>
      PL.slices_choosePivotCmpFunc_2int bu_4301 a_4161 b_4162 a4 >>= fun (rv_4307, rv_4308, k_4309) =>
      (
        if rv_4308 == 2 then
          PL.slices_reverseRangeCmpFunc_2int k_4309 a_4161 b_4162 a4 >>= fun k_4395 =>
          some (k_4395, w64 ((w64 (b_4162 - 1)) - (w64 (rv_4307 - a_4161))), 1)
        else
          some (k_4309, rv_4307, rv_4308)
      ) >>= fun (bu_4318, pivot_4320, hint_4321) =>
      (
        if wasBalanced_4164 then
          if wasPartitioned_4165 then
            some (hint_4321 == 1)
          else
            some false
        else
          some false
      ) >>= fun x_4328 =>
      ((
        if x_4328 then
          PL.slices_partialInsertionSortCmpFunc_2int bu_4318 a_4161 b_4162 a4 >>= fun (rv_4384, k_4385) =>
          if rv_4384 then
            (
              some k_4385
            ) >>= fun z => some (Sum.inr z)
          else
            some (Sum.inl k_4385)
        else
          some (Sum.inl bu_4318)
      ) : Option ((List Pr) ⊕ (List Pr))) >>= fun
      | .inl bu_4339 =>
        (
          if decide (a_4161 > 0) then
            getI bu_4339 (w64 (a_4161 - 1)) >>= fun c_4378 =>
            getI bu_4339 pivot_4320 >>= fun c_4380 =>
            a4 c_4378 c_4380 >>= fun rv_4381 =>
            some (!(decide (rv_4381 < 0)))
          else
            some false
        ) >>= fun x_4351 =>
        if x_4351 then
          PL.slices_partitionEqualCmpFunc_2int bu_4339 a_4161 b_4162 pivot_4320 a4 >>= fun (rv_4356, k_4357) =>
          PL.slices_pdqsortCmpFunc_2int.l0 a4 k_4357 rv_4356 b_4162 limit_4303 wasBalanced_4164 wasPartitioned_4165
        else
          PL.slices_partitionCmpFunc_2int bu_4339 a_4161 b_4162 pivot_4320 a4 >>= fun (rv_4361, rv_4362, k_4363) =>
          if decide ((w64 (rv_4361 - a_4161)) < (w64 (b_4162 - rv_4361))) then
            PL.slices_pdqsortCmpFunc_2int k_4363 a_4161 rv_4361 limit_4303 a4 >>= fun k_4369 =>
            PL.slices_pdqsortCmpFunc_2int.l0 a4 k_4369 (w64 (rv_4361 + 1)) b_4162 limit_4303 (decide ((w64 (rv_4361 - a_4161)) ≥ (w64 (Int.tdiv (w64 (b_4162 - a_4161)) 8)))) rv_4362
          else
            PL.slices_pdqsortCmpFunc_2int k_4363 (w64 (rv_4361 + 1)) b_4162 limit_4303 a4 >>= fun k_4373 =>
            PL.slices_pdqsortCmpFunc_2int.l0 a4 k_4373 a_4161 rv_4361 limit_4303 (decide ((w64 (b_4162 - rv_4361)) ≥ (w64 (Int.tdiv (w64 (b_4162 - a_4161)) 8)))) rv_4362
      | .inr z => some z
  partial_fixpoint

def PL.slices_pdqsortCmpFunc_2int (a0 : List Pr) (a1 : Int) (a2 : Int) (a3 : Int) (a4 : Pr → Pr → Option Int) : Option (List Pr) :=
  PL.slices_pdqsortCmpFunc_2int.l0 a4 a0 a1 a2 a3 true true >>= fun bu_4284 =>
  some bu_4284
  partial_fixpoint

end

def PL.slices_SortFunc_2int2int (a0 : List Pr) (a1 : Pr → Pr → Option Int) : Option (List Pr) :=
  PL.math_bits_Len (IntKind.wrap .u64 ((a0.length : Int))) >>= fun rv_4406 =>
  PL.slices_pdqsortCmpFunc_2int a0 0 (a0.length : Int) rv_4406 a1 >>= fun k_4408 =>
  some k_4408

def PL.cmp_isNaN_int (a0 : Int) : Option Bool :=
  some (a0 != a0)

def PL.cmp_Compare_int (a0 : Int) (a1 : Int) : Option Int :=
  PL.cmp_isNaN_int a0 >>= fun rv_4412 =>
  PL.cmp_isNaN_int a1 >>= fun rv_4414 =>
  if rv_4412 then
    if rv_4414 then
      some 0
    else
      some (-1)
  else
    if rv_4414 then
      some 1
    else
      if decide (a0 < a1) then
        some (-1)
      else
        if decide (a0 > a1) then
          some 1
        else
          some 0

def PL.set_tidy_1 (a0 : Pr) (a1 : Pr) : Option Int :=
  PL.cmp_Compare_int a0.x0 a1.x0 >>= fun rv_4423 =>
  some rv_4423

def PL.set_tidy.l0 (k_4426 : List Pr) (out_4507 : List Pr) (x_4509 : Int) : Option ((List Pr)) :=
  if decide (x_4509 < (k_4426.length : Int)) then
    getI k_4426 x_4509 >>= fun c_4538 =>
    (
      if decide ((out_4507.length : Int) > 0) then
        getI out_4507 (w64 ((out_4507.length : Int) - 1)) >>= fun c_4559 =>
        some (decide (c_4538.x0 ≤ (w64 (c_4559.x1 + 1))))
      else
        some false
    ) >>= fun x_4546 =>
    if x_4546 then
      getI out_4507 (w64 ((out_4507.length : Int) - 1)) >>= fun c_4551 =>
      PL.set_tidy.l0 k_4426 (out_4507.set (w64 ((out_4507.length : Int) - 1)).toNat (Pr.mk c_4551.x0 (max c_4551.x1 c_4538.x1))) (w64 (x_4509 + 1))
    else
      room (out_4507.length + 1) 16 >>= fun _ =>
      PL.set_tidy.l0 k_4426 (out_4507 ++ ([c_4538])) (w64 (x_4509 + 1))
  else
    some out_4507
  partial_fixpoint

def PL.set_tidy (a0 : List Pr) : Option (List Pr × List Pr) :=
  PL.slices_SortFunc_2int2int a0 PL.set_tidy_1 >>= fun k_4426 =>
  PL.set_tidy.l0 k_4426 [] 0 >>= fun out_4535 =>
  some (out_4535, k_4426)

def PL.slices_Grow_2int2int (a1 : Int) : Option (List Pr) :=
  if decide (a1 < 0) then
    none
  else
    (
      if decide ((w64 (a1 - (w64 (0 - 0)))) > 0) then
        if (0 : Int) < (w64 (a1 - (w64 (0 - 0)))) then
          room (w64 (a1 - (w64 (0 - 0)))).toNat 16 >>= fun _ =>
          if (0 : Int) ≤ 0 then
            if 0 ≤ ((List.replicate (w64 (a1 - (w64 (0 - 0)))).toNat (Pr.mk 0 0)).length : Int) then
              some ()
            else none
          else none
        else none
      else
        some ()
    ) >>= fun _ =>
    some []

def PL.slices_Concat_2int2int.l0 (a0 : List (List Pr)) (size_4612 : Int) (x_4613 : Int) : Option (Int) :=
  if decide (x_4613 < (a0.length : Int)) then
    getI a0 x_4613 >>= fun c_4619 =>
    if decide ((w64 (size_4612 + (c_4619.length : Int))) < 0) then
      none
    else
      PL.slices_Concat_2int2int.l0 a0 (w64 (size_4612 + (c_4619.length : Int))) (w64 (x_4613 + 1))
  else
    some size_4612
  partial_fixpoint

def PL.slices_Concat_2int2int.l1 (a0 : List (List Pr)) (newslice_4654 : List Pr) (x_4656 : Int) : Option ((List Pr)) :=
  if decide (x_4656 < (a0.length : Int)) then
    getI a0 x_4656 >>= fun c_4664 =>
    room (newslice_4654.length + c_4664.length) 16 >>= fun _ =>
    PL.slices_Concat_2int2int.l1 a0 (newslice_4654 ++ c_4664) (w64 (x_4656 + 1))
  else
    some newslice_4654
  partial_fixpoint

def PL.slices_Concat_2int2int (a0 : List (List Pr)) : Option (List Pr) :=
  PL.slices_Concat_2int2int.l0 a0 0 0 >>= fun size_4617 =>
  PL.slices_Grow_2int2int size_4617 >>= fun rv_4623 =>
  PL.slices_Concat_2int2int.l1 a0 rv_4623 0 >>= fun newslice_4661 =>
  some newslice_4661

def PL.set_common.l0 (a0 : List Pr) (a1 : List Pr) (out_4815 : List Pr) (i_4818 : Int) (j_4819 : Int) : Option ((List Pr)) :=
  if decide (i_4818 < (a0.length : Int)) then
    if decide (j_4819 < (a1.length : Int)) then
      getI a0 i_4818 >>= fun c_4848 =>
      getI a1 j_4819 >>= fun c_4849 =>
      (
        if decide ((max c_4848.x0 c_4849.x0) ≤ (min c_4848.x1 c_4849.x1)) then
          room (out_4815.length + 1) 16 >>= fun _ =>
          some (out_4815 ++ ([Pr.mk (max c_4848.x0 c_4849.x0) (min c_4848.x1 c_4849.x1)]))
        else
          some out_4815
      ) >>= fun out_4854 =>
      if decide (c_4848.x1 < c_4849.x1) then
        PL.set_common.l0 a0 a1 out_4854 (w64 (i_4818 + 1)) j_4819
      else
        PL.set_common.l0 a0 a1 out_4854 i_4818 (w64 (j_4819 + 1))
    else
      some out_4815
  else
    some out_4815
  partial_fixpoint

def PL.set_common (a0 : List Pr) (a1 : List Pr) : Option (List Pr) :=
  PL.set_common.l0 a0 a1 [] 0 0 >>= fun out_4841 =>
  some out_4841

def PL.set_outside.l0 (a0 : List Pr) (out_4946 : List Pr) (lo_4949 : Int) (x_4950 : Int) : Option ((List Pr × Int)) :=
  if decide (x_4950 < (a0.length : Int)) then
    getI a0 x_4950 >>= fun c_4973 =>
    (
      if decide (lo_4949 < c_4973.x0) then
        room (out_4946.length + 1) 16 >>= fun _ =>
        some (out_4946 ++ ([Pr.mk lo_4949 (w64 (c_4973.x0 - 1))]))
      else
        some out_4946
    ) >>= fun out_4979 =>
    PL.set_outside.l0 a0 out_4979 (w64 (c_4973.x1 + 1)) (w64 (x_4950 + 1))
  else
    some (out_4946, lo_4949)
  partial_fixpoint

def PL.set_outside (a0 : List Pr) : Option (List Pr) :=
  PL.set_outside.l0 a0 [] (-1000000000000000) 0 >>= fun (out_4968, lo_4971) =>
  (
    if decide (lo_4971 ≤ 1000000000000000) then
      room (out_4968.length + 1) 16 >>= fun _ =>
      some (out_4968 ++ ([Pr.mk lo_4971 1000000000000000]))
    else
      some out_4968
  ) >>= fun out_4995 =>
  some out_4995

def PL.set_value.l1 (kids_5059 : List (List Pr)) (s_5110 : List Pr) (x_5111 : Int) : Option ((List Pr)) :=
  if decide (x_5111 < (((kids_5059.take (kids_5059.length : Int).toNat).drop (1 : Int).toNat).length : Int)) then
    getI ((kids_5059.take (kids_5059.length : Int).toNat).drop (1 : Int).toNat) x_5111 >>= fun c_5118 =>
    PL.set_common s_5110 c_5118 >>= fun rv_5119 =>
    PL.set_value.l1 kids_5059 rv_5119 (w64 (x_5111 + 1))
  else
    some s_5110
  partial_fixpoint

mutual
def PL.set_value.l0 (a0 : Node) (kids_5047 : List (List Pr)) (x_5050 : Int) : Option ((List (List Pr))) :=
  if decide (x_5050 < (a0.Kids.length : Int)) then
    getI a0.Kids x_5050 >>= fun c_5063 =>
    PL.set_value c_5063 >>= fun rv_5065 =>
    room (kids_5047.length + 1) 24 >>= fun _ =>
    PL.set_value.l0 a0 (kids_5047 ++ ([rv_5065])) (w64 (x_5050 + 1))
  else
    some kids_5047
  partial_fixpoint

def PL.set_value (a0 : Node) : Option (List Pr) :=
  PL.set_value.l0 a0 [] 0 >>= fun kids_5059 =>
  if a0.Op == 0 then
    some ([Pr.mk a0.Lo a0.Hi])
  else
    if a0.Op == 1 then
      PL.slices_Concat_2int2int kids_5059 >>= fun rv_5075 =>
      PL.set_tidy rv_5075 >>= fun (rv_5081, k_5082) =>
      some rv_5081
    else
      if a0.Op == 2 then
        getI kids_5059 0 >>= fun c_5087 =>
        if (1 : Int) ≤ (kids_5059.length : Int) then
          PL.set_value.l1 kids_5059 c_5087 0 >>= fun s_5116 =>
          some s_5116
        else none
      else
        if a0.Op == 3 then
          getI kids_5059 0 >>= fun c_5124 =>
          getI kids_5059 1 >>= fun c_5125 =>
          PL.set_outside c_5125 >>= fun rv_5126 =>
          PL.set_common c_5124 rv_5126 >>= fun rv_5128 =>
          some rv_5128
        else
          if a0.Op == 4 then
            some ([Pr.mk (-1000000000000000) 1000000000000000])
          else
            getI kids_5059 0 >>= fun c_5132 =>
            some c_5132
  partial_fixpoint

end

def PL.set_Of (a0 : Node) : Option (List Pr × Int) :=
  PL.set_check a0 >>= fun rv_5134 =>
  if rv_5134 != 0 then
    some ([], rv_5134)
  else
    PL.set_value a0 >>= fun rv_5137 =>
    PL.set_limited rv_5137 >>= fun (rv_5139, rv_5140) =>
    some (rv_5139, rv_5140)

def PL.ref01_Pairs.l0 (a0 : List Pr) (a1 : List Pr) (i_5162 : Int) : Option (Unit ⊕ Unit) :=
  if decide (i_5162 < (a0.length : Int)) then
    getI a0 i_5162 >>= fun c_5168 =>
    getI a1 i_5162 >>= fun c_5169 =>
    if !(c_5168.x0 == c_5169.x0 && c_5168.x1 == c_5169.x1) then
      some (Sum.inr ())
    else
      PL.ref01_Pairs.l0 a0 a1 (w64 (i_5162 + 1))
  else
    some (Sum.inl ())
  partial_fixpoint

def PL.ref01_Pairs (a0 : List Pr) (a1 : List Pr) : Option Bool :=
  if (a0.length : Int) != (a1.length : Int) then
    some false
  else
    PL.ref01_Pairs.l0 a0 a1 0 >>= fun
    | Sum.inl _ =>
      some true
    | Sum.inr _ =>
      some false

def PL.set_Valid.l0 (a0 : List Pr) (x_5206 : Int) : Option (Unit ⊕ Unit) :=
  if decide (x_5206 < (a0.length : Int)) then
    getI a0 x_5206 >>= fun c_5217 =>
    if decide (c_5217.x0 > c_5217.x1) then
      some (Sum.inr ())
    else
      if decide (c_5217.x0 < (-1000000000000000)) then
        some (Sum.inr ())
      else
        if decide (c_5217.x1 > 1000000000000000) then
          some (Sum.inr ())
        else
          if decide (x_5206 > 0) then
            getI a0 (w64 (x_5206 - 1)) >>= fun c_5223 =>
            if decide ((w64 (c_5217.x0 - c_5223.x1)) < 2) then
              some (Sum.inr ())
            else
              PL.set_Valid.l0 a0 (w64 (x_5206 + 1))
          else
            PL.set_Valid.l0 a0 (w64 (x_5206 + 1))
  else
    some (Sum.inl ())
  partial_fixpoint

def PL.set_Valid (a0 : List Pr) : Option Bool :=
  PL.set_Valid.l0 a0 0 >>= fun
  | Sum.inl _ =>
    some (decide ((a0.length : Int) ≤ 100))
  | Sum.inr _ =>
    some false

def PL.set_Size.l0 (a0 : List Pr) (n_5257 : Int) (x_5258 : Int) : Option (Int) :=
  if decide (x_5258 < (a0.length : Int)) then
    getI a0 x_5258 >>= fun c_5264 =>
    PL.set_Size.l0 a0 (w64 (n_5257 + (w64 ((w64 (c_5264.x1 - c_5264.x0)) + 1)))) (w64 (x_5258 + 1))
  else
    some n_5257
  partial_fixpoint

def PL.set_Size (a0 : List Pr) : Option (Int × Int) :=
  PL.set_Valid a0 >>= fun rv_5227 =>
  if !rv_5227 then
    some (0, 1)
  else
    PL.set_Size.l0 a0 0 0 >>= fun n_5262 =>
    some (n_5262, 0)

def PL.law03_sane : Option Bool :=
  PL.set_Of (Node.mk 3 0 0 ([Node.mk 0 1 5 [], Node.mk 0 3 3 []])) >>= fun (rv_5270, rv_5271) =>
  PL.set_Size rv_5270 >>= fun (rv_5273, rv_5274) =>
  if rv_5271 == 0 then
    if rv_5274 == 0 then
      if rv_5273 == 4 then
        PL.ref01_Pairs rv_5270 ([Pr.mk 1 2, Pr.mk 4 5]) >>= fun rv_5280 =>
        some rv_5280
      else
        some false
    else
      some false
  else
    some false

mutual
def PL.law03_node.l0 (a0 : Node) (c_5398 : List Node) (i_5401 : Int) : Option ((List Node)) :=
  if decide (i_5401 < (a0.Kids.length : Int)) then
    getI a0.Kids i_5401 >>= fun c_5432 =>
    PL.law03_node c_5432 >>= fun rv_5433 =>
    room (c_5398.length + 1) 48 >>= fun _ =>
    PL.law03_node.l0 a0 (c_5398 ++ ([rv_5433])) (w64 (i_5401 + 1))
  else
    some c_5398
  partial_fixpoint

def PL.law03_node (a0 : Node) : Option Node :=
  PL.law03_node.l0 a0 [] 0 >>= fun c_5428 =>
  some (Node.mk a0.Op a0.Lo a0.Hi c_5428)
  partial_fixpoint

end

mutual
def PL.ref03_size.l0 (a0 : Node) (nodes_5507 : Int) (deep_5508 : Int) (i_5509 : Int) : Option ((Int × Int)) :=
  if decide (i_5509 < (a0.Kids.length : Int)) then
    if decide (nodes_5507 ≤ 200) then
      getI a0.Kids i_5509 >>= fun c_5520 =>
      PL.ref03_size c_5520 >>= fun (rv_5521, rv_5522) =>
      PL.ref03_size.l0 a0 (w64 (nodes_5507 + rv_5521)) (max deep_5508 rv_5522) (w64 (i_5509 + 1))
    else
      some (nodes_5507, deep_5508)
  else
    some (nodes_5507, deep_5508)
  partial_fixpoint

def PL.ref03_size (a0 : Node) : Option (Int × Int) :=
  PL.ref03_size.l0 a0 1 0 0 >>= fun (nodes_5516, deep_5517) =>
  some (nodes_5516, w64 (deep_5517 + 1))
  partial_fixpoint

end

mutual
def PL.ref03_shaped.l0 (a0 : Node) (i_5573 : Int) : Option (Unit ⊕ Unit) :=
  if decide (i_5573 < (a0.Kids.length : Int)) then
    getI a0.Kids i_5573 >>= fun c_5580 =>
    PL.ref03_shaped c_5580 >>= fun rv_5581 =>
    if !rv_5581 then
      some (Sum.inr ())
    else
      PL.ref03_shaped.l0 a0 (w64 (i_5573 + 1))
  else
    some (Sum.inl ())
  partial_fixpoint

def PL.ref03_shaped (a0 : Node) : Option Bool :=
  ((
    if a0.Op == 0 then
      if (a0.Kids.length : Int) == 0 then
        if decide (a0.Lo ≤ a0.Hi) then
          if decide (a0.Lo ≥ (-1000000000000000)) then
            (
              some (decide (a0.Hi ≤ 1000000000000000))
            ) >>= fun z => some (Sum.inr z)
          else
            (
              some false
            ) >>= fun z => some (Sum.inr z)
        else
          (
            some false
          ) >>= fun z => some (Sum.inr z)
      else
        (
          some false
        ) >>= fun z => some (Sum.inr z)
    else
      (
        if a0.Op == 1 then
          some (a0.Op == 1)
        else
          some (a0.Op == 2)
      ) >>= fun x_5599 =>
      if x_5599 then
        if decide ((a0.Kids.length : Int) < 2) then
          (
            some false
          ) >>= fun z => some (Sum.inr z)
        else
          some (Sum.inl ())
      else
        if a0.Op == 3 then
          if (a0.Kids.length : Int) != 2 then
            (
              some false
            ) >>= fun z => some (Sum.inr z)
          else
            some (Sum.inl ())
        else
          if a0.Op == 4 then
            if (a0.Kids.length : Int) != 0 then
              (
                some false
              ) >>= fun z => some (Sum.inr z)
            else
              some (Sum.inl ())
          else
            if a0.Op == 5 then
              if (a0.Kids.length : Int) != 1 then
                (
                  some false
                ) >>= fun z => some (Sum.inr z)
              else
                some (Sum.inl ())
            else
              (
                some false
              ) >>= fun z => some (Sum.inr z)
  ) : Option (Unit ⊕ Bool)) >>= fun
  | .inl _ =>
    if a0.Lo != 0 then
      some false
    else
      if a0.Hi != 0 then
        some false
      else
        PL.ref03_shaped.l0 a0 0 >>= fun
        | Sum.inl _ =>
          some true
        | Sum.inr _ =>
          some false
  | .inr z => some z
  partial_fixpoint

end

def PL.ref03_Check (a0 : Node) : Option Int :=
  PL.ref03_size a0 >>= fun (rv_5623, rv_5624) =>
  if decide (rv_5623 > 200) then
    some 2
  else
    if decide (rv_5624 > 20) then
      some 2
    else
      PL.ref03_shaped a0 >>= fun rv_5628 =>
      if !rv_5628 then
        some 1
      else
        some 0

def PL.ref03_told (a0 : List Pr) : Option (List Pr × Int) :=
  if decide ((a0.length : Int) > 100) then
    some ([], 2)
  else
    some (a0, 0)

def PL.ref03_put.l0 (a0 : List Int) (a1 : Int) (out_5753 : List Int) (done_5756 : Bool) (i_5757 : Int) : Option ((List Int × Bool)) :=
  if decide (i_5757 < (a0.length : Int)) then
    (
      if !done_5756 then
        getI a0 i_5757 >>= fun c_5825 =>
        some (decide (a1 ≤ c_5825))
      else
        some false
    ) >>= fun x_5797 =>
    (
      if x_5797 then
        getI a0 i_5757 >>= fun c_5819 =>
        if decide (a1 < c_5819) then
          room (out_5753.length + 1) 8 >>= fun _ =>
          some (out_5753 ++ ([a1]), true)
        else
          some (out_5753, true)
      else
        some (out_5753, done_5756)
    ) >>= fun (out_5807, done_5810) =>
    getI a0 i_5757 >>= fun c_5814 =>
    room (out_5807.length + 1) 8 >>= fun _ =>
    PL.ref03_put.l0 a0 a1 (out_5807 ++ ([c_5814])) done_5810 (w64 (i_5757 + 1))
  else
    some (out_5753, done_5756)
  partial_fixpoint

def PL.ref03_put (a0 : List Int) (a1 : Int) : Option (List Int) :=
  PL.ref03_put.l0 a0 a1 [] false 0 >>= fun (out_5790, done_5793) =>
  (
    if !done_5793 then
      room (out_5790.length + 1) 8 >>= fun _ =>
      some (out_5790 ++ ([a1]))
    else
      some out_5790
  ) >>= fun out_5832 =>
  some out_5832

mutual
def PL.ref03_places.l0 (a0 : Node) (l_5873 : List Int) (i_5874 : Int) : Option ((List Int)) :=
  if decide (i_5874 < (a0.Kids.length : Int)) then
    getI a0.Kids i_5874 >>= fun c_5881 =>
    PL.ref03_places c_5881 l_5873 >>= fun rv_5882 =>
    PL.ref03_places.l0 a0 rv_5882 (w64 (i_5874 + 1))
  else
    some l_5873
  partial_fixpoint

def PL.ref03_places (a0 : Node) (a1 : List Int) : Option (List Int) :=
  (
    if a0.Op == 0 then
      PL.ref03_put a1 a0.Lo >>= fun rv_5887 =>
      PL.ref03_put rv_5887 (w64 (a0.Hi + 1)) >>= fun rv_5889 =>
      some rv_5889
    else
      some a1
  ) >>= fun l_5848 =>
  PL.ref03_places.l0 a0 l_5848 0 >>= fun l_5879 =>
  some l_5879
  partial_fixpoint

end

mutual
def PL.ref03_Holds.l0 (a0 : Node) (a1 : Int) (i_5918 : Int) : Option (Unit ⊕ Unit) :=
  if decide (i_5918 < (a0.Kids.length : Int)) then
    getI a0.Kids i_5918 >>= fun c_5925 =>
    PL.ref03_Holds c_5925 a1 >>= fun rv_5926 =>
    if rv_5926 then
      some (Sum.inr ())
    else
      PL.ref03_Holds.l0 a0 a1 (w64 (i_5918 + 1))
  else
    some (Sum.inl ())
  partial_fixpoint

def PL.ref03_Holds.l1 (a0 : Node) (a1 : Int) (i_5955 : Int) : Option (Unit ⊕ Unit) :=
  if decide (i_5955 < (a0.Kids.length : Int)) then
    getI a0.Kids i_5955 >>= fun c_5962 =>
    PL.ref03_Holds c_5962 a1 >>= fun rv_5963 =>
    if !rv_5963 then
      some (Sum.inr ())
    else
      PL.ref03_Holds.l1 a0 a1 (w64 (i_5955 + 1))
  else
    some (Sum.inl ())
  partial_fixpoint

def PL.ref03_Holds (a0 : Node) (a1 : Int) : Option Bool :=
  if a0.Op == 0 then
    if decide (a1 ≥ a0.Lo) then
      some (decide (a1 ≤ a0.Hi))
    else
      some false
  else
    if a0.Op == 1 then
      PL.ref03_Holds.l0 a0 a1 0 >>= fun
      | Sum.inl _ =>
        some false
      | Sum.inr _ =>
        some true
    else
      if a0.Op == 2 then
        PL.ref03_Holds.l1 a0 a1 0 >>= fun
        | Sum.inl _ =>
          some true
        | Sum.inr _ =>
          some false
      else
        if a0.Op == 3 then
          getI a0.Kids 0 >>= fun c_5969 =>
          PL.ref03_Holds c_5969 a1 >>= fun rv_5970 =>
          if rv_5970 then
            getI a0.Kids 1 >>= fun c_5973 =>
            PL.ref03_Holds c_5973 a1 >>= fun rv_5974 =>
            some (!rv_5974)
          else
            some false
        else
          if a0.Op == 5 then
            getI a0.Kids 0 >>= fun c_5977 =>
            PL.ref03_Holds c_5977 a1 >>= fun rv_5978 =>
            some rv_5978
          else
            if decide (a1 ≥ (-1000000000000000)) then
              some (decide (a1 ≤ 1000000000000000))
            else
              some false
  partial_fixpoint

end

def PL.ref03_set.l0 (a0 : Node) (rv_5987 : List Int) (out_6069 : List Pr) (i_6071 : Int) : Option ((List Pr)) :=
  if decide ((w64 (i_6071 + 1)) < (rv_5987.length : Int)) then
    getI rv_5987 i_6071 >>= fun c_6101 =>
    PL.ref03_Holds a0 c_6101 >>= fun rv_6102 =>
    if !rv_6102 then
      PL.ref03_set.l0 a0 rv_5987 out_6069 (w64 (i_6071 + 1))
    else
      (
        if decide ((out_6069.length : Int) > 0) then
          getI out_6069 (w64 ((out_6069.length : Int) - 1)) >>= fun c_6124 =>
          some (c_6124.x1 == (w64 (c_6101 - 1)))
        else
          some false
      ) >>= fun x_6109 =>
      if x_6109 then
        getI rv_5987 (w64 (i_6071 + 1)) >>= fun c_6114 =>
        getI out_6069 (w64 ((out_6069.length : Int) - 1)) >>= fun c_6115 =>
        PL.ref03_set.l0 a0 rv_5987 (out_6069.set (w64 ((out_6069.length : Int) - 1)).toNat (Pr.mk c_6115.x0 (w64 (c_6114 - 1)))) (w64 (i_6071 + 1))
      else
        getI rv_5987 (w64 (i_6071 + 1)) >>= fun c_6119 =>
        room (out_6069.length + 1) 16 >>= fun _ =>
        PL.ref03_set.l0 a0 rv_5987 (out_6069 ++ ([Pr.mk c_6101 (w64 (c_6119 - 1))])) (w64 (i_6071 + 1))
  else
    some out_6069
  partial_fixpoint

def PL.ref03_set (a0 : Node) : Option (List Pr) :=
  PL.ref03_places a0 [] >>= fun rv_5983 =>
  PL.ref03_put rv_5983 (-1000000000000000) >>= fun rv_5985 =>
  PL.ref03_put rv_5985 1000000000000001 >>= fun rv_5987 =>
  PL.ref03_set.l0 a0 rv_5987 [] 0 >>= fun out_6098 =>
  some out_6098

def PL.ref03_Of (a0 : Node) : Option (List Pr × Int) :=
  PL.ref03_Check a0 >>= fun rv_6129 =>
  if rv_6129 != 0 then
    some ([], rv_6129)
  else
    PL.ref03_set a0 >>= fun rv_6132 =>
    PL.ref03_told rv_6132 >>= fun (rv_6134, rv_6135) =>
    some (rv_6134, rv_6135)

mutual
def PL.set_extends_1 (a0 : Node) : Option Bool :=
  PL.set_extends a0 >>= fun rv_6138 =>
  some (!rv_6138)
  partial_fixpoint

def PL.slices_IndexFunc_of_set_extends.l0 (a0 : List Node) (x_6164 : Int) : Option (Unit ⊕ Int) :=
  if decide (x_6164 < (a0.length : Int)) then
    getI a0 x_6164 >>= fun c_6172 =>
    PL.set_extends c_6172 >>= fun rv_6173 =>
    if rv_6173 then
      some (Sum.inr x_6164)
    else
      PL.slices_IndexFunc_of_set_extends.l0 a0 (w64 (x_6164 + 1))
  else
    some (Sum.inl ())
  partial_fixpoint

def PL.slices_IndexFunc_of_set_extends (a0 : List Node) : Option Int :=
  PL.slices_IndexFunc_of_set_extends.l0 a0 0 >>= fun
  | Sum.inl _ =>
    some (-1)
  | Sum.inr x_6170 =>
    some x_6170
  partial_fixpoint

def PL.slices_ContainsFunc_of_set_extends (a0 : List Node) : Option Bool :=
  PL.slices_IndexFunc_of_set_extends a0 >>= fun rv_6178 =>
  some (decide (rv_6178 ≥ 0))
  partial_fixpoint

def PL.slices_IndexFunc_of_set_extends_1.l0 (a0 : List Node) (x_6204 : Int) : Option (Unit ⊕ Int) :=
  if decide (x_6204 < (a0.length : Int)) then
    getI a0 x_6204 >>= fun c_6212 =>
    PL.set_extends_1 c_6212 >>= fun rv_6213 =>
    if rv_6213 then
      some (Sum.inr x_6204)
    else
      PL.slices_IndexFunc_of_set_extends_1.l0 a0 (w64 (x_6204 + 1))
  else
    some (Sum.inl ())
  partial_fixpoint

def PL.slices_IndexFunc_of_set_extends_1 (a0 : List Node) : Option Int :=
  PL.slices_IndexFunc_of_set_extends_1.l0 a0 0 >>= fun
  | Sum.inl _ =>
    some (-1)
  | Sum.inr x_6210 =>
    some x_6210
  partial_fixpoint

def PL.slices_ContainsFunc_of_set_extends_1 (a0 : List Node) : Option Bool :=
  PL.slices_IndexFunc_of_set_extends_1 a0 >>= fun rv_6218 =>
  some (decide (rv_6218 ≥ 0))
  partial_fixpoint

def PL.set_extends (a0 : Node) : Option Bool :=
  if a0.Op == 5 then
    some true
  else
    if a0.Op == 1 then
      PL.slices_ContainsFunc_of_set_extends a0.Kids >>= fun rv_6223 =>
      some rv_6223
    else
      if a0.Op == 2 then
        PL.slices_ContainsFunc_of_set_extends_1 a0.Kids >>= fun rv_6226 =>
        some (!rv_6226)
      else
        if a0.Op == 3 then
          getI a0.Kids 0 >>= fun c_6229 =>
          PL.set_extends c_6229 >>= fun rv_6230 =>
          some rv_6230
        else
          some false
  partial_fixpoint

end

def PL.set_Extends (a0 : Node) : Option (Bool × Int) :=
  PL.set_check a0 >>= fun rv_6233 =>
  if rv_6233 != 0 then
    some (false, rv_6233)
  else
    PL.set_extends a0 >>= fun rv_6236 =>
    some (rv_6236, 0)

mutual
def PL.ref03_extends.l0 (a0 : Node) (i_6308 : Int) : Option (Unit ⊕ Unit) :=
  if decide (i_6308 < (a0.Kids.length : Int)) then
    getI a0.Kids i_6308 >>= fun c_6315 =>
    PL.ref03_extends c_6315 >>= fun rv_6316 =>
    if rv_6316 then
      some (Sum.inr ())
    else
      PL.ref03_extends.l0 a0 (w64 (i_6308 + 1))
  else
    some (Sum.inl ())
  partial_fixpoint

def PL.ref03_extends.l1 (a0 : Node) (i_6347 : Int) : Option (Unit ⊕ Unit) :=
  if decide (i_6347 < (a0.Kids.length : Int)) then
    getI a0.Kids i_6347 >>= fun c_6354 =>
    PL.ref03_extends c_6354 >>= fun rv_6355 =>
    if !rv_6355 then
      some (Sum.inr ())
    else
      PL.ref03_extends.l1 a0 (w64 (i_6347 + 1))
  else
    some (Sum.inl ())
  partial_fixpoint

def PL.ref03_extends (a0 : Node) : Option Bool :=
  ((
    if a0.Op == 1 then
      PL.ref03_extends.l0 a0 0 >>= fun
      | Sum.inl _ =>
        some (Sum.inl ())
      | Sum.inr _ =>
        (
          some true
        ) >>= fun z => some (Sum.inr z)
    else
      if a0.Op == 2 then
        PL.ref03_extends.l1 a0 0 >>= fun
        | Sum.inl _ =>
          (
            some true
          ) >>= fun z => some (Sum.inr z)
        | Sum.inr _ =>
          (
            some false
          ) >>= fun z => some (Sum.inr z)
      else
        if a0.Op == 3 then
          getI a0.Kids 0 >>= fun c_6365 =>
          PL.ref03_extends c_6365 >>= fun rv_6366 =>
          (
            some rv_6366
          ) >>= fun z => some (Sum.inr z)
        else
          some (Sum.inl ())
  ) : Option (Unit ⊕ Bool)) >>= fun
  | .inl _ =>
    some (a0.Op == 5)
  | .inr z => some z
  partial_fixpoint

end

def PL.ref03_Extends (a0 : Node) : Option (Bool × Int) :=
  PL.ref03_Check a0 >>= fun rv_6371 =>
  if rv_6371 != 0 then
    some (false, rv_6371)
  else
    PL.ref03_extends a0 >>= fun rv_6374 =>
    some (rv_6374, 0)

mutual
def PL.set_root.l0 (a0 : Node) (kids_6423 : List Node) (x_6426 : Int) : Option ((List Node)) :=
  if decide (x_6426 < (a0.Kids.length : Int)) then
    getI a0.Kids x_6426 >>= fun c_6439 =>
    PL.set_root c_6439 >>= fun rv_6441 =>
    room (kids_6423.length + 1) 48 >>= fun _ =>
    PL.set_root.l0 a0 (kids_6423 ++ ([rv_6441])) (w64 (x_6426 + 1))
  else
    some kids_6423
  partial_fixpoint

def PL.set_root (a0 : Node) : Option Node :=
  if a0.Op == 5 then
    getI a0.Kids 0 >>= fun c_6379 =>
    PL.set_root c_6379 >>= fun rv_6380 =>
    some rv_6380
  else
    PL.set_root.l0 a0 [] 0 >>= fun kids_6435 =>
    some (Node.mk a0.Op a0.Lo a0.Hi kids_6435)
  partial_fixpoint

end

def PL.set_Root (a0 : Node) : Option (Node × Int) :=
  PL.set_check a0 >>= fun rv_6450 =>
  if rv_6450 != 0 then
    some (Node.mk 0 0 0 [], rv_6450)
  else
    PL.set_root a0 >>= fun rv_6453 =>
    some (rv_6453, 0)

mutual
def PL.ref03_root.l0 (a0 : Node) (c_6575 : List Node) (i_6578 : Int) : Option ((List Node)) :=
  if decide (i_6578 < (a0.Kids.length : Int)) then
    getI a0.Kids i_6578 >>= fun c_6609 =>
    PL.ref03_root c_6609 >>= fun rv_6610 =>
    room (c_6575.length + 1) 48 >>= fun _ =>
    PL.ref03_root.l0 a0 (c_6575 ++ ([rv_6610])) (w64 (i_6578 + 1))
  else
    some c_6575
  partial_fixpoint

def PL.ref03_root (a0 : Node) : Option Node :=
  if a0.Op == 5 then
    getI a0.Kids 0 >>= fun c_6458 =>
    PL.ref03_root c_6458 >>= fun rv_6459 =>
    some rv_6459
  else
    PL.ref03_root.l0 a0 [] 0 >>= fun c_6605 =>
    some (Node.mk a0.Op a0.Lo a0.Hi c_6605)
  partial_fixpoint

end

def PL.ref03_Root (a0 : Node) : Option (Node × Int) :=
  PL.ref03_Check a0 >>= fun rv_6638 =>
  if rv_6638 != 0 then
    some (Node.mk 0 0 0 [], rv_6638)
  else
    PL.ref03_root a0 >>= fun rv_6641 =>
    some (rv_6641, 0)

mutual
def PL.ref03_Same.l0 (a0 : Node) (a1 : Node) (i_6676 : Int) : Option (Unit ⊕ Unit) :=
  if decide (i_6676 < (a0.Kids.length : Int)) then
    getI a0.Kids i_6676 >>= fun c_6684 =>
    getI a1.Kids i_6676 >>= fun c_6685 =>
    PL.ref03_Same c_6684 c_6685 >>= fun rv_6686 =>
    if !rv_6686 then
      some (Sum.inr ())
    else
      PL.ref03_Same.l0 a0 a1 (w64 (i_6676 + 1))
  else
    some (Sum.inl ())
  partial_fixpoint

def PL.ref03_Same (a0 : Node) (a1 : Node) : Option Bool :=
  if a0.Op != a1.Op then
    some false
  else
    if a0.Lo != a1.Lo then
      some false
    else
      if a0.Hi != a1.Hi then
        some false
      else
        if (a0.Kids.length : Int) != (a1.Kids.length : Int) then
          some false
        else
          PL.ref03_Same.l0 a0 a1 0 >>= fun
          | Sum.inl _ =>
            some true
          | Sum.inr _ =>
            some false
  partial_fixpoint

end

mutual
def PL.law03_back.l0 (a0 : Node) (a1 : Int) (c_6811 : List Node) (i_6814 : Int) : Option ((List Node)) :=
  if decide (i_6814 < (a0.Kids.length : Int)) then
    if decide (a1 > 0) then
      getI a0.Kids i_6814 >>= fun c_6847 =>
      PL.law03_back c_6847 (w64 (a1 - 1)) >>= fun rv_6848 =>
      room (c_6811.length + 1) 48 >>= fun _ =>
      PL.law03_back.l0 a0 a1 (c_6811 ++ ([rv_6848])) (w64 (i_6814 + 1))
    else
      some c_6811
  else
    some c_6811
  partial_fixpoint

def PL.law03_back (a0 : Node) (a1 : Int) : Option Node :=
  PL.law03_back.l0 a0 a1 [] 0 >>= fun c_6842 =>
  some (Node.mk a0.Op a0.Lo a0.Hi c_6842)
  partial_fixpoint

end

mutual
def PL.set_text.l0 (a0 : Node) (l_6933 : List ByteArray) (x_6936 : Int) : Option ((List ByteArray)) :=
  if decide (x_6936 < (a0.Kids.length : Int)) then
    getI a0.Kids x_6936 >>= fun c_6949 =>
    PL.set_text c_6949 >>= fun rv_6951 =>
    room (l_6933.length + 1) 16 >>= fun _ =>
    PL.set_text.l0 a0 (l_6933 ++ ([rv_6951])) (w64 (x_6936 + 1))
  else
    some l_6933
  partial_fixpoint

def PL.set_text (a0 : Node) : Option ByteArray :=
  if a0.Op == 0 then
    if a0.Lo == a0.Hi then
      PL.strconv_Itoa a0.Lo >>= fun rv_6877 =>
      some rv_6877
    else
      PL.strconv_Itoa a0.Lo >>= fun rv_6879 =>
      if rv_6879.size + k__46_46.size ≤ 9223372036854775807 then
        PL.strconv_Itoa a0.Hi >>= fun rv_6882 =>
        if (rv_6879 ++ k__46_46).size + rv_6882.size ≤ 9223372036854775807 then
          some ((rv_6879 ++ k__46_46) ++ rv_6882)
        else none
      else none
  else
    if a0.Op == 4 then
      some k_ALL
    else
      if a0.Op == 5 then
        getI a0.Kids 0 >>= fun c_6887 =>
        PL.set_text c_6887 >>= fun rv_6888 =>
        if k__91.size + rv_6888.size ≤ 9223372036854775807 then
          if (k__91 ++ rv_6888).size + k__44_32_46_46_46_93.size ≤ 9223372036854775807 then
            some ((k__91 ++ rv_6888) ++ k__44_32_46_46_46_93)
          else none
        else none
      else
        PL.set_text.l0 a0 [] 0 >>= fun l_6945 =>
        PL.set_joint a0.Op >>= fun rv_6958 =>
        PL.strings_Join l_6945 rv_6958 >>= fun rv_6960 =>
        if k__40.size + rv_6960.size ≤ 9223372036854775807 then
          if (k__40 ++ rv_6960).size + k__41.size ≤ 9223372036854775807 then
            some ((k__40 ++ rv_6960) ++ k__41)
          else none
        else none
  partial_fixpoint

end

def PL.set_Text (a0 : Node) : Option (ByteArray × Int) :=
  PL.set_check a0 >>= fun rv_6965 =>
  if rv_6965 != 0 then
    some (k_, rv_6965)
  else
    PL.set_text a0 >>= fun rv_6968 =>
    some (rv_6968, 0)

mutual
def PL.ref03_text.l0 (a0 : Node) (s_7049 : ByteArray) (i_7050 : Int) : Option (ByteArray) :=
  if decide (i_7050 < (a0.Kids.length : Int)) then
    (
      if decide (i_7050 > 0) then
        if s_7049.size + k__32.size ≤ 9223372036854775807 then
          if (0 : Int) ≤ (w64 (a0.Op - 1)) then
            if (w64 (a0.Op - 1)) ≤ a0.Op then
              if a0.Op ≤ (k__124_94_45.size : Int) then
                if (s_7049 ++ k__32).size + (k__124_94_45.extract (w64 (a0.Op - 1)).toNat a0.Op.toNat).size ≤ 9223372036854775807 then
                  if ((s_7049 ++ k__32) ++ (k__124_94_45.extract (w64 (a0.Op - 1)).toNat a0.Op.toNat)).size + k__32.size ≤ 9223372036854775807 then
                    some (((s_7049 ++ k__32) ++ (k__124_94_45.extract (w64 (a0.Op - 1)).toNat a0.Op.toNat)) ++ k__32)
                  else none
                else none
              else none
            else none
          else none
        else none
      else
        some s_7049
    ) >>= fun s_7083 =>
    getI a0.Kids i_7050 >>= fun c_7087 =>
    PL.ref03_text c_7087 >>= fun rv_7088 =>
    if s_7083.size + rv_7088.size ≤ 9223372036854775807 then
      PL.ref03_text.l0 a0 (s_7083 ++ rv_7088) (w64 (i_7050 + 1))
    else none
  else
    some s_7049
  partial_fixpoint

def PL.ref03_text (a0 : Node) : Option ByteArray :=
  if a0.Op == 0 then
    if a0.Lo == a0.Hi then
      PL.strconv_Itoa a0.Lo >>= fun rv_6973 =>
      some rv_6973
    else
      PL.strconv_Itoa a0.Lo >>= fun rv_6975 =>
      if rv_6975.size + k__46_46.size ≤ 9223372036854775807 then
        PL.strconv_Itoa a0.Hi >>= fun rv_6978 =>
        if (rv_6975 ++ k__46_46).size + rv_6978.size ≤ 9223372036854775807 then
          some ((rv_6975 ++ k__46_46) ++ rv_6978)
        else none
      else none
  else
    if a0.Op == 4 then
      some k_ALL
    else
      if a0.Op == 5 then
        getI a0.Kids 0 >>= fun c_6983 =>
        PL.ref03_text c_6983 >>= fun rv_6984 =>
        if k__91.size + rv_6984.size ≤ 9223372036854775807 then
          if (k__91 ++ rv_6984).size + k__44_32_46_46_46_93.size ≤ 9223372036854775807 then
            some ((k__91 ++ rv_6984) ++ k__44_32_46_46_46_93)
          else none
        else none
      else
        PL.ref03_text.l0 a0 k_ 0 >>= fun s_7074 =>
        if k__40.size + s_7074.size ≤ 9223372036854775807 then
          if (k__40 ++ s_7074).size + k__41.size ≤ 9223372036854775807 then
            some ((k__40 ++ s_7074) ++ k__41)
          else none
        else none
  partial_fixpoint

end

def PL.ref03_Text (a0 : Node) : Option (ByteArray × Int) :=
  PL.ref03_Check a0 >>= fun rv_7103 =>
  if rv_7103 != 0 then
    some (k_, rv_7103)
  else
    PL.ref03_text a0 >>= fun rv_7106 =>
    some (rv_7106, 0)

def PL.set_Hull (a0 : List Pr) : Option (Int × Int × Int) :=
  PL.set_Valid a0 >>= fun rv_7108 =>
  if !rv_7108 then
    some (0, 0, 1)
  else
    if (a0.length : Int) == 0 then
      some (0, 0, 3)
    else
      getI a0 0 >>= fun c_7112 =>
      getI a0 (w64 ((a0.length : Int) - 1)) >>= fun c_7113 =>
      some (c_7112.x0, c_7113.x1, 0)

def PL.set_Effective (a0 : Node) : Option (GoType × Int) :=
  PL.set_Of a0 >>= fun (rv_7116, rv_7117) =>
  if rv_7117 != 0 then
    some (GoType.mk 0 ByteArray.empty 0 0 false false [] [], rv_7117)
  else
    PL.set_Hull rv_7116 >>= fun (rv_7120, rv_7121, rv_7122) =>
    if rv_7122 != 0 then
      some (GoType.mk 0 ByteArray.empty 0 0 false false [] [], rv_7122)
    else
      if (rv_7116.length : Int) == 1 then
        if rv_7120 == (-1000000000000000) then
          if rv_7121 == 1000000000000000 then
            some (GoType.mk 2 ByteArray.empty 0 0 true false [] [], 0)
          else
            PL.set_extends a0 >>= fun rv_7128 =>
            some (GoType.mk 2 ByteArray.empty rv_7120 rv_7121 false rv_7128 [] [], 0)
        else
          PL.set_extends a0 >>= fun rv_7130 =>
          some (GoType.mk 2 ByteArray.empty rv_7120 rv_7121 false rv_7130 [] [], 0)
      else
        PL.set_extends a0 >>= fun rv_7132 =>
        some (GoType.mk 2 ByteArray.empty rv_7120 rv_7121 false rv_7132 [] [], 0)

def PL.ref03_Valid.l0 (a0 : List Pr) (i_7164 : Int) : Option (Unit ⊕ Unit) :=
  if decide (i_7164 < (a0.length : Int)) then
    getI a0 i_7164 >>= fun c_7174 =>
    if decide (c_7174.x0 > c_7174.x1) then
      some (Sum.inr ())
    else
      if decide (c_7174.x0 < (-1000000000000000)) then
        some (Sum.inr ())
      else
        if decide (c_7174.x1 > 1000000000000000) then
          some (Sum.inr ())
        else
          if decide (i_7164 > 0) then
            getI a0 (w64 (i_7164 - 1)) >>= fun c_7179 =>
            if decide (c_7174.x0 < (w64 (c_7179.x1 + 2))) then
              some (Sum.inr ())
            else
              PL.ref03_Valid.l0 a0 (w64 (i_7164 + 1))
          else
            PL.ref03_Valid.l0 a0 (w64 (i_7164 + 1))
  else
    some (Sum.inl ())
  partial_fixpoint

def PL.ref03_Valid (a0 : List Pr) : Option Bool :=
  if decide ((a0.length : Int) > 100) then
    some false
  else
    PL.ref03_Valid.l0 a0 0 >>= fun
    | Sum.inl _ =>
      some true
    | Sum.inr _ =>
      some false

def PL.ref03_Hull (a0 : List Pr) : Option (Int × Int × Int) :=
  PL.ref03_Valid a0 >>= fun rv_7183 =>
  if !rv_7183 then
    some (0, 0, 1)
  else
    if (a0.length : Int) == 0 then
      some (0, 0, 3)
    else
      getI a0 0 >>= fun c_7187 =>
      getI a0 (w64 ((a0.length : Int) - 1)) >>= fun c_7188 =>
      some (c_7187.x0, c_7188.x1, 0)

def PL.ref03_Effective (a0 : Node) : Option (GoType × Int) :=
  PL.ref03_Of a0 >>= fun (rv_7191, rv_7192) =>
  if rv_7192 != 0 then
    some (GoType.mk 0 ByteArray.empty 0 0 false false [] [], rv_7192)
  else
    PL.ref03_Hull rv_7191 >>= fun (rv_7195, rv_7196, rv_7197) =>
    if rv_7197 != 0 then
      some (GoType.mk 0 ByteArray.empty 0 0 false false [] [], rv_7197)
    else
      if (rv_7191.length : Int) == 1 then
        if rv_7195 == (-1000000000000000) then
          if rv_7196 == 1000000000000000 then
            some (GoType.mk 2 ByteArray.empty 0 0 true false [] [], 0)
          else
            PL.ref03_extends a0 >>= fun rv_7203 =>
            some (GoType.mk 2 ByteArray.empty rv_7195 rv_7196 false rv_7203 [] [], 0)
        else
          PL.ref03_extends a0 >>= fun rv_7205 =>
          some (GoType.mk 2 ByteArray.empty rv_7195 rv_7196 false rv_7205 [] [], 0)
      else
        PL.ref03_extends a0 >>= fun rv_7207 =>
        some (GoType.mk 2 ByteArray.empty rv_7195 rv_7196 false rv_7207 [] [], 0)

def PL.law03_SetOf (a0 : Node) : Option Bool :=
  PL.law03_large a0 >>= fun rv_7210 =>
  if rv_7210 then
    PL.law03_sane >>= fun rv_7213 =>
    some rv_7213
  else
    PL.law03_node a0 >>= fun rv_7215 =>
    PL.set_Of rv_7215 >>= fun (rv_7218, rv_7219) =>
    PL.ref03_Of a0 >>= fun (rv_7221, rv_7222) =>
    if rv_7219 != rv_7222 then
      some false
    else
      PL.ref01_Pairs rv_7218 rv_7221 >>= fun rv_7225 =>
      if !rv_7225 then
        some false
      else
        PL.set_Extends rv_7215 >>= fun (rv_7228, rv_7229) =>
        PL.ref03_Extends a0 >>= fun (rv_7231, rv_7232) =>
        if rv_7228 != rv_7231 then
          some false
        else
          if rv_7229 != rv_7232 then
            some false
          else
            PL.set_Root rv_7215 >>= fun (rv_7236, rv_7237) =>
            PL.ref03_Root a0 >>= fun (rv_7240, rv_7241) =>
            if rv_7237 != rv_7241 then
              some false
            else
              PL.law03_back rv_7236 400 >>= fun rv_7245 =>
              PL.ref03_Same rv_7245 rv_7240 >>= fun rv_7247 =>
              if !rv_7247 then
                some false
              else
                PL.set_Text rv_7215 >>= fun (rv_7250, rv_7251) =>
                PL.ref03_Text a0 >>= fun (rv_7253, rv_7254) =>
                if scmp .neq rv_7250 rv_7253 then
                  some false
                else
                  if rv_7251 != rv_7254 then
                    some false
                  else
                    PL.set_Effective rv_7215 >>= fun (rv_7258, rv_7259) =>
                    PL.ref03_Effective a0 >>= fun (rv_7262, rv_7263) =>
                    if rv_7259 != rv_7263 then
                      some false
                    else
                      if rv_7258.Kind != rv_7262.Kind then
                        some false
                      else
                        if rv_7258.Lo != rv_7262.Lo then
                          some false
                        else
                          if rv_7258.Hi != rv_7262.Hi then
                            some false
                          else
                            if rv_7258.Free != rv_7262.Free then
                              some false
                            else
                              if rv_7258.Ext != rv_7262.Ext then
                                some false
                              else
                                if scmp .neq rv_7258.Name k_ then
                                  some false
                                else
                                  if decide ((rv_7258.Items.length : Int) > 0) then
                                    some false
                                  else
                                    if decide ((rv_7258.Kids.length : Int) > 0) then
                                      some false
                                    else
                                      PL.law03_back rv_7215 400 >>= fun rv_7275 =>
                                      PL.ref03_Same rv_7275 a0 >>= fun rv_7277 =>
                                      if rv_7277 then
                                        PL.law03_sane >>= fun rv_7280 =>
                                        some rv_7280
                                      else
                                        some false

end Go.AV
