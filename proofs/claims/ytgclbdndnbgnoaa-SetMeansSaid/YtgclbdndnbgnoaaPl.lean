/- Plain functions: what the code computes. -/
import Derived.Test.YtgclbdndnbgnoaaVn
namespace Go.AV
set_option linter.all false

structure Pr where
  x0 : Int
  x1 : Int
  deriving Inhabited, DecidableEq

structure Node where
  Op : Int
  Lo : Int
  Hi : Int
  Kids : List Node
  deriving Inhabited

def k_t256_52136 : ByteArray := ⟨#[0, 1, 2, 2, 3, 3, 3, 3, 4, 4, 4, 4, 4, 4, 4, 4, 5, 5, 5, 5, 5, 5, 5, 5, 5, 5, 5, 5, 5, 5, 5, 5, 6, 6, 6, 6, 6, 6, 6, 6, 6, 6, 6, 6, 6, 6, 6, 6, 6, 6, 6, 6, 6, 6, 6, 6, 6, 6, 6, 6, 6, 6, 6, 6, 7, 7, 7, 7, 7, 7, 7, 7, 7, 7, 7, 7, 7, 7, 7, 7, 7, 7, 7, 7, 7, 7, 7, 7, 7, 7, 7, 7, 7, 7, 7, 7, 7, 7, 7, 7, 7, 7, 7, 7, 7, 7, 7, 7, 7, 7, 7, 7, 7, 7, 7, 7, 7, 7, 7, 7, 7, 7, 7, 7, 7, 7, 7, 7, 8, 8, 8, 8, 8, 8, 8, 8, 8, 8, 8, 8, 8, 8, 8, 8, 8, 8, 8, 8, 8, 8, 8, 8, 8, 8, 8, 8, 8, 8, 8, 8, 8, 8, 8, 8, 8, 8, 8, 8, 8, 8, 8, 8, 8, 8, 8, 8, 8, 8, 8, 8, 8, 8, 8, 8, 8, 8, 8, 8, 8, 8, 8, 8, 8, 8, 8, 8, 8, 8, 8, 8, 8, 8, 8, 8, 8, 8, 8, 8, 8, 8, 8, 8, 8, 8, 8, 8, 8, 8, 8, 8, 8, 8, 8, 8, 8, 8, 8, 8, 8, 8, 8, 8, 8, 8, 8, 8, 8, 8, 8, 8, 8, 8, 8, 8, 8, 8, 8, 8, 8, 8, 8, 8, 8, 8, 8, 8]⟩

def PL.ref01_Pairs.l0 (a0 : List Pr) (a1 : List Pr) (i_21 : Int) : Option (Unit ⊕ Unit) :=
  if decide (i_21 < (a0.length : Int)) then
    getI a0 i_21 >>= fun c_27 =>
    getI a1 i_21 >>= fun c_28 =>
    if !(c_27.x0 == c_28.x0 && c_27.x1 == c_28.x1) then
      some (Sum.inr ())
    else
      PL.ref01_Pairs.l0 a0 a1 (w64 (i_21 + 1))
  else
    some (Sum.inl ())
  partial_fixpoint

def PL.ref01_Pairs (a0 : List Pr) (a1 : List Pr) : Option Bool :=
  if (a0.length : Int) != (a1.length : Int) then
    some false
  else
    PL.ref01_Pairs.l0 a0 a1 0 >>= fun
    | Sum.inl _ =>
      some true
    | Sum.inr _ =>
      some false

def PL.set_Valid.l0 (a0 : List Pr) (x_65 : Int) : Option (Unit ⊕ Unit) :=
  if decide (x_65 < (a0.length : Int)) then
    getI a0 x_65 >>= fun c_76 =>
    if decide (c_76.x0 > c_76.x1) then
      some (Sum.inr ())
    else
      if decide (c_76.x0 < (-1000000000000000)) then
        some (Sum.inr ())
      else
        if decide (c_76.x1 > 1000000000000000) then
          some (Sum.inr ())
        else
          if decide (x_65 > 0) then
            getI a0 (w64 (x_65 - 1)) >>= fun c_82 =>
            if decide ((w64 (c_76.x0 - c_82.x1)) < 2) then
              some (Sum.inr ())
            else
              PL.set_Valid.l0 a0 (w64 (x_65 + 1))
          else
            PL.set_Valid.l0 a0 (w64 (x_65 + 1))
  else
    some (Sum.inl ())
  partial_fixpoint

def PL.set_Valid (a0 : List Pr) : Option Bool :=
  PL.set_Valid.l0 a0 0 >>= fun
  | Sum.inl _ =>
    some (decide ((a0.length : Int) ≤ 100))
  | Sum.inr _ =>
    some false

def PL.set_Size.l0 (a0 : List Pr) (n_116 : Int) (x_117 : Int) : Option (Int) :=
  if decide (x_117 < (a0.length : Int)) then
    getI a0 x_117 >>= fun c_123 =>
    PL.set_Size.l0 a0 (w64 (n_116 + (w64 ((w64 (c_123.x1 - c_123.x0)) + 1)))) (w64 (x_117 + 1))
  else
    some n_116
  partial_fixpoint

def PL.set_Size (a0 : List Pr) : Option (Int × Int) :=
  PL.set_Valid a0 >>= fun rv_86 =>
  if !rv_86 then
    some (0, 1)
  else
    PL.set_Size.l0 a0 0 0 >>= fun n_121 =>
    some (n_121, 0)

mutual
def PL.set_size.l0 (a0 : Node) (deep_177 : Int) (nodes_178 : Int) (x_179 : Int) : Option ((Int × Int)) :=
  if decide (x_179 < (a0.Kids.length : Int)) then
    getI a0.Kids x_179 >>= fun c_189 =>
    PL.set_size c_189 >>= fun (rv_191, rv_192) =>
    PL.set_size.l0 a0 (max deep_177 rv_192) (w64 (nodes_178 + rv_191)) (w64 (x_179 + 1))
  else
    some (deep_177, nodes_178)
  partial_fixpoint

def PL.set_size (a0 : Node) : Option (Int × Int) :=
  PL.set_size.l0 a0 0 1 0 >>= fun (deep_186, nodes_187) =>
  some (nodes_187, w64 (deep_186 + 1))
  partial_fixpoint

end

mutual
def PL.set_formed_1 (a0 : Node) : Option Bool :=
  PL.set_formed a0 >>= fun rv_197 =>
  some (!rv_197)
  partial_fixpoint

def PL.slices_IndexFunc_of_set_formed_1.l0 (a0 : List Node) (x_223 : Int) : Option (Unit ⊕ Int) :=
  if decide (x_223 < (a0.length : Int)) then
    getI a0 x_223 >>= fun c_231 =>
    PL.set_formed_1 c_231 >>= fun rv_232 =>
    if rv_232 then
      some (Sum.inr x_223)
    else
      PL.slices_IndexFunc_of_set_formed_1.l0 a0 (w64 (x_223 + 1))
  else
    some (Sum.inl ())
  partial_fixpoint

def PL.slices_IndexFunc_of_set_formed_1 (a0 : List Node) : Option Int :=
  PL.slices_IndexFunc_of_set_formed_1.l0 a0 0 >>= fun
  | Sum.inl _ =>
    some (-1)
  | Sum.inr x_229 =>
    some x_229
  partial_fixpoint

def PL.slices_ContainsFunc_of_set_formed_1 (a0 : List Node) : Option Bool :=
  PL.slices_IndexFunc_of_set_formed_1 a0 >>= fun rv_237 =>
  some (decide (rv_237 ≥ 0))
  partial_fixpoint

def PL.set_formed (a0 : Node) : Option Bool :=
  (
    if a0.Lo == 0 then
      some (a0.Hi == 0)
    else
      some false
  ) >>= fun ok_241 =>
  ((
    if a0.Op == 0 then
      if (a0.Kids.length : Int) == 0 then
        if decide (a0.Lo ≤ a0.Hi) then
          if decide (a0.Lo ≥ (-1000000000000000)) then
            (
              some (decide (a0.Hi ≤ 1000000000000000))
            ) >>= fun z => some (Sum.inr z)
          else
            (
              some false
            ) >>= fun z => some (Sum.inr z)
        else
          (
            some false
          ) >>= fun z => some (Sum.inr z)
      else
        (
          some false
        ) >>= fun z => some (Sum.inr z)
    else
      (
        if a0.Op == 1 then
          some (a0.Op == 1)
        else
          some (a0.Op == 2)
      ) >>= fun x_283 =>
      if x_283 then
        if ok_241 then
          some (Sum.inl (decide ((a0.Kids.length : Int) ≥ 2)))
        else
          some (Sum.inl false)
      else
        if a0.Op == 3 then
          if ok_241 then
            some (Sum.inl ((a0.Kids.length : Int) == 2))
          else
            some (Sum.inl false)
        else
          if a0.Op == 4 then
            if ok_241 then
              some (Sum.inl ((a0.Kids.length : Int) == 0))
            else
              some (Sum.inl false)
          else
            if a0.Op == 5 then
              if ok_241 then
                some (Sum.inl ((a0.Kids.length : Int) == 1))
              else
                some (Sum.inl false)
            else
              (
                some false
              ) >>= fun z => some (Sum.inr z)
  ) : Option (Bool ⊕ Bool)) >>= fun
  | .inl ok_263 =>
    if ok_263 then
      PL.slices_ContainsFunc_of_set_formed_1 a0.Kids >>= fun rv_268 =>
      some (!rv_268)
    else
      some false
  | .inr z => some z
  partial_fixpoint

end

def PL.set_check (a0 : Node) : Option Int :=
  PL.set_size a0 >>= fun (rv_300, rv_301) =>
  if decide (rv_300 > 200) then
    some 2
  else
    if decide (rv_301 > 20) then
      some 2
    else
      PL.set_formed a0 >>= fun rv_305 =>
      if !rv_305 then
        some 1
      else
        some 0

def PL.set_limited (a0 : List Pr) : Option (List Pr × Int) :=
  if decide ((a0.length : Int) > 100) then
    some ([], 2)
  else
    some (a0, 0)

def PL.slices_insertionSortCmpFunc_2int.l1 (a3 : Pr → Pr → Option Int) (a1 : Int) (a2 : Int) (i_357 : Int) (bu_419 : List Pr) (j_421 : Int) : Option ((List Pr)) :=
  if decide (j_421 > a1) then
    getI bu_419 j_421 >>= fun c_437 =>
    getI bu_419 (w64 (j_421 - 1)) >>= fun c_439 =>
    a3 c_437 c_439 >>= fun rv_440 =>
    if decide (rv_440 < 0) then
      getI (bu_419.set j_421.toNat c_439) (w64 (j_421 - 1)) >>= fun c_445 =>
      PL.slices_insertionSortCmpFunc_2int.l1 a3 a1 a2 i_357 ((bu_419.set j_421.toNat c_439).set (w64 (j_421 - 1)).toNat c_437) (w64 (j_421 - 1))
    else
      some bu_419
  else
    some bu_419
  partial_fixpoint

def PL.slices_insertionSortCmpFunc_2int.l0 (a3 : Pr → Pr → Option Int) (a1 : Int) (a2 : Int) (bu_355 : List Pr) (i_357 : Int) : Option ((List Pr)) :=
  if decide (i_357 < a2) then
    PL.slices_insertionSortCmpFunc_2int.l1 a3 a1 a2 i_357 bu_355 i_357 >>= fun bu_434 =>
    PL.slices_insertionSortCmpFunc_2int.l0 a3 a1 a2 bu_434 (w64 (i_357 + 1))
  else
    some bu_355
  partial_fixpoint

def PL.slices_insertionSortCmpFunc_2int (a0 : List Pr) (a1 : Int) (a2 : Int) (a3 : Pr → Pr → Option Int) : Option (List Pr) :=
  PL.slices_insertionSortCmpFunc_2int.l0 a3 a1 a2 a0 (w64 (a1 + 1)) >>= fun bu_403 =>
  some bu_403

def PL.slices_siftDownCmpFunc_2int.l0 (a4 : Pr → Pr → Option Int) (a2 : Int) (a3 : Int) (bu_489 : List Pr) (root_491 : Int) : Option ((List Pr) ⊕ (List Pr)) :=
  if decide ((w64 ((w64 (2 * root_491)) + 1)) ≥ a2) then
    some (Sum.inl bu_489)
  else
    if decide ((w64 ((w64 ((w64 (2 * root_491)) + 1)) + 1)) < a2) then
      getI bu_489 (w64 (a3 + (w64 ((w64 (2 * root_491)) + 1)))) >>= fun c_534 =>
      getI bu_489 (w64 ((w64 (a3 + (w64 ((w64 (2 * root_491)) + 1)))) + 1)) >>= fun c_536 =>
      a4 c_534 c_536 >>= fun rv_537 =>
      (
        if decide (rv_537 < 0) then
          some (w64 ((w64 ((w64 (2 * root_491)) + 1)) + 1))
        else
          some (w64 ((w64 (2 * root_491)) + 1))
      ) >>= fun child_541 =>
      getI bu_489 (w64 (a3 + root_491)) >>= fun c_545 =>
      getI bu_489 (w64 (a3 + child_541)) >>= fun c_547 =>
      a4 c_545 c_547 >>= fun rv_548 =>
      if !(decide (rv_548 < 0)) then
        some (Sum.inr bu_489)
      else
        getI (bu_489.set (w64 (a3 + root_491)).toNat c_547) (w64 (a3 + child_541)) >>= fun c_553 =>
        PL.slices_siftDownCmpFunc_2int.l0 a4 a2 a3 ((bu_489.set (w64 (a3 + root_491)).toNat c_547).set (w64 (a3 + child_541)).toNat c_545) child_541
    else
      getI bu_489 (w64 (a3 + root_491)) >>= fun c_557 =>
      getI bu_489 (w64 (a3 + (w64 ((w64 (2 * root_491)) + 1)))) >>= fun c_559 =>
      a4 c_557 c_559 >>= fun rv_560 =>
      if !(decide (rv_560 < 0)) then
        some (Sum.inr bu_489)
      else
        getI (bu_489.set (w64 (a3 + root_491)).toNat c_559) (w64 (a3 + (w64 ((w64 (2 * root_491)) + 1)))) >>= fun c_565 =>
        PL.slices_siftDownCmpFunc_2int.l0 a4 a2 a3 ((bu_489.set (w64 (a3 + root_491)).toNat c_559).set (w64 (a3 + (w64 ((w64 (2 * root_491)) + 1)))).toNat c_557) (w64 ((w64 (2 * root_491)) + 1))
  partial_fixpoint

def PL.slices_siftDownCmpFunc_2int (a0 : List Pr) (a1 : Int) (a2 : Int) (a3 : Int) (a4 : Pr → Pr → Option Int) : Option (List Pr) :=
  PL.slices_siftDownCmpFunc_2int.l0 a4 a2 a3 a0 a1 >>= fun
  | Sum.inl bu_528 =>
    some bu_528
  | Sum.inr bu_530 =>
    some bu_530

def PL.slices_heapSortCmpFunc_2int.l0 (a3 : Pr → Pr → Option Int) (a1 : Int) (a2 : Int) (bu_600 : List Pr) (i_602 : Int) : Option ((List Pr)) :=
  if decide (i_602 ≥ 0) then
    PL.slices_siftDownCmpFunc_2int bu_600 i_602 (w64 (a2 - a1)) a1 a3 >>= fun k_611 =>
    PL.slices_heapSortCmpFunc_2int.l0 a3 a1 a2 k_611 (w64 (i_602 - 1))
  else
    some bu_600
  partial_fixpoint

def PL.slices_heapSortCmpFunc_2int.l1 (a3 : Pr → Pr → Option Int) (a1 : Int) (bu_631 : List Pr) (i_633 : Int) : Option ((List Pr)) :=
  if decide (i_633 ≥ 0) then
    getI bu_631 (w64 (a1 + i_633)) >>= fun c_650 =>
    getI bu_631 a1 >>= fun c_652 =>
    getI (bu_631.set a1.toNat c_650) (w64 (a1 + i_633)) >>= fun c_655 =>
    PL.slices_siftDownCmpFunc_2int ((bu_631.set a1.toNat c_650).set (w64 (a1 + i_633)).toNat c_652) 0 i_633 a1 a3 >>= fun k_658 =>
    PL.slices_heapSortCmpFunc_2int.l1 a3 a1 k_658 (w64 (i_633 - 1))
  else
    some bu_631
  partial_fixpoint

def PL.slices_heapSortCmpFunc_2int (a0 : List Pr) (a1 : Int) (a2 : Int) (a3 : Pr → Pr → Option Int) : Option (List Pr) :=
  PL.slices_heapSortCmpFunc_2int.l0 a3 a1 a2 a0 (w64 (Int.tdiv (w64 ((w64 (a2 - a1)) - 1)) 2)) >>= fun bu_608 =>
  PL.slices_heapSortCmpFunc_2int.l1 a3 a1 bu_608 (w64 ((w64 (a2 - a1)) - 1)) >>= fun bu_647 =>
  some bu_647

def PL.math_bits_Len32 (a0 : Int) : Option Int :=
  (
    if decide (a0 ≥ 65536) then
      some (ishr .u32 a0 16, 16)
    else
      some (a0, 0)
  ) >>= fun (x_666, n_667) =>
  (
    if decide (x_666 ≥ 256) then
      some (ishr .u32 x_666 8, w64 (n_667 + 8))
    else
      some (x_666, n_667)
  ) >>= fun (x_673, n_674) =>
  if (0 : Int) ≤ (IntKind.wrap .u8 (x_673)) then
    if (IntKind.wrap .u8 (x_673)) < (k_t256_52136.size : Int) then
      some (w64 (n_674 + (w64 (((k_t256_52136.get! (IntKind.wrap .u8 (x_673)).toNat).toNat : Int)))))
    else none
  else none

def PL.math_bits_Len64 (a0 : Int) : Option Int :=
  (
    if decide (a0 ≥ 4294967296) then
      some (ishr .u64 a0 32, 32)
    else
      some (a0, 0)
  ) >>= fun (x_686, n_687) =>
  (
    if decide (x_686 ≥ 65536) then
      some (ishr .u64 x_686 16, w64 (n_687 + 16))
    else
      some (x_686, n_687)
  ) >>= fun (x_693, n_694) =>
  (
    if decide (x_693 ≥ 256) then
      some (ishr .u64 x_693 8, w64 (n_694 + 8))
    else
      some (x_693, n_694)
  ) >>= fun (x_700, n_701) =>
  if (0 : Int) ≤ (IntKind.wrap .u8 (x_700)) then
    if (IntKind.wrap .u8 (x_700)) < (k_t256_52136.size : Int) then
      some (w64 (n_701 + (w64 (((k_t256_52136.get! (IntKind.wrap .u8 (x_700)).toNat).toNat : Int)))))
    else none
  else none

def PL.math_bits_Len (a0 : Int) : Option Int :=
  PL.math_bits_Len64 a0 >>= fun rv_713 =>
  some rv_713

def PL.slices_nextPowerOfTwo (a0 : Int) : Option Int :=
  PL.math_bits_Len (IntKind.wrap .u64 (a0)) >>= fun rv_715 =>
  if (0 : Int) ≤ rv_715 then
    some (ishl .u64 1 rv_715)
  else none

def PL.slices_xorshift_Next (a0 : Int) : Option (Int × Int) :=
  some (ibits .xor .u64 (ibits .xor .u64 (ibits .xor .u64 a0 (ishl .u64 a0 13)) (ishr .u64 (ibits .xor .u64 a0 (ishl .u64 a0 13)) 7)) (ishl .u64 (ibits .xor .u64 (ibits .xor .u64 a0 (ishl .u64 a0 13)) (ishr .u64 (ibits .xor .u64 a0 (ishl .u64 a0 13)) 7)) 17), ibits .xor .u64 (ibits .xor .u64 (ibits .xor .u64 a0 (ishl .u64 a0 13)) (ishr .u64 (ibits .xor .u64 a0 (ishl .u64 a0 13)) 7)) (ishl .u64 (ibits .xor .u64 (ibits .xor .u64 a0 (ishl .u64 a0 13)) (ishr .u64 (ibits .xor .u64 a0 (ishl .u64 a0 13)) 7)) 17))

def PL.slices_breakPatternsCmpFunc_2int.l0 (a3 : Pr → Pr → Option Int) (a1 : Int) (a2 : Int) (rv_723 : Int) (bu_747 : List Pr) (c_749 : Int) (idx_750 : Int) : Option ((List Pr)) :=
  if decide (idx_750 ≤ (w64 ((w64 (a1 + (w64 ((w64 (Int.tdiv (w64 (a2 - a1)) 4)) * 2)))) + 1))) then
    PL.slices_xorshift_Next c_749 >>= fun (rv_775, k_776) =>
    (
      if decide ((w64 (ibits .and .u64 rv_775 (IntKind.wrap .u64 (rv_723 - 1)))) ≥ (w64 (a2 - a1))) then
        some (w64 ((w64 (ibits .and .u64 rv_775 (IntKind.wrap .u64 (rv_723 - 1)))) - (w64 (a2 - a1))))
      else
        some (w64 (ibits .and .u64 rv_775 (IntKind.wrap .u64 (rv_723 - 1))))
    ) >>= fun other_780 =>
    getI bu_747 (w64 (a1 + other_780)) >>= fun c_784 =>
    getI bu_747 idx_750 >>= fun c_786 =>
    getI (bu_747.set idx_750.toNat c_784) (w64 (a1 + other_780)) >>= fun c_789 =>
    PL.slices_breakPatternsCmpFunc_2int.l0 a3 a1 a2 rv_723 ((bu_747.set idx_750.toNat c_784).set (w64 (a1 + other_780)).toNat c_786) k_776 (w64 (idx_750 + 1))
  else
    some bu_747
  partial_fixpoint

def PL.slices_breakPatternsCmpFunc_2int (a0 : List Pr) (a1 : Int) (a2 : Int) (a3 : Pr → Pr → Option Int) : Option (List Pr) :=
  if decide ((w64 (a2 - a1)) ≥ 8) then
    PL.slices_nextPowerOfTwo (w64 (a2 - a1)) >>= fun rv_723 =>
    PL.slices_breakPatternsCmpFunc_2int.l0 a3 a1 a2 rv_723 a0 (IntKind.wrap .u64 (w64 (a2 - a1))) (w64 ((w64 (a1 + (w64 ((w64 (Int.tdiv (w64 (a2 - a1)) 4)) * 2)))) - 1)) >>= fun bu_771 =>
    some bu_771
  else
    some a0

def PL.slices_order2CmpFunc_2int (a0 : List Pr) (a1 : Int) (a2 : Int) (a3 : Int) (a4 : Pr → Pr → Option Int) : Option (Int × Int × List Pr × Int) :=
  getI a0 a2 >>= fun c_800 =>
  getI a0 a1 >>= fun c_802 =>
  a4 c_800 c_802 >>= fun rv_803 =>
  if decide (rv_803 < 0) then
    some (a2, a1, a0, w64 (a3 + 1))
  else
    some (a1, a2, a0, a3)

def PL.slices_medianCmpFunc_2int (a0 : List Pr) (a1 : Int) (a2 : Int) (a3 : Int) (a4 : Int) (a5 : Pr → Pr → Option Int) : Option (Int × List Pr × Int) :=
  PL.slices_order2CmpFunc_2int a0 a1 a2 a4 a5 >>= fun (rv_806, rv_807, k_808, k_809) =>
  PL.slices_order2CmpFunc_2int k_808 rv_807 a3 k_809 a5 >>= fun (rv_813, rv_814, k_815, k_816) =>
  PL.slices_order2CmpFunc_2int k_815 rv_806 rv_813 k_816 a5 >>= fun (rv_820, rv_821, k_822, k_823) =>
  some (rv_821, k_822, k_823)

def PL.slices_medianAdjacentCmpFunc_2int (a0 : List Pr) (a1 : Int) (a2 : Int) (a3 : Pr → Pr → Option Int) : Option (Int × List Pr × Int) :=
  PL.slices_medianCmpFunc_2int a0 (w64 (a1 - 1)) a1 (w64 (a1 + 1)) a2 a3 >>= fun (rv_827, k_828, k_829) =>
  some (rv_827, k_828, k_829)

def PL.slices_choosePivotCmpFunc_2int (a0 : List Pr) (a1 : Int) (a2 : Int) (a3 : Pr → Pr → Option Int) : Option (Int × Int × List Pr) :=
  (
    if decide ((w64 (a2 - a1)) ≥ 8) then
      (
        if decide ((w64 (a2 - a1)) ≥ 50) then
          PL.slices_medianAdjacentCmpFunc_2int a0 (w64 (a1 + (w64 ((w64 (Int.tdiv (w64 (a2 - a1)) 4)) * 1)))) 0 a3 >>= fun (rv_936, k_937, k_938) =>
          PL.slices_medianAdjacentCmpFunc_2int k_937 (w64 (a1 + (w64 ((w64 (Int.tdiv (w64 (a2 - a1)) 4)) * 2)))) k_938 a3 >>= fun (rv_942, k_943, k_944) =>
          PL.slices_medianAdjacentCmpFunc_2int k_943 (w64 (a1 + (w64 ((w64 (Int.tdiv (w64 (a2 - a1)) 4)) * 3)))) k_944 a3 >>= fun (rv_948, k_949, k_950) =>
          some (k_949, k_950, rv_936, rv_942, rv_948)
        else
          some (a0, 0, w64 (a1 + (w64 ((w64 (Int.tdiv (w64 (a2 - a1)) 4)) * 1))), w64 (a1 + (w64 ((w64 (Int.tdiv (w64 (a2 - a1)) 4)) * 2))), w64 (a1 + (w64 ((w64 (Int.tdiv (w64 (a2 - a1)) 4)) * 3))))
      ) >>= fun (bu_920, c_922, i_923, j_924, k_925) =>
      PL.slices_medianCmpFunc_2int bu_920 i_923 j_924 k_925 c_922 a3 >>= fun (rv_929, k_930, k_931) =>
      some (k_930, k_931, rv_929)
    else
      some (a0, 0, w64 (a1 + (w64 ((w64 (Int.tdiv (w64 (a2 - a1)) 4)) * 2))))
  ) >>= fun (bu_891, c_893, j_894) =>
  if c_893 == 0 then
    some (j_894, 1, bu_891)
  else
    if c_893 == 12 then
      some (j_894, 2, bu_891)
    else
      some (j_894, 0, bu_891)

def PL.slices_reverseRangeCmpFunc_2int.l0 (a3 : Pr → Pr → Option Int) (bu_964 : List Pr) (i_966 : Int) (j_967 : Int) : Option ((List Pr)) :=
  if decide (i_966 < j_967) then
    getI bu_964 j_967 >>= fun c_980 =>
    getI bu_964 i_966 >>= fun c_982 =>
    getI (bu_964.set i_966.toNat c_980) j_967 >>= fun c_985 =>
    PL.slices_reverseRangeCmpFunc_2int.l0 a3 ((bu_964.set i_966.toNat c_980).set j_967.toNat c_982) (w64 (i_966 + 1)) (w64 (j_967 - 1))
  else
    some bu_964
  partial_fixpoint

def PL.slices_reverseRangeCmpFunc_2int (a0 : List Pr) (a1 : Int) (a2 : Int) (a3 : Pr → Pr → Option Int) : Option (List Pr) :=
  PL.slices_reverseRangeCmpFunc_2int.l0 a3 a0 a1 (w64 (a2 - 1)) >>= fun bu_977 =>
  some bu_977

def PL.slices_partialInsertionSortCmpFunc_2int.l1 (a3 : Pr → Pr → Option Int) (a1 : Int) (a2 : Int) (bu_1829 : List Pr) (j_1832 : Int) (i_2083 : Int) : Option (Int) :=
  if decide (i_2083 < a2) then
    getI bu_1829 i_2083 >>= fun c_2094 =>
    getI bu_1829 (w64 (i_2083 - 1)) >>= fun c_2096 =>
    a3 c_2094 c_2096 >>= fun rv_2097 =>
    if !(decide (rv_2097 < 0)) then
      PL.slices_partialInsertionSortCmpFunc_2int.l1 a3 a1 a2 bu_1829 j_1832 (w64 (i_2083 + 1))
    else
      some i_2083
  else
    some i_2083
  partial_fixpoint

def PL.slices_partialInsertionSortCmpFunc_2int.l2 (a3 : Pr → Pr → Option Int) (a1 : Int) (a2 : Int) (i_2092 : Int) (j_1832 : Int) (bu_2176 : List Pr) (j_2178 : Int) : Option ((List Pr)) :=
  if decide (j_2178 < a2) then
    getI bu_2176 j_2178 >>= fun c_2194 =>
    getI bu_2176 (w64 (j_2178 - 1)) >>= fun c_2196 =>
    a3 c_2194 c_2196 >>= fun rv_2197 =>
    if !(decide (rv_2197 < 0)) then
      some bu_2176
    else
      getI (bu_2176.set j_2178.toNat c_2196) (w64 (j_2178 - 1)) >>= fun c_2202 =>
      PL.slices_partialInsertionSortCmpFunc_2int.l2 a3 a1 a2 i_2092 j_1832 ((bu_2176.set j_2178.toNat c_2196).set (w64 (j_2178 - 1)).toNat c_2194) (w64 (j_2178 + 1))
  else
    some bu_2176
  partial_fixpoint

def PL.slices_partialInsertionSortCmpFunc_2int.l3 (a3 : Pr → Pr → Option Int) (a1 : Int) (a2 : Int) (i_2092 : Int) (j_1832 : Int) (bu_2221 : List Pr) (j_2223 : Int) : Option ((List Pr)) :=
  if decide (j_2223 ≥ 1) then
    getI bu_2221 j_2223 >>= fun c_2239 =>
    getI bu_2221 (w64 (j_2223 - 1)) >>= fun c_2241 =>
    a3 c_2239 c_2241 >>= fun rv_2242 =>
    if !(decide (rv_2242 < 0)) then
      some bu_2221
    else
      getI (bu_2221.set j_2223.toNat c_2241) (w64 (j_2223 - 1)) >>= fun c_2247 =>
      PL.slices_partialInsertionSortCmpFunc_2int.l3 a3 a1 a2 i_2092 j_1832 ((bu_2221.set j_2223.toNat c_2241).set (w64 (j_2223 - 1)).toNat c_2239) (w64 (j_2223 - 1))
  else
    some bu_2221
  partial_fixpoint

def PL.slices_partialInsertionSortCmpFunc_2int.l0 (a3 : Pr → Pr → Option Int) (a1 : Int) (a2 : Int) (bu_1829 : List Pr) (i_1831 : Int) (j_1832 : Int) : Option ((List Pr) ⊕ (List Pr × Bool)) :=
  if decide (j_1832 < 5) then
    PL.slices_partialInsertionSortCmpFunc_2int.l1 a3 a1 a2 bu_1829 j_1832 i_1831 >>= fun i_2092 =>
    if i_2092 == a2 then
      some (Sum.inr (bu_1829, true))
    else
      if decide ((w64 (a2 - a1)) < 50) then
        some (Sum.inr (bu_1829, false))
      else
        getI bu_1829 (w64 (i_2092 - 1)) >>= fun c_2104 =>
        getI bu_1829 i_2092 >>= fun c_2106 =>
        getI (bu_1829.set i_2092.toNat c_2104) (w64 (i_2092 - 1)) >>= fun c_2109 =>
        (
          if decide ((w64 (i_2092 - a1)) ≥ 2) then
            PL.slices_partialInsertionSortCmpFunc_2int.l3 a3 a1 a2 i_2092 j_1832 ((bu_1829.set i_2092.toNat c_2104).set (w64 (i_2092 - 1)).toNat c_2106) (w64 (i_2092 - 1)) >>= fun bu_2236 =>
            some bu_2236
          else
            some ((bu_1829.set i_2092.toNat c_2104).set (w64 (i_2092 - 1)).toNat c_2106)
        ) >>= fun bu_2157 =>
        if decide ((w64 (a2 - i_2092)) ≥ 2) then
          PL.slices_partialInsertionSortCmpFunc_2int.l2 a3 a1 a2 i_2092 j_1832 bu_2157 (w64 (i_2092 + 1)) >>= fun bu_2191 =>
          PL.slices_partialInsertionSortCmpFunc_2int.l0 a3 a1 a2 bu_2191 i_2092 (w64 (j_1832 + 1))
        else
          PL.slices_partialInsertionSortCmpFunc_2int.l0 a3 a1 a2 bu_2157 i_2092 (w64 (j_1832 + 1))
  else
    some (Sum.inl bu_1829)
  partial_fixpoint

def PL.slices_partialInsertionSortCmpFunc_2int (a0 : List Pr) (a1 : Int) (a2 : Int) (a3 : Pr → Pr → Option Int) : Option (Bool × List Pr) :=
  PL.slices_partialInsertionSortCmpFunc_2int.l0 a3 a1 a2 a0 (w64 (a1 + 1)) 0 >>= fun
  | Sum.inl bu_2040 =>
    some (false, bu_2040)
  | Sum.inr (bu_2042, x_2044) =>
    some (x_2044, bu_2042)

def PL.slices_partitionEqualCmpFunc_2int.l1 (a4 : Pr → Pr → Option Int) (a1 : Int) (bu_2757 : List Pr) (j_2760 : Int) (i_2922 : Int) : Option (Int) :=
  if decide (i_2922 ≤ j_2760) then
    getI bu_2757 a1 >>= fun c_2933 =>
    getI bu_2757 i_2922 >>= fun c_2935 =>
    a4 c_2933 c_2935 >>= fun rv_2936 =>
    if !(decide (rv_2936 < 0)) then
      PL.slices_partitionEqualCmpFunc_2int.l1 a4 a1 bu_2757 j_2760 (w64 (i_2922 + 1))
    else
      some i_2922
  else
    some i_2922
  partial_fixpoint

def PL.slices_partitionEqualCmpFunc_2int.l2 (a4 : Pr → Pr → Option Int) (a1 : Int) (bu_2757 : List Pr) (i_2931 : Int) (j_2978 : Int) : Option (Int) :=
  if decide (i_2931 ≤ j_2978) then
    getI bu_2757 a1 >>= fun c_2989 =>
    getI bu_2757 j_2978 >>= fun c_2991 =>
    a4 c_2989 c_2991 >>= fun rv_2992 =>
    if decide (rv_2992 < 0) then
      PL.slices_partitionEqualCmpFunc_2int.l2 a4 a1 bu_2757 i_2931 (w64 (j_2978 - 1))
    else
      some j_2978
  else
    some j_2978
  partial_fixpoint

def PL.slices_partitionEqualCmpFunc_2int.l0 (a4 : Pr → Pr → Option Int) (a1 : Int) (bu_2757 : List Pr) (i_2759 : Int) (j_2760 : Int) : Option ((List Pr × Int)) :=
  PL.slices_partitionEqualCmpFunc_2int.l1 a4 a1 bu_2757 j_2760 i_2759 >>= fun i_2931 =>
  PL.slices_partitionEqualCmpFunc_2int.l2 a4 a1 bu_2757 i_2931 j_2760 >>= fun j_2987 =>
  if decide (i_2931 > j_2987) then
    some (bu_2757, i_2931)
  else
    getI bu_2757 j_2987 >>= fun c_2998 =>
    getI bu_2757 i_2931 >>= fun c_3000 =>
    getI (bu_2757.set i_2931.toNat c_2998) j_2987 >>= fun c_3003 =>
    PL.slices_partitionEqualCmpFunc_2int.l0 a4 a1 ((bu_2757.set i_2931.toNat c_2998).set j_2987.toNat c_3000) (w64 (i_2931 + 1)) (w64 (j_2987 - 1))
  partial_fixpoint

def PL.slices_partitionEqualCmpFunc_2int (a0 : List Pr) (a1 : Int) (a2 : Int) (a3 : Int) (a4 : Pr → Pr → Option Int) : Option (Int × List Pr) :=
  getI a0 a3 >>= fun c_2254 =>
  getI a0 a1 >>= fun c_2256 =>
  getI (a0.set a1.toNat c_2254) a3 >>= fun c_2259 =>
  PL.slices_partitionEqualCmpFunc_2int.l0 a4 a1 ((a0.set a1.toNat c_2254).set a3.toNat c_2256) (w64 (a1 + 1)) (w64 (a2 - 1)) >>= fun (bu_2882, i_2884) =>
  some (i_2884, bu_2882)

def PL.slices_partitionCmpFunc_2int.l0 (a4 : Pr → Pr → Option Int) (a0 : List Pr) (a1 : Int) (a2 : Int) (a3 : Int) (c_3008 : Pr) (c_3010 : Pr) (i_3053 : Int) : Option (Int) :=
  if decide (i_3053 ≤ (w64 (a2 - 1))) then
    getI ((a0.set a1.toNat c_3008).set a3.toNat c_3010) i_3053 >>= fun c_3064 =>
    getI ((a0.set a1.toNat c_3008).set a3.toNat c_3010) a1 >>= fun c_3066 =>
    a4 c_3064 c_3066 >>= fun rv_3067 =>
    if decide (rv_3067 < 0) then
      PL.slices_partitionCmpFunc_2int.l0 a4 a0 a1 a2 a3 c_3008 c_3010 (w64 (i_3053 + 1))
    else
      some i_3053
  else
    some i_3053
  partial_fixpoint

def PL.slices_partitionCmpFunc_2int.l1 (a4 : Pr → Pr → Option Int) (a0 : List Pr) (a1 : Int) (a3 : Int) (c_3008 : Pr) (c_3010 : Pr) (i_3062 : Int) (j_3109 : Int) : Option (Int) :=
  if decide (i_3062 ≤ j_3109) then
    getI ((a0.set a1.toNat c_3008).set a3.toNat c_3010) j_3109 >>= fun c_3120 =>
    getI ((a0.set a1.toNat c_3008).set a3.toNat c_3010) a1 >>= fun c_3122 =>
    a4 c_3120 c_3122 >>= fun rv_3123 =>
    if !(decide (rv_3123 < 0)) then
      PL.slices_partitionCmpFunc_2int.l1 a4 a0 a1 a3 c_3008 c_3010 i_3062 (w64 (j_3109 - 1))
    else
      some j_3109
  else
    some j_3109
  partial_fixpoint

def PL.slices_partitionCmpFunc_2int.l3 (a4 : Pr → Pr → Option Int) (a1 : Int) (bu_3640 : List Pr) (j_3643 : Int) (i_3805 : Int) : Option (Int) :=
  if decide (i_3805 ≤ j_3643) then
    getI bu_3640 i_3805 >>= fun c_3816 =>
    getI bu_3640 a1 >>= fun c_3818 =>
    a4 c_3816 c_3818 >>= fun rv_3819 =>
    if decide (rv_3819 < 0) then
      PL.slices_partitionCmpFunc_2int.l3 a4 a1 bu_3640 j_3643 (w64 (i_3805 + 1))
    else
      some i_3805
  else
    some i_3805
  partial_fixpoint

def PL.slices_partitionCmpFunc_2int.l4 (a4 : Pr → Pr → Option Int) (a1 : Int) (bu_3640 : List Pr) (i_3814 : Int) (j_3861 : Int) : Option (Int) :=
  if decide (i_3814 ≤ j_3861) then
    getI bu_3640 j_3861 >>= fun c_3872 =>
    getI bu_3640 a1 >>= fun c_3874 =>
    a4 c_3872 c_3874 >>= fun rv_3875 =>
    if !(decide (rv_3875 < 0)) then
      PL.slices_partitionCmpFunc_2int.l4 a4 a1 bu_3640 i_3814 (w64 (j_3861 - 1))
    else
      some j_3861
  else
    some j_3861
  partial_fixpoint

def PL.slices_partitionCmpFunc_2int.l2 (a4 : Pr → Pr → Option Int) (a1 : Int) (bu_3640 : List Pr) (i_3642 : Int) (j_3643 : Int) : Option ((List Pr × Int)) :=
  PL.slices_partitionCmpFunc_2int.l3 a4 a1 bu_3640 j_3643 i_3642 >>= fun i_3814 =>
  PL.slices_partitionCmpFunc_2int.l4 a4 a1 bu_3640 i_3814 j_3643 >>= fun j_3870 =>
  if decide (i_3814 > j_3870) then
    some (bu_3640, j_3870)
  else
    getI bu_3640 j_3870 >>= fun c_3881 =>
    getI bu_3640 i_3814 >>= fun c_3883 =>
    getI (bu_3640.set i_3814.toNat c_3881) j_3870 >>= fun c_3886 =>
    PL.slices_partitionCmpFunc_2int.l2 a4 a1 ((bu_3640.set i_3814.toNat c_3881).set j_3870.toNat c_3883) (w64 (i_3814 + 1)) (w64 (j_3870 - 1))
  partial_fixpoint

def PL.slices_partitionCmpFunc_2int (a0 : List Pr) (a1 : Int) (a2 : Int) (a3 : Int) (a4 : Pr → Pr → Option Int) : Option (Int × Bool × List Pr) :=
  getI a0 a3 >>= fun c_3008 =>
  getI a0 a1 >>= fun c_3010 =>
  getI (a0.set a1.toNat c_3008) a3 >>= fun c_3013 =>
  PL.slices_partitionCmpFunc_2int.l0 a4 a0 a1 a2 a3 c_3008 c_3010 (w64 (a1 + 1)) >>= fun i_3062 =>
  PL.slices_partitionCmpFunc_2int.l1 a4 a0 a1 a3 c_3008 c_3010 i_3062 (w64 (a2 - 1)) >>= fun j_3118 =>
  if decide (i_3062 > j_3118) then
    getI ((a0.set a1.toNat c_3008).set a3.toNat c_3010) a1 >>= fun c_3129 =>
    getI ((a0.set a1.toNat c_3008).set a3.toNat c_3010) j_3118 >>= fun c_3131 =>
    getI (((a0.set a1.toNat c_3008).set a3.toNat c_3010).set j_3118.toNat c_3129) a1 >>= fun c_3134 =>
    some (j_3118, true, (((a0.set a1.toNat c_3008).set a3.toNat c_3010).set j_3118.toNat c_3129).set a1.toNat c_3131)
  else
    getI ((a0.set a1.toNat c_3008).set a3.toNat c_3010) j_3118 >>= fun c_3137 =>
    getI ((a0.set a1.toNat c_3008).set a3.toNat c_3010) i_3062 >>= fun c_3139 =>
    getI (((a0.set a1.toNat c_3008).set a3.toNat c_3010).set i_3062.toNat c_3137) j_3118 >>= fun c_3142 =>
    PL.slices_partitionCmpFunc_2int.l2 a4 a1 ((((a0.set a1.toNat c_3008).set a3.toNat c_3010).set i_3062.toNat c_3137).set j_3118.toNat c_3139) (w64 (i_3062 + 1)) (w64 (j_3118 - 1)) >>= fun (bu_3765, j_3767) =>
    getI bu_3765 a1 >>= fun c_3891 =>
    getI bu_3765 j_3767 >>= fun c_3893 =>
    getI (bu_3765.set j_3767.toNat c_3891) a1 >>= fun c_3896 =>
    some (j_3767, false, (bu_3765.set j_3767.toNat c_3891).set a1.toNat c_3893)

mutual
def PL.slices_pdqsortCmpFunc_2int.l0 (a4 : Pr → Pr → Option Int) (bu_4241 : List Pr) (a_4243 : Int) (b_4244 : Int) (limit_4245 : Int) (wasBalanced_4246 : Bool) (wasPartitioned_4247 : Bool) : Option ((List Pr)) :=
  if decide ((w64 (b_4244 - a_4243)) ≤ 12) then
    PL.slices_insertionSortCmpFunc_2int bu_4241 a_4243 b_4244 a4 >>= fun k_4369 =>
    some k_4369
  else
    if limit_4245 == 0 then
      PL.slices_heapSortCmpFunc_2int bu_4241 a_4243 b_4244 a4 >>= fun k_4374 =>
      some k_4374
    else
      (
        if !wasBalanced_4246 then
          PL.slices_breakPatternsCmpFunc_2int bu_4241 a_4243 b_4244 a4 >>= fun k_4482 =>
          some (k_4482, w64 (limit_4245 - 1))
        else
          some (bu_4241, limit_4245)
      ) >>= fun (bu_4383, limit_4385) =>
      PL.slices_choosePivotCmpFunc_2int bu_4383 a_4243 b_4244 a4 >>= fun (rv_4389, rv_4390, k_4391) =>
      (
        if rv_4390 == 2 then
          PL.slices_reverseRangeCmpFunc_2int k_4391 a_4243 b_4244 a4 >>= fun k_4477 =>
          some (k_4477, w64 ((w64 (b_4244 - 1)) - (w64 (rv_4389 - a_4243))), 1)
        else
          some (k_4391, rv_4389, rv_4390)
      ) >>= fun (bu_4400, pivot_4402, hint_4403) =>
      (
        if wasBalanced_4246 then
          if wasPartitioned_4247 then
            some (hint_4403 == 1)
          else
            some false
        else
          some false
      ) >>= fun x_4410 =>
      ((
        if x_4410 then
          PL.slices_partialInsertionSortCmpFunc_2int bu_4400 a_4243 b_4244 a4 >>= fun (rv_4466, k_4467) =>
          if rv_4466 then
            (
              some k_4467
            ) >>= fun z => some (Sum.inr z)
          else
            some (Sum.inl k_4467)
        else
          some (Sum.inl bu_4400)
      ) : Option ((List Pr) ⊕ (List Pr))) >>= fun
      | .inl bu_4421 =>
        (
          if decide (a_4243 > 0) then
            getI bu_4421 (w64 (a_4243 - 1)) >>= fun c_4460 =>
            getI bu_4421 pivot_4402 >>= fun c_4462 =>
            a4 c_4460 c_4462 >>= fun rv_4463 =>
            some (!(decide (rv_4463 < 0)))
          else
            some false
        ) >>= fun x_4433 =>
        if x_4433 then
          PL.slices_partitionEqualCmpFunc_2int bu_4421 a_4243 b_4244 pivot_4402 a4 >>= fun (rv_4438, k_4439) =>
          PL.slices_pdqsortCmpFunc_2int.l0 a4 k_4439 rv_4438 b_4244 limit_4385 wasBalanced_4246 wasPartitioned_4247
        else
          PL.slices_partitionCmpFunc_2int bu_4421 a_4243 b_4244 pivot_4402 a4 >>= fun (rv_4443, rv_4444, k_4445) =>
          if decide ((w64 (rv_4443 - a_4243)) < (w64 (b_4244 - rv_4443))) then
            PL.slices_pdqsortCmpFunc_2int k_4445 a_4243 rv_4443 limit_4385 a4 >>= fun k_4451 =>
            PL.slices_pdqsortCmpFunc_2int.l0 a4 k_4451 (w64 (rv_4443 + 1)) b_4244 limit_4385 (decide ((w64 (rv_4443 - a_4243)) ≥ (w64 (Int.tdiv (w64 (b_4244 - a_4243)) 8)))) rv_4444
          else
            PL.slices_pdqsortCmpFunc_2int k_4445 (w64 (rv_4443 + 1)) b_4244 limit_4385 a4 >>= fun k_4455 =>
            PL.slices_pdqsortCmpFunc_2int.l0 a4 k_4455 a_4243 rv_4443 limit_4385 (decide ((w64 (b_4244 - rv_4443)) ≥ (w64 (Int.tdiv (w64 (b_4244 - a_4243)) 8)))) rv_4444
      | .inr z => some z
  partial_fixpoint

def PL.slices_pdqsortCmpFunc_2int (a0 : List Pr) (a1 : Int) (a2 : Int) (a3 : Int) (a4 : Pr → Pr → Option Int) : Option (List Pr) :=
  PL.slices_pdqsortCmpFunc_2int.l0 a4 a0 a1 a2 a3 true true >>= fun bu_4366 =>
  some bu_4366
  partial_fixpoint

end

def PL.slices_SortFunc_2int2int (a0 : List Pr) (a1 : Pr → Pr → Option Int) : Option (List Pr) :=
  PL.math_bits_Len (IntKind.wrap .u64 ((a0.length : Int))) >>= fun rv_4488 =>
  PL.slices_pdqsortCmpFunc_2int a0 0 (a0.length : Int) rv_4488 a1 >>= fun k_4490 =>
  some k_4490

def PL.cmp_isNaN_int (a0 : Int) : Option Bool :=
  some (a0 != a0)

def PL.cmp_Compare_int (a0 : Int) (a1 : Int) : Option Int :=
  PL.cmp_isNaN_int a0 >>= fun rv_4494 =>
  PL.cmp_isNaN_int a1 >>= fun rv_4496 =>
  if rv_4494 then
    if rv_4496 then
      some 0
    else
      some (-1)
  else
    if rv_4496 then
      some 1
    else
      if decide (a0 < a1) then
        some (-1)
      else
        if decide (a0 > a1) then
          some 1
        else
          some 0

def PL.set_tidy_1 (a0 : Pr) (a1 : Pr) : Option Int :=
  PL.cmp_Compare_int a0.x0 a1.x0 >>= fun rv_4505 =>
  some rv_4505

def PL.set_tidy.l0 (k_4508 : List Pr) (out_4589 : List Pr) (x_4591 : Int) : Option ((List Pr)) :=
  if decide (x_4591 < (k_4508.length : Int)) then
    getI k_4508 x_4591 >>= fun c_4620 =>
    (
      if decide ((out_4589.length : Int) > 0) then
        getI out_4589 (w64 ((out_4589.length : Int) - 1)) >>= fun c_4641 =>
        some (decide (c_4620.x0 ≤ (w64 (c_4641.x1 + 1))))
      else
        some false
    ) >>= fun x_4628 =>
    if x_4628 then
      getI out_4589 (w64 ((out_4589.length : Int) - 1)) >>= fun c_4633 =>
      PL.set_tidy.l0 k_4508 (out_4589.set (w64 ((out_4589.length : Int) - 1)).toNat (Pr.mk c_4633.x0 (max c_4633.x1 c_4620.x1))) (w64 (x_4591 + 1))
    else
      room (out_4589.length + 1) 16 >>= fun _ =>
      PL.set_tidy.l0 k_4508 (out_4589 ++ ([c_4620])) (w64 (x_4591 + 1))
  else
    some out_4589
  partial_fixpoint

def PL.set_tidy (a0 : List Pr) : Option (List Pr × List Pr) :=
  PL.slices_SortFunc_2int2int a0 PL.set_tidy_1 >>= fun k_4508 =>
  PL.set_tidy.l0 k_4508 [] 0 >>= fun out_4617 =>
  some (out_4617, k_4508)

def PL.slices_Grow_2int2int (a1 : Int) : Option (List Pr) :=
  if decide (a1 < 0) then
    none
  else
    (
      if decide ((w64 (a1 - (w64 (0 - 0)))) > 0) then
        if (0 : Int) < (w64 (a1 - (w64 (0 - 0)))) then
          room (w64 (a1 - (w64 (0 - 0)))).toNat 16 >>= fun _ =>
          if (0 : Int) ≤ 0 then
            if 0 ≤ ((List.replicate (w64 (a1 - (w64 (0 - 0)))).toNat (Pr.mk 0 0)).length : Int) then
              some ()
            else none
          else none
        else none
      else
        some ()
    ) >>= fun _ =>
    some []

def PL.slices_Concat_2int2int.l0 (a0 : List (List Pr)) (size_4694 : Int) (x_4695 : Int) : Option (Int) :=
  if decide (x_4695 < (a0.length : Int)) then
    getI a0 x_4695 >>= fun c_4701 =>
    if decide ((w64 (size_4694 + (c_4701.length : Int))) < 0) then
      none
    else
      PL.slices_Concat_2int2int.l0 a0 (w64 (size_4694 + (c_4701.length : Int))) (w64 (x_4695 + 1))
  else
    some size_4694
  partial_fixpoint

def PL.slices_Concat_2int2int.l1 (a0 : List (List Pr)) (newslice_4736 : List Pr) (x_4738 : Int) : Option ((List Pr)) :=
  if decide (x_4738 < (a0.length : Int)) then
    getI a0 x_4738 >>= fun c_4746 =>
    room (newslice_4736.length + c_4746.length) 16 >>= fun _ =>
    PL.slices_Concat_2int2int.l1 a0 (newslice_4736 ++ c_4746) (w64 (x_4738 + 1))
  else
    some newslice_4736
  partial_fixpoint

def PL.slices_Concat_2int2int (a0 : List (List Pr)) : Option (List Pr) :=
  PL.slices_Concat_2int2int.l0 a0 0 0 >>= fun size_4699 =>
  PL.slices_Grow_2int2int size_4699 >>= fun rv_4705 =>
  PL.slices_Concat_2int2int.l1 a0 rv_4705 0 >>= fun newslice_4743 =>
  some newslice_4743

def PL.set_common.l0 (a0 : List Pr) (a1 : List Pr) (out_4897 : List Pr) (i_4900 : Int) (j_4901 : Int) : Option ((List Pr)) :=
  if decide (i_4900 < (a0.length : Int)) then
    if decide (j_4901 < (a1.length : Int)) then
      getI a0 i_4900 >>= fun c_4930 =>
      getI a1 j_4901 >>= fun c_4931 =>
      (
        if decide ((max c_4930.x0 c_4931.x0) ≤ (min c_4930.x1 c_4931.x1)) then
          room (out_4897.length + 1) 16 >>= fun _ =>
          some (out_4897 ++ ([Pr.mk (max c_4930.x0 c_4931.x0) (min c_4930.x1 c_4931.x1)]))
        else
          some out_4897
      ) >>= fun out_4936 =>
      if decide (c_4930.x1 < c_4931.x1) then
        PL.set_common.l0 a0 a1 out_4936 (w64 (i_4900 + 1)) j_4901
      else
        PL.set_common.l0 a0 a1 out_4936 i_4900 (w64 (j_4901 + 1))
    else
      some out_4897
  else
    some out_4897
  partial_fixpoint

def PL.set_common (a0 : List Pr) (a1 : List Pr) : Option (List Pr) :=
  PL.set_common.l0 a0 a1 [] 0 0 >>= fun out_4923 =>
  some out_4923

def PL.set_outside.l0 (a0 : List Pr) (out_5028 : List Pr) (lo_5031 : Int) (x_5032 : Int) : Option ((List Pr × Int)) :=
  if decide (x_5032 < (a0.length : Int)) then
    getI a0 x_5032 >>= fun c_5055 =>
    (
      if decide (lo_5031 < c_5055.x0) then
        room (out_5028.length + 1) 16 >>= fun _ =>
        some (out_5028 ++ ([Pr.mk lo_5031 (w64 (c_5055.x0 - 1))]))
      else
        some out_5028
    ) >>= fun out_5061 =>
    PL.set_outside.l0 a0 out_5061 (w64 (c_5055.x1 + 1)) (w64 (x_5032 + 1))
  else
    some (out_5028, lo_5031)
  partial_fixpoint

def PL.set_outside (a0 : List Pr) : Option (List Pr) :=
  PL.set_outside.l0 a0 [] (-1000000000000000) 0 >>= fun (out_5050, lo_5053) =>
  (
    if decide (lo_5053 ≤ 1000000000000000) then
      room (out_5050.length + 1) 16 >>= fun _ =>
      some (out_5050 ++ ([Pr.mk lo_5053 1000000000000000]))
    else
      some out_5050
  ) >>= fun out_5077 =>
  some out_5077

def PL.set_value.l1 (kids_5141 : List (List Pr)) (s_5192 : List Pr) (x_5193 : Int) : Option ((List Pr)) :=
  if decide (x_5193 < (((kids_5141.take (kids_5141.length : Int).toNat).drop (1 : Int).toNat).length : Int)) then
    getI ((kids_5141.take (kids_5141.length : Int).toNat).drop (1 : Int).toNat) x_5193 >>= fun c_5200 =>
    PL.set_common s_5192 c_5200 >>= fun rv_5201 =>
    PL.set_value.l1 kids_5141 rv_5201 (w64 (x_5193 + 1))
  else
    some s_5192
  partial_fixpoint

mutual
def PL.set_value.l0 (a0 : Node) (kids_5129 : List (List Pr)) (x_5132 : Int) : Option ((List (List Pr))) :=
  if decide (x_5132 < (a0.Kids.length : Int)) then
    getI a0.Kids x_5132 >>= fun c_5145 =>
    PL.set_value c_5145 >>= fun rv_5147 =>
    room (kids_5129.length + 1) 24 >>= fun _ =>
    PL.set_value.l0 a0 (kids_5129 ++ ([rv_5147])) (w64 (x_5132 + 1))
  else
    some kids_5129
  partial_fixpoint

def PL.set_value (a0 : Node) : Option (List Pr) :=
  PL.set_value.l0 a0 [] 0 >>= fun kids_5141 =>
  if a0.Op == 0 then
    some ([Pr.mk a0.Lo a0.Hi])
  else
    if a0.Op == 1 then
      PL.slices_Concat_2int2int kids_5141 >>= fun rv_5157 =>
      PL.set_tidy rv_5157 >>= fun (rv_5163, k_5164) =>
      some rv_5163
    else
      if a0.Op == 2 then
        getI kids_5141 0 >>= fun c_5169 =>
        if (1 : Int) ≤ (kids_5141.length : Int) then
          PL.set_value.l1 kids_5141 c_5169 0 >>= fun s_5198 =>
          some s_5198
        else none
      else
        if a0.Op == 3 then
          getI kids_5141 0 >>= fun c_5206 =>
          getI kids_5141 1 >>= fun c_5207 =>
          PL.set_outside c_5207 >>= fun rv_5208 =>
          PL.set_common c_5206 rv_5208 >>= fun rv_5210 =>
          some rv_5210
        else
          if a0.Op == 4 then
            some ([Pr.mk (-1000000000000000) 1000000000000000])
          else
            getI kids_5141 0 >>= fun c_5222 =>
            some c_5222
  partial_fixpoint

end

def PL.set_Of (a0 : Node) : Option (List Pr × Int) :=
  PL.set_check a0 >>= fun rv_5224 =>
  if rv_5224 != 0 then
    some ([], rv_5224)
  else
    PL.set_value a0 >>= fun rv_5227 =>
    PL.set_limited rv_5227 >>= fun (rv_5229, rv_5230) =>
    some (rv_5229, rv_5230)

def PL.law03_sane : Option Bool :=
  PL.set_Of (Node.mk 3 0 0 ([Node.mk 0 1 5 [], Node.mk 0 3 3 []])) >>= fun (rv_5234, rv_5235) =>
  PL.set_Size rv_5234 >>= fun (rv_5237, rv_5238) =>
  if rv_5235 == 0 then
    if rv_5238 == 0 then
      if rv_5237 == 4 then
        PL.ref01_Pairs rv_5234 ([Pr.mk 1 2, Pr.mk 4 5]) >>= fun rv_5244 =>
        some rv_5244
      else
        some false
    else
      some false
  else
    some false

def PL.ref01_CopyPairs (a0 : List Pr) : Option (List Pr) :=
  room (a0.length) 16 >>= fun _ =>
  some a0

def PL.set_both (a0 : List Pr) (a1 : List Pr) (a2 : List Pr → List Pr → Option (List Pr)) : Option (List Pr × Int) :=
  PL.set_Valid a0 >>= fun rv_5249 =>
  if !rv_5249 then
    some ([], 1)
  else
    PL.set_Valid a1 >>= fun rv_5252 =>
    if !rv_5252 then
      some ([], 1)
    else
      a2 a0 a1 >>= fun rv_5255 =>
      PL.set_limited rv_5255 >>= fun (rv_5257, rv_5258) =>
      some (rv_5257, rv_5258)

def PL.set_Union_1 (a0 : List Pr) (a1 : List Pr) : Option (List Pr) :=
  PL.slices_Concat_2int2int ([a0, a1]) >>= fun rv_5261 =>
  PL.set_tidy rv_5261 >>= fun (rv_5267, k_5268) =>
  some rv_5267

def PL.set_Union (a0 : List Pr) (a1 : List Pr) : Option (List Pr × Int) :=
  PL.set_both a0 a1 PL.set_Union_1 >>= fun (rv_5272, rv_5273) =>
  some (rv_5272, rv_5273)

def PL.ref03_Valid.l0 (a0 : List Pr) (i_5305 : Int) : Option (Unit ⊕ Unit) :=
  if decide (i_5305 < (a0.length : Int)) then
    getI a0 i_5305 >>= fun c_5315 =>
    if decide (c_5315.x0 > c_5315.x1) then
      some (Sum.inr ())
    else
      if decide (c_5315.x0 < (-1000000000000000)) then
        some (Sum.inr ())
      else
        if decide (c_5315.x1 > 1000000000000000) then
          some (Sum.inr ())
        else
          if decide (i_5305 > 0) then
            getI a0 (w64 (i_5305 - 1)) >>= fun c_5320 =>
            if decide (c_5315.x0 < (w64 (c_5320.x1 + 2))) then
              some (Sum.inr ())
            else
              PL.ref03_Valid.l0 a0 (w64 (i_5305 + 1))
          else
            PL.ref03_Valid.l0 a0 (w64 (i_5305 + 1))
  else
    some (Sum.inl ())
  partial_fixpoint

def PL.ref03_Valid (a0 : List Pr) : Option Bool :=
  if decide ((a0.length : Int) > 100) then
    some false
  else
    PL.ref03_Valid.l0 a0 0 >>= fun
    | Sum.inl _ =>
      some true
    | Sum.inr _ =>
      some false

def PL.ref03_told (a0 : List Pr) : Option (List Pr × Int) :=
  if decide ((a0.length : Int) > 100) then
    some ([], 2)
  else
    some (a0, 0)

mutual
def PL.ref03_Holds.l0 (a0 : Node) (a1 : Int) (i_5352 : Int) : Option (Unit ⊕ Unit) :=
  if decide (i_5352 < (a0.Kids.length : Int)) then
    getI a0.Kids i_5352 >>= fun c_5359 =>
    PL.ref03_Holds c_5359 a1 >>= fun rv_5360 =>
    if rv_5360 then
      some (Sum.inr ())
    else
      PL.ref03_Holds.l0 a0 a1 (w64 (i_5352 + 1))
  else
    some (Sum.inl ())
  partial_fixpoint

def PL.ref03_Holds.l1 (a0 : Node) (a1 : Int) (i_5389 : Int) : Option (Unit ⊕ Unit) :=
  if decide (i_5389 < (a0.Kids.length : Int)) then
    getI a0.Kids i_5389 >>= fun c_5396 =>
    PL.ref03_Holds c_5396 a1 >>= fun rv_5397 =>
    if !rv_5397 then
      some (Sum.inr ())
    else
      PL.ref03_Holds.l1 a0 a1 (w64 (i_5389 + 1))
  else
    some (Sum.inl ())
  partial_fixpoint

def PL.ref03_Holds (a0 : Node) (a1 : Int) : Option Bool :=
  if a0.Op == 0 then
    if decide (a1 ≥ a0.Lo) then
      some (decide (a1 ≤ a0.Hi))
    else
      some false
  else
    if a0.Op == 1 then
      PL.ref03_Holds.l0 a0 a1 0 >>= fun
      | Sum.inl _ =>
        some false
      | Sum.inr _ =>
        some true
    else
      if a0.Op == 2 then
        PL.ref03_Holds.l1 a0 a1 0 >>= fun
        | Sum.inl _ =>
          some true
        | Sum.inr _ =>
          some false
      else
        if a0.Op == 3 then
          getI a0.Kids 0 >>= fun c_5403 =>
          PL.ref03_Holds c_5403 a1 >>= fun rv_5404 =>
          if rv_5404 then
            getI a0.Kids 1 >>= fun c_5407 =>
            PL.ref03_Holds c_5407 a1 >>= fun rv_5408 =>
            some (!rv_5408)
          else
            some false
        else
          if a0.Op == 5 then
            getI a0.Kids 0 >>= fun c_5411 =>
            PL.ref03_Holds c_5411 a1 >>= fun rv_5412 =>
            some rv_5412
          else
            if decide (a1 ≥ (-1000000000000000)) then
              some (decide (a1 ≤ 1000000000000000))
            else
              some false
  partial_fixpoint

end

def PL.ref03_put.l0 (a0 : List Int) (a1 : Int) (out_5536 : List Int) (done_5539 : Bool) (i_5540 : Int) : Option ((List Int × Bool)) :=
  if decide (i_5540 < (a0.length : Int)) then
    (
      if !done_5539 then
        getI a0 i_5540 >>= fun c_5608 =>
        some (decide (a1 ≤ c_5608))
      else
        some false
    ) >>= fun x_5580 =>
    (
      if x_5580 then
        getI a0 i_5540 >>= fun c_5602 =>
        if decide (a1 < c_5602) then
          room (out_5536.length + 1) 8 >>= fun _ =>
          some (out_5536 ++ ([a1]), true)
        else
          some (out_5536, true)
      else
        some (out_5536, done_5539)
    ) >>= fun (out_5590, done_5593) =>
    getI a0 i_5540 >>= fun c_5597 =>
    room (out_5590.length + 1) 8 >>= fun _ =>
    PL.ref03_put.l0 a0 a1 (out_5590 ++ ([c_5597])) done_5593 (w64 (i_5540 + 1))
  else
    some (out_5536, done_5539)
  partial_fixpoint

def PL.ref03_put (a0 : List Int) (a1 : Int) : Option (List Int) :=
  PL.ref03_put.l0 a0 a1 [] false 0 >>= fun (out_5573, done_5576) =>
  (
    if !done_5576 then
      room (out_5573.length + 1) 8 >>= fun _ =>
      some (out_5573 ++ ([a1]))
    else
      some out_5573
  ) >>= fun out_5615 =>
  some out_5615

mutual
def PL.ref03_places.l0 (a0 : Node) (l_5656 : List Int) (i_5657 : Int) : Option ((List Int)) :=
  if decide (i_5657 < (a0.Kids.length : Int)) then
    getI a0.Kids i_5657 >>= fun c_5664 =>
    PL.ref03_places c_5664 l_5656 >>= fun rv_5665 =>
    PL.ref03_places.l0 a0 rv_5665 (w64 (i_5657 + 1))
  else
    some l_5656
  partial_fixpoint

def PL.ref03_places (a0 : Node) (a1 : List Int) : Option (List Int) :=
  (
    if a0.Op == 0 then
      PL.ref03_put a1 a0.Lo >>= fun rv_5670 =>
      PL.ref03_put rv_5670 (w64 (a0.Hi + 1)) >>= fun rv_5672 =>
      some rv_5672
    else
      some a1
  ) >>= fun l_5631 =>
  PL.ref03_places.l0 a0 l_5631 0 >>= fun l_5662 =>
  some l_5662
  partial_fixpoint

end

def PL.ref03_set.l0 (a0 : Node) (rv_5680 : List Int) (out_5762 : List Pr) (i_5764 : Int) : Option ((List Pr)) :=
  if decide ((w64 (i_5764 + 1)) < (rv_5680.length : Int)) then
    getI rv_5680 i_5764 >>= fun c_5794 =>
    PL.ref03_Holds a0 c_5794 >>= fun rv_5795 =>
    if !rv_5795 then
      PL.ref03_set.l0 a0 rv_5680 out_5762 (w64 (i_5764 + 1))
    else
      (
        if decide ((out_5762.length : Int) > 0) then
          getI out_5762 (w64 ((out_5762.length : Int) - 1)) >>= fun c_5817 =>
          some (c_5817.x1 == (w64 (c_5794 - 1)))
        else
          some false
      ) >>= fun x_5802 =>
      if x_5802 then
        getI rv_5680 (w64 (i_5764 + 1)) >>= fun c_5807 =>
        getI out_5762 (w64 ((out_5762.length : Int) - 1)) >>= fun c_5808 =>
        PL.ref03_set.l0 a0 rv_5680 (out_5762.set (w64 ((out_5762.length : Int) - 1)).toNat (Pr.mk c_5808.x0 (w64 (c_5807 - 1)))) (w64 (i_5764 + 1))
      else
        getI rv_5680 (w64 (i_5764 + 1)) >>= fun c_5812 =>
        room (out_5762.length + 1) 16 >>= fun _ =>
        PL.ref03_set.l0 a0 rv_5680 (out_5762 ++ ([Pr.mk c_5794 (w64 (c_5812 - 1))])) (w64 (i_5764 + 1))
  else
    some out_5762
  partial_fixpoint

def PL.ref03_set (a0 : Node) : Option (List Pr) :=
  PL.ref03_places a0 [] >>= fun rv_5676 =>
  PL.ref03_put rv_5676 (-1000000000000000) >>= fun rv_5678 =>
  PL.ref03_put rv_5678 1000000000000001 >>= fun rv_5680 =>
  PL.ref03_set.l0 a0 rv_5680 [] 0 >>= fun out_5791 =>
  some out_5791

def PL.ref03_As.l0 (a0 : List Pr) (c_5930 : List Node) (i_5933 : Int) : Option ((List Node)) :=
  if decide (i_5933 < (a0.length : Int)) then
    getI a0 i_5933 >>= fun c_5961 =>
    room (c_5930.length + ([Node.mk 0 c_5961.x0 c_5961.x1 []]).length) 48 >>= fun _ =>
    PL.ref03_As.l0 a0 (c_5930 ++ ([Node.mk 0 c_5961.x0 c_5961.x1 []])) (w64 (i_5933 + 1))
  else
    some c_5930
  partial_fixpoint

def PL.ref03_As (a0 : List Pr) : Option Node :=
  PL.ref03_As.l0 a0 ([Node.mk 3 0 0 ([Node.mk 4 0 0 [], Node.mk 4 0 0 []])]) 0 >>= fun c_5957 =>
  some (Node.mk 1 0 0 c_5957)

def PL.ref03_two (a0 : Int) (a1 : List Pr) (a2 : List Pr) : Option (List Pr × Int) :=
  PL.ref03_Valid a1 >>= fun rv_5985 =>
  if !rv_5985 then
    some ([], 1)
  else
    PL.ref03_Valid a2 >>= fun rv_5988 =>
    if !rv_5988 then
      some ([], 1)
    else
      PL.ref03_As a1 >>= fun rv_5991 =>
      PL.ref03_As a2 >>= fun rv_5993 =>
      PL.ref03_set (Node.mk a0 0 0 ([rv_5991, rv_5993])) >>= fun rv_5996 =>
      PL.ref03_told rv_5996 >>= fun (rv_5998, rv_5999) =>
      some (rv_5998, rv_5999)

def PL.ref03_Union (a0 : List Pr) (a1 : List Pr) : Option (List Pr × Int) :=
  PL.ref03_two 1 a0 a1 >>= fun (rv_6001, rv_6002) =>
  some (rv_6001, rv_6002)

def PL.set_Meet (a0 : List Pr) (a1 : List Pr) : Option (List Pr × Int) :=
  PL.set_both a0 a1 PL.set_common >>= fun (rv_6004, rv_6005) =>
  some (rv_6004, rv_6005)

def PL.ref03_Meet (a0 : List Pr) (a1 : List Pr) : Option (List Pr × Int) :=
  PL.ref03_two 2 a0 a1 >>= fun (rv_6007, rv_6008) =>
  some (rv_6007, rv_6008)

def PL.set_Except_1 (a0 : List Pr) (a1 : List Pr) : Option (List Pr) :=
  PL.set_outside a1 >>= fun rv_6010 =>
  PL.set_common a0 rv_6010 >>= fun rv_6012 =>
  some rv_6012

def PL.set_Except (a0 : List Pr) (a1 : List Pr) : Option (List Pr × Int) :=
  PL.set_both a0 a1 PL.set_Except_1 >>= fun (rv_6014, rv_6015) =>
  some (rv_6014, rv_6015)

def PL.ref03_Except (a0 : List Pr) (a1 : List Pr) : Option (List Pr × Int) :=
  PL.ref03_two 3 a0 a1 >>= fun (rv_6017, rv_6018) =>
  some (rv_6017, rv_6018)

def PL.ref03_Size.l0 (a0 : List Pr) (n_6044 : Int) (i_6045 : Int) : Option (Int) :=
  if decide (i_6045 < (a0.length : Int)) then
    getI a0 i_6045 >>= fun c_6050 =>
    PL.ref03_Size.l0 a0 (w64 ((w64 ((w64 (n_6044 + c_6050.x1)) - c_6050.x0)) + 1)) (w64 (i_6045 + 1))
  else
    some n_6044
  partial_fixpoint

def PL.ref03_Size (a0 : List Pr) : Option (Int × Int) :=
  PL.ref03_Valid a0 >>= fun rv_6020 =>
  if !rv_6020 then
    some (0, 1)
  else
    PL.ref03_Size.l0 a0 0 0 >>= fun n_6048 =>
    some (n_6048, 0)

def PL.set_Hull (a0 : List Pr) : Option (Int × Int × Int) :=
  PL.set_Valid a0 >>= fun rv_6053 =>
  if !rv_6053 then
    some (0, 0, 1)
  else
    if (a0.length : Int) == 0 then
      some (0, 0, 3)
    else
      getI a0 0 >>= fun c_6057 =>
      getI a0 (w64 ((a0.length : Int) - 1)) >>= fun c_6058 =>
      some (c_6057.x0, c_6058.x1, 0)

def PL.ref03_Hull (a0 : List Pr) : Option (Int × Int × Int) :=
  PL.ref03_Valid a0 >>= fun rv_6059 =>
  if !rv_6059 then
    some (0, 0, 1)
  else
    if (a0.length : Int) == 0 then
      some (0, 0, 3)
    else
      getI a0 0 >>= fun c_6063 =>
      getI a0 (w64 ((a0.length : Int) - 1)) >>= fun c_6064 =>
      some (c_6063.x0, c_6064.x1, 0)

def PL.law03_SetMakes (a0 : List Pr) (a1 : List Pr) : Option Bool :=
  if decide ((a0.length : Int) > 300) then
    PL.law03_sane >>= fun rv_6066 =>
    some rv_6066
  else
    if decide ((a1.length : Int) > 300) then
      PL.law03_sane >>= fun rv_6069 =>
      some rv_6069
    else
      PL.ref01_CopyPairs a0 >>= fun rv_6071 =>
      PL.ref01_CopyPairs a1 >>= fun rv_6073 =>
      PL.set_Union a0 a1 >>= fun (rv_6075, rv_6076) =>
      PL.ref03_Union rv_6071 rv_6073 >>= fun (rv_6078, rv_6079) =>
      if rv_6076 != rv_6079 then
        some false
      else
        PL.ref01_Pairs rv_6075 rv_6078 >>= fun rv_6082 =>
        if !rv_6082 then
          some false
        else
          PL.set_Meet a0 a1 >>= fun (rv_6085, rv_6086) =>
          PL.ref03_Meet rv_6071 rv_6073 >>= fun (rv_6088, rv_6089) =>
          if rv_6086 != rv_6089 then
            some false
          else
            PL.ref01_Pairs rv_6085 rv_6088 >>= fun rv_6092 =>
            if !rv_6092 then
              some false
            else
              PL.set_Except a0 a1 >>= fun (rv_6095, rv_6096) =>
              PL.ref03_Except rv_6071 rv_6073 >>= fun (rv_6098, rv_6099) =>
              if rv_6096 != rv_6099 then
                some false
              else
                PL.ref01_Pairs rv_6095 rv_6098 >>= fun rv_6102 =>
                if !rv_6102 then
                  some false
                else
                  PL.set_Size a0 >>= fun (rv_6105, rv_6106) =>
                  PL.ref03_Size rv_6071 >>= fun (rv_6108, rv_6109) =>
                  if rv_6105 != rv_6108 then
                    some false
                  else
                    if rv_6106 != rv_6109 then
                      some false
                    else
                      PL.set_Hull a0 >>= fun (rv_6113, rv_6114, rv_6115) =>
                      PL.ref03_Hull rv_6071 >>= fun (rv_6117, rv_6118, rv_6119) =>
                      PL.set_Valid a0 >>= fun rv_6121 =>
                      if rv_6113 == rv_6117 then
                        if rv_6114 == rv_6118 then
                          if rv_6115 == rv_6119 then
                            PL.ref03_Valid rv_6071 >>= fun rv_6126 =>
                            if rv_6121 == rv_6126 then
                              PL.ref01_Pairs a0 rv_6071 >>= fun rv_6129 =>
                              if rv_6129 then
                                PL.ref01_Pairs a1 rv_6073 >>= fun rv_6132 =>
                                if rv_6132 then
                                  PL.law03_sane >>= fun rv_6135 =>
                                  some rv_6135
                                else
                                  some false
                              else
                                some false
                            else
                              some false
                          else
                            some false
                        else
                          some false
                      else
                        some false

mutual
def PL.law03_count.l0 (a0 : Node) (left_6163 : Int) (i_6164 : Int) : Option (Int) :=
  if decide (i_6164 < (a0.Kids.length : Int)) then
    if decide (left_6163 > 0) then
      getI a0.Kids i_6164 >>= fun c_6173 =>
      PL.law03_count c_6173 left_6163 >>= fun rv_6174 =>
      PL.law03_count.l0 a0 rv_6174 (w64 (i_6164 + 1))
    else
      some left_6163
  else
    some left_6163
  partial_fixpoint

def PL.law03_count (a0 : Node) (a1 : Int) : Option Int :=
  PL.law03_count.l0 a0 (w64 (a1 - 1)) 0 >>= fun left_6170 =>
  some left_6170
  partial_fixpoint

end

def PL.law03_large (a0 : Node) : Option Bool :=
  PL.law03_count a0 400 >>= fun rv_6179 =>
  some (decide (rv_6179 ≤ 0))

mutual
def PL.ref03_size.l0 (a0 : Node) (nodes_6229 : Int) (deep_6230 : Int) (i_6231 : Int) : Option ((Int × Int)) :=
  if decide (i_6231 < (a0.Kids.length : Int)) then
    if decide (nodes_6229 ≤ 200) then
      getI a0.Kids i_6231 >>= fun c_6242 =>
      PL.ref03_size c_6242 >>= fun (rv_6243, rv_6244) =>
      PL.ref03_size.l0 a0 (w64 (nodes_6229 + rv_6243)) (max deep_6230 rv_6244) (w64 (i_6231 + 1))
    else
      some (nodes_6229, deep_6230)
  else
    some (nodes_6229, deep_6230)
  partial_fixpoint

def PL.ref03_size (a0 : Node) : Option (Int × Int) :=
  PL.ref03_size.l0 a0 1 0 0 >>= fun (nodes_6238, deep_6239) =>
  some (nodes_6238, w64 (deep_6239 + 1))
  partial_fixpoint

end

mutual
def PL.ref03_shaped.l0 (a0 : Node) (i_6295 : Int) : Option (Unit ⊕ Unit) :=
  if decide (i_6295 < (a0.Kids.length : Int)) then
    getI a0.Kids i_6295 >>= fun c_6302 =>
    PL.ref03_shaped c_6302 >>= fun rv_6303 =>
    if !rv_6303 then
      some (Sum.inr ())
    else
      PL.ref03_shaped.l0 a0 (w64 (i_6295 + 1))
  else
    some (Sum.inl ())
  partial_fixpoint

def PL.ref03_shaped (a0 : Node) : Option Bool :=
  ((
    if a0.Op == 0 then
      if (a0.Kids.length : Int) == 0 then
        if decide (a0.Lo ≤ a0.Hi) then
          if decide (a0.Lo ≥ (-1000000000000000)) then
            (
              some (decide (a0.Hi ≤ 1000000000000000))
            ) >>= fun z => some (Sum.inr z)
          else
            (
              some false
            ) >>= fun z => some (Sum.inr z)
        else
          (
            some false
          ) >>= fun z => some (Sum.inr z)
      else
        (
          some false
        ) >>= fun z => some (Sum.inr z)
    else
      (
        if a0.Op == 1 then
          some (a0.Op == 1)
        else
          some (a0.Op == 2)
      ) >>= fun x_6321 =>
      if x_6321 then
        if decide ((a0.Kids.length : Int) < 2) then
          (
            some false
          ) >>= fun z => some (Sum.inr z)
        else
          some (Sum.inl ())
      else
        if a0.Op == 3 then
          if (a0.Kids.length : Int) != 2 then
            (
              some false
            ) >>= fun z => some (Sum.inr z)
          else
            some (Sum.inl ())
        else
          if a0.Op == 4 then
            if (a0.Kids.length : Int) != 0 then
              (
                some false
              ) >>= fun z => some (Sum.inr z)
            else
              some (Sum.inl ())
          else
            if a0.Op == 5 then
              if (a0.Kids.length : Int) != 1 then
                (
                  some false
                ) >>= fun z => some (Sum.inr z)
              else
                some (Sum.inl ())
            else
              (
                some false
              ) >>= fun z => some (Sum.inr z)
  ) : Option (Unit ⊕ Bool)) >>= fun
  | .inl _ =>
    if a0.Lo != 0 then
      some false
    else
      if a0.Hi != 0 then
        some false
      else
        PL.ref03_shaped.l0 a0 0 >>= fun
        | Sum.inl _ =>
          some true
        | Sum.inr _ =>
          some false
  | .inr z => some z
  partial_fixpoint

end

def PL.ref03_Check (a0 : Node) : Option Int :=
  PL.ref03_size a0 >>= fun (rv_6345, rv_6346) =>
  if decide (rv_6345 > 200) then
    some 2
  else
    if decide (rv_6346 > 20) then
      some 2
    else
      PL.ref03_shaped a0 >>= fun rv_6350 =>
      if !rv_6350 then
        some 1
      else
        some 0

mutual
def PL.law03_node.l0 (a0 : Node) (c_6469 : List Node) (i_6472 : Int) : Option ((List Node)) :=
  if decide (i_6472 < (a0.Kids.length : Int)) then
    getI a0.Kids i_6472 >>= fun c_6503 =>
    PL.law03_node c_6503 >>= fun rv_6504 =>
    room (c_6469.length + 1) 48 >>= fun _ =>
    PL.law03_node.l0 a0 (c_6469 ++ ([rv_6504])) (w64 (i_6472 + 1))
  else
    some c_6469
  partial_fixpoint

def PL.law03_node (a0 : Node) : Option Node :=
  PL.law03_node.l0 a0 [] 0 >>= fun c_6499 =>
  some (Node.mk a0.Op a0.Lo a0.Hi c_6499)
  partial_fixpoint

end

def PL.slices_IndexFunc_2int2int.l0 (a1 : Pr → Option Bool) (a0 : List Pr) (x_6554 : Int) : Option (Unit ⊕ Int) :=
  if decide (x_6554 < (a0.length : Int)) then
    getI a0 x_6554 >>= fun c_6562 =>
    a1 c_6562 >>= fun rv_6563 =>
    if rv_6563 then
      some (Sum.inr x_6554)
    else
      PL.slices_IndexFunc_2int2int.l0 a1 a0 (w64 (x_6554 + 1))
  else
    some (Sum.inl ())
  partial_fixpoint

def PL.slices_IndexFunc_2int2int (a0 : List Pr) (a1 : Pr → Option Bool) : Option Int :=
  PL.slices_IndexFunc_2int2int.l0 a1 a0 0 >>= fun
  | Sum.inl _ =>
    some (-1)
  | Sum.inr x_6560 =>
    some x_6560

def PL.slices_ContainsFunc_2int2int (a0 : List Pr) (a1 : Pr → Option Bool) : Option Bool :=
  PL.slices_IndexFunc_2int2int a0 a1 >>= fun rv_6568 =>
  some (decide (rv_6568 ≥ 0))

def PL.set_Has_1 (a0 : Pr) (c0 : Int) : Option Bool :=
  if decide (a0.x0 ≤ c0) then
    some (decide (c0 ≤ a0.x1))
  else
    some false

def PL.set_Has (a0 : List Pr) (a1 : Int) : Option (Bool × Int) :=
  PL.set_Valid a0 >>= fun rv_6573 =>
  if !rv_6573 then
    some (false, 1)
  else
    PL.slices_ContainsFunc_2int2int a0 (fun y0 => PL.set_Has_1 y0 a1) >>= fun rv_6576 =>
    some (rv_6576, 0)

mutual
def PL.set_root.l0 (a0 : Node) (kids_6625 : List Node) (x_6628 : Int) : Option ((List Node)) :=
  if decide (x_6628 < (a0.Kids.length : Int)) then
    getI a0.Kids x_6628 >>= fun c_6641 =>
    PL.set_root c_6641 >>= fun rv_6643 =>
    room (kids_6625.length + 1) 48 >>= fun _ =>
    PL.set_root.l0 a0 (kids_6625 ++ ([rv_6643])) (w64 (x_6628 + 1))
  else
    some kids_6625
  partial_fixpoint

def PL.set_root (a0 : Node) : Option Node :=
  if a0.Op == 5 then
    getI a0.Kids 0 >>= fun c_6581 =>
    PL.set_root c_6581 >>= fun rv_6582 =>
    some rv_6582
  else
    PL.set_root.l0 a0 [] 0 >>= fun kids_6637 =>
    some (Node.mk a0.Op a0.Lo a0.Hi kids_6637)
  partial_fixpoint

end

def PL.set_Root (a0 : Node) : Option (Node × Int) :=
  PL.set_check a0 >>= fun rv_6652 =>
  if rv_6652 != 0 then
    some (Node.mk 0 0 0 [], rv_6652)
  else
    PL.set_root a0 >>= fun rv_6655 =>
    some (rv_6655, 0)

def PL.law03_SetMeans (a0 : Node) (a1 : Int) : Option Bool :=
  PL.law03_large a0 >>= fun rv_6658 =>
  if rv_6658 then
    PL.law03_sane >>= fun rv_6661 =>
    some rv_6661
  else
    PL.ref03_Check a0 >>= fun rv_6663 =>
    if rv_6663 != 0 then
      PL.law03_sane >>= fun rv_6666 =>
      some rv_6666
    else
      PL.law03_node a0 >>= fun rv_6668 =>
      PL.set_Of rv_6668 >>= fun (rv_6670, rv_6671) =>
      if rv_6671 != 0 then
        if rv_6671 == 2 then
          PL.law03_sane >>= fun rv_6675 =>
          some rv_6675
        else
          some false
      else
        PL.set_Has rv_6670 a1 >>= fun (rv_6677, rv_6678) =>
        if rv_6678 != 0 then
          some false
        else
          PL.ref03_Holds a0 a1 >>= fun rv_6681 =>
          if rv_6677 != rv_6681 then
            some false
          else
            PL.law03_node a0 >>= fun rv_6684 =>
            PL.set_Root rv_6684 >>= fun (rv_6686, rv_6687) =>
            if rv_6687 != 0 then
              some false
            else
              PL.set_Of rv_6686 >>= fun (rv_6691, rv_6692) =>
              if rv_6692 == 0 then
                PL.ref01_Pairs rv_6670 rv_6691 >>= fun rv_6695 =>
                if rv_6695 then
                  PL.law03_sane >>= fun rv_6698 =>
                  some rv_6698
                else
                  some false
              else
                some false

end Go.AV
