/- Plain functions that stand for what is met by a contract: Itoa, Join; and for joint. -/
import Derived.Test.YtgclbdndnbgnoaaDoorVn
import Derived.Lib.Itoa
import Derived.Lib.ItoaNum
import Derived.Shelf.Strings.OnBuilder
namespace Go.AV
set_option linter.all false
def PL.strconv_Itoa (a0 : Int) : Option ByteArray := if -9223372036854775808 ≤ a0 ∧ a0 ≤ 9223372036854775807 then some ⟨(Lib.itoa a0).toArray⟩ else none
def PL.strings_Join (a0 : List ByteArray) (a1 : ByteArray) : Option ByteArray :=
  if a0.length ≤ 140737488355328 ∧ (Lib.join (a0.map (·.data.toList)) a1.data.toList).length ≤ 140737488355328 then some ⟨(Lib.join (a0.map (·.data.toList)) a1.data.toList).toArray⟩ else none
def jointB (a0 : Int) : ByteArray := if a0 = 1 then ⟨#[32, 124, 32]⟩ else if a0 = 2 then ⟨#[32, 94, 32]⟩ else if a0 = 3 then ⟨#[32, 45, 32]⟩ else ⟨#[]⟩
def PL.set_joint (a0 : Int) : Option ByteArray := some (jointB a0)
end Go.AV
