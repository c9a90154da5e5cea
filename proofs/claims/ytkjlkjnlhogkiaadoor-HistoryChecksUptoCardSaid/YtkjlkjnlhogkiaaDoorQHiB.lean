/- The tables; the texts of 'history.Check', 'basinref26.Check', what they call, and of the law. No condition. -/
import Derived.Test.YtkjlkjnlhogkiaaDoorLd
import Derived.Test.YtkjlkjnlhogkiaaDoorQHiA
import Derived.Test.YtkjlkjnlhogkiaaDoorProg
import Derived.KernelRfl
set_option linter.unusedSimpArgs false
set_option linter.unusedVariables false
namespace Go.Proofs.YtkjlkjnlhogkiaaDoor.hist
open Go.Ab
noncomputable def TT : Tr TypeInfo := tyTab Tryd.prog.types.toList 0 .nil
noncomputable def CX : Cx := ⟨tyGet TT, eqsOf Tryd.prog⟩
noncomputable def FT : Tr IFn := fnTab CX Tryd.prog.funcs.toList 0 .nil
noncomputable abbrev i3 : IC := (.seq (.reg [⟨(some (.of 2)), none, 0, .mv (.c (.bool false))⟩])
  (.seq (.reg [⟨(some (.of 3)), none, 0, .bslice 0 [] []⟩, 
    ⟨(some (.of 4)), none, 0, .mv (.t (.of 0))⟩, 
    ⟨(some (.of 5)), none, 0, .app 12 96 (.t (.of 3)) (.t (.of 4))⟩, 
    ⟨(some (.of 6)), none, 0, .call (.c (.fn 4 [] [])) [(.t (.of 5))]⟩, 
    ⟨(some (.of 7)), none, 0, .mv (.t (.of 0))⟩, 
    ⟨(some (.of 8)), none, 0, .call (.c (.fn 5 [] [])) [(.t (.of 7))]⟩, 
    ⟨(some (.of 9)), none, 0, .bin .eql (.t (.of 6)) (.t (.of 8))⟩, 
    ⟨(some (.of 10)), none, 0, .mv (.t (.of 9))⟩, 
    ⟨(some (.of 11)), some ((.of 10), true), 0, .call (.c (.fn 6 [] [])) []⟩, 
    ⟨(some (.of 12)), none, 0, .pick (.t (.of 10)) (.t (.of 11)) (.c (.bool false))⟩, 
    ⟨(some (.of 2)), none, 0, .mv (.t (.of 12))⟩])
  .ret))
theorem fn3 : FT.get (.of 3) = some (.mk i3 13 [((.of 2), none, false)]) := by kernel_rfl

noncomputable def i4S0 : IC := (.seq (.reg [⟨(some (.of 6)), none, 0, .mv (.t (.of 0))⟩, 
    ⟨(some (.of 7)), none, 0, .call (.c (.fn 7 [] [])) [(.t (.of 6))]⟩, 
    ⟨(some (.of 5)), none, 0, .mv (.t (.of 7))⟩, 
    ⟨(some (.of 8)), none, 0, .ext (.t (.of 5)) 0⟩, 
    ⟨(some (.of 9)), none, 0, .ext (.t (.of 5)) 1⟩, 
    ⟨(some (.of 3)), none, 0, .mv (.t (.of 8))⟩, 
    ⟨(some (.of 4)), none, 0, .mv (.t (.of 9))⟩])
  (.seq (.reg [⟨(some (.of 10)), none, 0, .mv (.t (.of 4))⟩, 
    ⟨(some (.of 11)), none, 0, .notb (.t (.of 10))⟩])
  (.cond (.t (.of 11))
    (.seq (.reg [⟨(some (.of 2)), none, 0, .mv (.c (.int .i64 1))⟩])
    .ret)
    .skip)))
noncomputable abbrev i4 : IC := (.seq (.reg [⟨(some (.of 2)), none, 0, .mv (.c (.int .i64 0))⟩])
  (.seq i4S0
  (.seq (.reg [⟨(some (.of 2)), none, 0, .mv (.c (.int .i64 0))⟩])
  .ret)))
theorem fn4 : FT.get (.of 4) = some (.mk i4 12 [((.of 2), none, false)]) := by kernel_rfl

noncomputable def i5S0 : IC := (.seq (.reg [⟨(some (.of 6)), none, 0, .mv (.t (.of 0))⟩, 
    ⟨(some (.of 7)), none, 0, .call (.c (.fn 8 [] [])) [(.t (.of 6))]⟩, 
    ⟨(some (.of 5)), none, 0, .mv (.t (.of 7))⟩, 
    ⟨(some (.of 8)), none, 0, .ext (.t (.of 5)) 0⟩, 
    ⟨(some (.of 9)), none, 0, .ext (.t (.of 5)) 1⟩, 
    ⟨(some (.of 3)), none, 0, .mv (.t (.of 8))⟩, 
    ⟨(some (.of 4)), none, 0, .mv (.t (.of 9))⟩])
  (.seq (.reg [⟨(some (.of 10)), none, 0, .mv (.t (.of 4))⟩, 
    ⟨(some (.of 11)), none, 0, .notb (.t (.of 10))⟩])
  (.cond (.t (.of 11))
    (.seq (.reg [⟨(some (.of 2)), none, 0, .mv (.c (.int .i64 1))⟩])
    .ret)
    .skip)))
noncomputable abbrev i5 : IC := (.seq (.reg [⟨(some (.of 2)), none, 0, .mv (.c (.int .i64 0))⟩])
  (.seq i5S0
  (.seq (.reg [⟨(some (.of 2)), none, 0, .mv (.c (.int .i64 0))⟩])
  .ret)))
theorem fn5 : FT.get (.of 5) = some (.mk i5 12 [((.of 2), none, false)]) := by kernel_rfl

noncomputable def i7S0 : IC := (.cond (.t (.of 14))
    .skip
    (.exit 0))
noncomputable def i7S1 : IC := (.seq (.regd [⟨(some (.of 42)), none, 0, .mv (.t (.of 9))⟩, 
    ⟨(some (.of 43)), none, 0, .notb (.t (.of 42))⟩, 
    ⟨(some (.of 44)), none, 0, .mv (.t (.of 43))⟩, 
    ⟨(some (.of 45)), some ((.of 44), false), 0, .mv (.t (.of 4))⟩, 
    ⟨(some (.of 46)), some ((.of 44), false), 0, .mv (.t (.of 8))⟩, 
    ⟨(some (.of 47)), some ((.of 44), false), 0, .ixs 13 (.t (.of 45)) (.t (.of 46))⟩, 
    ⟨(some (.of 48)), some ((.of 44), false), 0, .fa 1 (.t (.of 47))⟩, 
    ⟨(some (.of 49)), some ((.of 44), false), 0, .ldn 8 (.t (.of 48))⟩, 
    ⟨(some (.of 50)), some ((.of 44), false), 0, .fa 2 (.t (.of 7))⟩, 
    ⟨(some (.of 51)), some ((.of 44), false), 0, .ldn 8 (.t (.of 50))⟩, 
    ⟨(some (.of 52)), some ((.of 44), false), 0, .eqa [false, false, false, false, false, false, false, false] true (.t (.of 49)) (.t (.of 51))⟩, 
    ⟨(some (.of 53)), none, 0, .pick (.t (.of 44)) (.c (.bool true)) (.t (.of 52))⟩])
  (.cond (.t (.of 53))
    (.seq (.reg [⟨(some (.of 2)), none, 0, .mv (.c .nils)⟩, 
      ⟨(some (.of 3)), none, 0, .mv (.c (.bool false))⟩])
    .ret)
    .skip))
noncomputable def i7S2 : IC := (.block 1 (.seq (.reg [⟨(some (.of 15)), none, 0, .mv (.t (.of 13))⟩, 
      ⟨(some (.of 16)), none, 0, .ixs 12 (.t (.of 11)) (.t (.of 13))⟩, 
      ⟨(some (.of 17)), none, 0, .ldn 12 (.t (.of 16))⟩, 
      ⟨(some (.of 7)), none, 0, .new [(.bool false), (.int .i64 0), (.int .i64 0), (.int .i64 0), (.int .i64 0), (.int .i64 0), (.int .i64 0), (.int .i64 0), (.int .i64 0), (.int .i64 0), (.int .i64 0), (.int .i64 0)]⟩, 
      ⟨(some (.of 6)), none, 0, .mv (.t (.of 15))⟩, 
      ⟨none, none, 0, .stn 12 (.t (.of 7)) (.t (.of 17))⟩])
    (.seq (.reg [⟨(some (.of 19)), none, 0, .mv (.t (.of 5))⟩, 
      ⟨(some (.of 20)), none, 0, .fa 1 (.t (.of 7))⟩, 
      ⟨(some (.of 21)), none, 0, .ld1 (.t (.of 20))⟩, 
      ⟨(some (.of 22)), none, 0, .lkp false [false] (.int .i64 0) true (.t (.of 19)) (.t (.of 21))⟩, 
      ⟨(some (.of 18)), none, 0, .mv (.t (.of 22))⟩, 
      ⟨(some (.of 23)), none, 0, .ext (.t (.of 18)) 0⟩, 
      ⟨(some (.of 24)), none, 0, .ext (.t (.of 18)) 1⟩, 
      ⟨(some (.of 8)), none, 0, .mv (.t (.of 23))⟩, 
      ⟨(some (.of 9)), none, 0, .mv (.t (.of 24))⟩])
    (.block 2 (.seq (.reg [⟨(some (.of 40)), none, 0, .fa 0 (.t (.of 7))⟩, 
        ⟨(some (.of 41)), none, 0, .ld1 (.t (.of 40))⟩, 
        ⟨(some (.of 39)), none, 0, .mv (.t (.of 41))⟩])
      (.cond (.t (.of 39))
        (.seq i7S1
        (.seq (.regd [⟨(some (.of 54)), none, 0, .mv (.t (.of 4))⟩, 
          ⟨(some (.of 55)), none, 0, .mv (.t (.of 8))⟩, 
          ⟨(some (.of 56)), none, 0, .mv (.t (.of 4))⟩, 
          ⟨(some (.of 57)), none, 0, .mv (.t (.of 8))⟩, 
          ⟨(some (.of 58)), none, 0, .mv (.t (.of 6))⟩, 
          ⟨(some (.of 59)), none, 0, .fa 10 (.t (.of 7))⟩, 
          ⟨(some (.of 60)), none, 1, .ldn 2 (.t (.of 59))⟩, 
          ⟨(some (.of 61)), none, 0, .ixs 13 (.t (.of 54)) (.t (.of 55))⟩, 
          ⟨(some (.of 62)), none, 0, .fa 10 (.t (.of 61))⟩, 
          ⟨none, none, 0, .st1 (.t (.of 62)) (.t (.of 58))⟩, 
          ⟨(some (.of 63)), none, 0, .ixs 13 (.t (.of 56)) (.t (.of 57))⟩, 
          ⟨(some (.of 64)), none, 0, .fa 11 (.t (.of 63))⟩, 
          ⟨none, none, 0, .stn 2 (.t (.of 64)) (.t (.of 60))⟩])
        (.reg [⟨(some (.of 65)), none, 0, .mv (.t (.of 5))⟩, 
        ⟨(some (.of 66)), none, 0, .fa 1 (.t (.of 7))⟩, 
        ⟨(some (.of 67)), none, 0, .ld1 (.t (.of 66))⟩, 
        ⟨none, none, 0, .del false [false] (.t (.of 65)) (.t (.of 67))⟩])))
        (.seq (.reg [⟨(some (.of 69)), none, 0, .mv (.t (.of 9))⟩, 
          ⟨(some (.of 70)), none, 0, .mv (.t (.of 69))⟩, 
          ⟨(some (.of 71)), some ((.of 70), false), 0, .fa 10 (.t (.of 7))⟩, 
          ⟨(some (.of 72)), some ((.of 70), false), 0, .ldn 2 (.t (.of 71))⟩, 
          ⟨(some (.of 73)), some ((.of 70), false), 0, .build [(.int .i64 0), (.int .i64 0)] []⟩, 
          ⟨(some (.of 74)), some ((.of 70), false), 0, .eqa [false, false] true (.t (.of 72)) (.t (.of 73))⟩, 
          ⟨(some (.of 75)), none, 0, .pick (.t (.of 70)) (.c (.bool true)) (.t (.of 74))⟩, 
          ⟨(some (.of 68)), none, 0, .mv (.t (.of 75))⟩])
        (.cond (.t (.of 68))
          (.seq (.reg [⟨(some (.of 2)), none, 0, .mv (.c .nils)⟩, 
            ⟨(some (.of 3)), none, 0, .mv (.c (.bool false))⟩])
          .ret)
          (.seq (.reg [⟨(some (.of 25)), none, 0, .mv (.t (.of 5))⟩, 
            ⟨(some (.of 26)), none, 0, .fa 1 (.t (.of 7))⟩, 
            ⟨(some (.of 27)), none, 0, .ld1 (.t (.of 26))⟩, 
            ⟨(some (.of 28)), none, 0, .mv (.t (.of 4))⟩, 
            ⟨(some (.of 29)), none, 0, .len (.t (.of 28))⟩, 
            ⟨none, none, 0, .mset false [false] (.t (.of 25)) (.t (.of 27)) (.t (.of 29))⟩])
          (.reg [⟨(some (.of 30)), none, 0, .mv (.t (.of 4))⟩, 
          ⟨(some (.of 31)), none, 0, .fa 1 (.t (.of 7))⟩, 
          ⟨(some (.of 32)), none, 0, .ld1 (.t (.of 31))⟩, 
          ⟨(some (.of 33)), none, 0, .fa 2 (.t (.of 7))⟩, 
          ⟨(some (.of 34)), none, 0, .ldn 8 (.t (.of 33))⟩, 
          ⟨(some (.of 35)), none, 0, .mv (.t (.of 6))⟩, 
          ⟨(some (.of 36)), none, 0, .build [(.int .i64 0), (.int .i64 0), (.int .i64 0), (.int .i64 0), (.int .i64 0), (.int .i64 0), (.int .i64 0), (.int .i64 0), (.int .i64 0), (.int .i64 0), (.int .i64 0), (.int .i64 0), (.int .i64 0)] [(0, 1, (.t (.of 32))), (1, 8, (.t (.of 34))), (9, 1, (.t (.of 35))), (10, 1, (.c (.int .i64 (-1))))]⟩, 
          ⟨(some (.of 37)), none, 0, .bslice 1 [(.int .i64 0), (.int .i64 0), (.int .i64 0), (.int .i64 0), (.int .i64 0), (.int .i64 0), (.int .i64 0), (.int .i64 0), (.int .i64 0), (.int .i64 0), (.int .i64 0), (.int .i64 0), (.int .i64 0)] [(0, 13, (.t (.of 36)))]⟩, 
          ⟨(some (.of 38)), none, 0, .app 13 104 (.t (.of 30)) (.t (.of 37))⟩, 
          ⟨(some (.of 4)), none, 0, .mv (.t (.of 38))⟩]))))))))))
noncomputable abbrev i7L3 : IC := (.seq (.reg [⟨(some (.of 14)), none, 0, .bin .lss (.t (.of 13)) (.t (.of 12))⟩])
  (.seq i7S0
  (.seq i7S2
  (.reg [⟨(some (.of 76)), none, 0, .bin .add (.t (.of 13)) (.c (.int .i64 1))⟩, 
  ⟨(some (.of 13)), none, 0, .mv (.t (.of 76))⟩]))))
noncomputable def i7S4 : IC := (.seq (.reg [⟨(some (.of 11)), none, 0, .mv (.t (.of 0))⟩, 
    ⟨(some (.of 12)), none, 0, .len (.t (.of 11))⟩, 
    ⟨(some (.of 13)), none, 0, .mv (.c (.int .i64 0))⟩])
  (.block 0 (.loop i7L3)))
noncomputable abbrev i7 : IC := (.seq (.reg [⟨(some (.of 2)), none, 0, .mv (.c .nils)⟩, 
    ⟨(some (.of 3)), none, 0, .mv (.c (.bool false))⟩])
  (.seq (.reg [⟨(some (.of 4)), none, 0, .mv (.c .nils)⟩])
  (.seq (.reg [⟨(some (.of 10)), none, 0, .mkmap⟩, 
    ⟨(some (.of 5)), none, 0, .mv (.t (.of 10))⟩])
  (.seq i7S4
  (.seq (.reg [⟨(some (.of 77)), none, 0, .mv (.t (.of 4))⟩, 
    ⟨(some (.of 2)), none, 0, .mv (.t (.of 77))⟩, 
    ⟨(some (.of 3)), none, 0, .mv (.c (.bool true))⟩])
  .ret)))))
theorem fn7 : FT.get (.of 7) = some (.mk i7 78 [((.of 2), none, false), ((.of 3), none, false)]) := by kernel_rfl

noncomputable def i8S0 : IC := (.seq (.reg [⟨(some (.of 9)), none, 0, .mv (.t (.of 5))⟩, 
    ⟨(some (.of 10)), none, 0, .mv (.t (.of 0))⟩, 
    ⟨(some (.of 11)), none, 0, .len (.t (.of 10))⟩, 
    ⟨(some (.of 12)), none, 0, .bin .lss (.t (.of 9)) (.t (.of 11))⟩])
  (.cond (.t (.of 12))
    .skip
    (.exit 0)))
noncomputable def i8S1 : IC := (.seq (.reg [⟨(some (.of 15)), none, 0, .mv (.t (.of 7))⟩, 
    ⟨(some (.of 16)), none, 0, .mv (.t (.of 4))⟩, 
    ⟨(some (.of 17)), none, 0, .len (.t (.of 16))⟩, 
    ⟨(some (.of 18)), none, 0, .bin .lss (.t (.of 15)) (.t (.of 17))⟩])
  (.cond (.t (.of 18))
    .skip
    (.exit 2)))
noncomputable def i8S2 : IC := (.block 3 (.seq (.regd [⟨(some (.of 21)), none, 0, .mv (.t (.of 4))⟩, 
      ⟨(some (.of 22)), none, 0, .mv (.t (.of 7))⟩, 
      ⟨(some (.of 23)), none, 0, .ixs 13 (.t (.of 21)) (.t (.of 22))⟩, 
      ⟨(some (.of 24)), none, 0, .fa 0 (.t (.of 23))⟩, 
      ⟨(some (.of 25)), none, 0, .ld1 (.t (.of 24))⟩, 
      ⟨(some (.of 26)), none, 0, .mv (.t (.of 0))⟩, 
      ⟨(some (.of 27)), none, 0, .mv (.t (.of 5))⟩, 
      ⟨(some (.of 28)), none, 0, .ixs 12 (.t (.of 26)) (.t (.of 27))⟩, 
      ⟨(some (.of 29)), none, 0, .fa 1 (.t (.of 28))⟩, 
      ⟨(some (.of 30)), none, 0, .ld1 (.t (.of 29))⟩, 
      ⟨(some (.of 31)), none, 0, .bin .eql (.t (.of 25)) (.t (.of 30))⟩, 
      ⟨(some (.of 32)), none, 0, .mv (.t (.of 31))⟩, 
      ⟨(some (.of 33)), some ((.of 32), true), 0, .mv (.t (.of 4))⟩, 
      ⟨(some (.of 34)), some ((.of 32), true), 0, .mv (.t (.of 7))⟩, 
      ⟨(some (.of 35)), some ((.of 32), true), 0, .ixs 13 (.t (.of 33)) (.t (.of 34))⟩, 
      ⟨(some (.of 36)), some ((.of 32), true), 0, .fa 12 (.t (.of 35))⟩, 
      ⟨(some (.of 37)), some ((.of 32), true), 0, .ld1 (.t (.of 36))⟩, 
      ⟨(some (.of 38)), some ((.of 32), true), 0, .bin .lss (.t (.of 37)) (.c (.int .i64 0))⟩, 
      ⟨(some (.of 39)), none, 0, .pick (.t (.of 32)) (.t (.of 38)) (.c (.bool false))⟩])
    (.cond (.t (.of 39))
      (.reg [⟨(some (.of 40)), none, 0, .mv (.t (.of 7))⟩, 
      ⟨(some (.of 6)), none, 0, .mv (.t (.of 40))⟩])
      .skip)))
noncomputable abbrev i8L3 : IC := (.seq i8S1
  (.seq i8S2
  (.reg [⟨(some (.of 19)), none, 0, .mv (.t (.of 7))⟩, 
  ⟨(some (.of 20)), none, 0, .bin .add (.t (.of 19)) (.c (.int .i64 1))⟩, 
  ⟨(some (.of 7)), none, 0, .mv (.t (.of 20))⟩])))
noncomputable def i8S4 : IC := (.seq (.reg [⟨(some (.of 7)), none, 0, .mv (.c (.int .i64 0))⟩])
  (.block 2 (.loop i8L3)))
noncomputable def i8S5 : IC := (.seq (.regd [⟨(some (.of 46)), none, 0, .mv (.t (.of 6))⟩, 
    ⟨(some (.of 47)), none, 0, .bin .lss (.t (.of 46)) (.c (.int .i64 0))⟩, 
    ⟨(some (.of 48)), none, 0, .mv (.t (.of 47))⟩, 
    ⟨(some (.of 49)), some ((.of 48), false), 0, .mv (.t (.of 4))⟩, 
    ⟨(some (.of 50)), some ((.of 48), false), 0, .mv (.t (.of 6))⟩, 
    ⟨(some (.of 51)), some ((.of 48), false), 0, .ixs 13 (.t (.of 49)) (.t (.of 50))⟩, 
    ⟨(some (.of 52)), some ((.of 48), false), 0, .fa 1 (.t (.of 51))⟩, 
    ⟨(some (.of 53)), some ((.of 48), false), 0, .ldn 8 (.t (.of 52))⟩, 
    ⟨(some (.of 54)), some ((.of 48), false), 0, .mv (.t (.of 0))⟩, 
    ⟨(some (.of 55)), some ((.of 48), false), 0, .mv (.t (.of 5))⟩, 
    ⟨(some (.of 56)), some ((.of 48), false), 0, .ixs 12 (.t (.of 54)) (.t (.of 55))⟩, 
    ⟨(some (.of 57)), some ((.of 48), false), 0, .fa 2 (.t (.of 56))⟩, 
    ⟨(some (.of 58)), some ((.of 48), false), 0, .ldn 8 (.t (.of 57))⟩, 
    ⟨(some (.of 59)), some ((.of 48), false), 0, .eqa [false, false, false, false, false, false, false, false] true (.t (.of 53)) (.t (.of 58))⟩, 
    ⟨(some (.of 60)), none, 0, .pick (.t (.of 48)) (.c (.bool true)) (.t (.of 59))⟩])
  (.cond (.t (.of 60))
    (.seq (.reg [⟨(some (.of 2)), none, 0, .mv (.c .nils)⟩, 
      ⟨(some (.of 3)), none, 0, .mv (.c (.bool false))⟩])
    .ret)
    .skip))
noncomputable def i8S6 : IC := (.seq (.reg [⟨(some (.of 41)), none, 0, .mv (.t (.of 0))⟩, 
    ⟨(some (.of 42)), none, 0, .mv (.t (.of 5))⟩, 
    ⟨(some (.of 43)), none, 0, .ixs 12 (.t (.of 41)) (.t (.of 42))⟩, 
    ⟨(some (.of 44)), none, 0, .fa 0 (.t (.of 43))⟩, 
    ⟨(some (.of 45)), none, 0, .ld1 (.t (.of 44))⟩])
  (.cond (.t (.of 45))
    (.seq i8S5
    (.seq (.reg [⟨(some (.of 61)), none, 0, .mv (.t (.of 4))⟩, 
      ⟨(some (.of 62)), none, 0, .mv (.t (.of 6))⟩, 
      ⟨(some (.of 63)), none, 0, .mv (.t (.of 5))⟩, 
      ⟨(some (.of 64)), none, 0, .ixs 13 (.t (.of 61)) (.t (.of 62))⟩, 
      ⟨(some (.of 65)), none, 0, .fa 12 (.t (.of 64))⟩, 
      ⟨none, none, 0, .st1 (.t (.of 65)) (.t (.of 63))⟩])
    (.seq (.reg [⟨(some (.of 66)), none, 0, .mv (.t (.of 4))⟩, 
      ⟨(some (.of 67)), none, 0, .mv (.t (.of 6))⟩, 
      ⟨(some (.of 68)), none, 0, .mv (.t (.of 0))⟩, 
      ⟨(some (.of 69)), none, 0, .mv (.t (.of 5))⟩, 
      ⟨(some (.of 70)), none, 0, .ixs 12 (.t (.of 68)) (.t (.of 69))⟩, 
      ⟨(some (.of 71)), none, 0, .fa 10 (.t (.of 70))⟩, 
      ⟨(some (.of 72)), none, 0, .ldn 2 (.t (.of 71))⟩, 
      ⟨(some (.of 73)), none, 0, .ixs 13 (.t (.of 66)) (.t (.of 67))⟩, 
      ⟨(some (.of 74)), none, 0, .fa 9 (.t (.of 73))⟩, 
      ⟨none, none, 0, .stn 2 (.t (.of 74)) (.t (.of 72))⟩])
    (.exit 1))))
    .skip))
noncomputable def i8S7 : IC := (.seq (.reg [⟨(some (.of 75)), none, 0, .mv (.t (.of 6))⟩, 
    ⟨(some (.of 76)), none, 0, .bin .geq (.t (.of 75)) (.c (.int .i64 0))⟩, 
    ⟨(some (.of 77)), none, 0, .mv (.t (.of 76))⟩, 
    ⟨(some (.of 78)), some ((.of 77), false), 0, .mv (.t (.of 0))⟩, 
    ⟨(some (.of 79)), some ((.of 77), false), 0, .mv (.t (.of 5))⟩, 
    ⟨(some (.of 80)), some ((.of 77), false), 0, .ixs 12 (.t (.of 78)) (.t (.of 79))⟩, 
    ⟨(some (.of 81)), some ((.of 77), false), 0, .fa 10 (.t (.of 80))⟩, 
    ⟨(some (.of 82)), some ((.of 77), false), 0, .ldn 2 (.t (.of 81))⟩, 
    ⟨(some (.of 83)), some ((.of 77), false), 0, .build [(.int .i64 0), (.int .i64 0)] []⟩, 
    ⟨(some (.of 84)), some ((.of 77), false), 0, .eqa [false, false] true (.t (.of 82)) (.t (.of 83))⟩, 
    ⟨(some (.of 85)), none, 0, .pick (.t (.of 77)) (.c (.bool true)) (.t (.of 84))⟩])
  (.cond (.t (.of 85))
    (.seq (.reg [⟨(some (.of 2)), none, 0, .mv (.c .nils)⟩, 
      ⟨(some (.of 3)), none, 0, .mv (.c (.bool false))⟩])
    .ret)
    .skip))
noncomputable def i8S8 : IC := (.block 1 (.seq (.reg [⟨(some (.of 6)), none, 0, .mv (.c (.int .i64 (-1)))⟩])
    (.seq i8S4
    (.seq i8S6
    (.seq i8S7
    (.regd [⟨(some (.of 86)), none, 0, .mv (.t (.of 4))⟩, 
    ⟨(some (.of 87)), none, 0, .mv (.t (.of 0))⟩, 
    ⟨(some (.of 88)), none, 0, .mv (.t (.of 5))⟩, 
    ⟨(some (.of 89)), none, 0, .ixs 12 (.t (.of 87)) (.t (.of 88))⟩, 
    ⟨(some (.of 90)), none, 0, .fa 1 (.t (.of 89))⟩, 
    ⟨(some (.of 91)), none, 1, .ld1 (.t (.of 90))⟩, 
    ⟨(some (.of 92)), none, 0, .mv (.t (.of 0))⟩, 
    ⟨(some (.of 93)), none, 0, .mv (.t (.of 5))⟩, 
    ⟨(some (.of 94)), none, 0, .ixs 12 (.t (.of 92)) (.t (.of 93))⟩, 
    ⟨(some (.of 95)), none, 0, .fa 2 (.t (.of 94))⟩, 
    ⟨(some (.of 96)), none, 1, .ldn 8 (.t (.of 95))⟩, 
    ⟨(some (.of 97)), none, 0, .mv (.t (.of 5))⟩, 
    ⟨(some (.of 98)), none, 0, .build [(.int .i64 0), (.int .i64 0), (.int .i64 0), (.int .i64 0), (.int .i64 0), (.int .i64 0), (.int .i64 0), (.int .i64 0), (.int .i64 0), (.int .i64 0), (.int .i64 0), (.int .i64 0), (.int .i64 0)] [(0, 1, (.t (.of 91))), (1, 8, (.t (.of 96))), (11, 1, (.t (.of 97))), (12, 1, (.c (.int .i64 (-1))))]⟩, 
    ⟨(some (.of 99)), none, 0, .bslice 1 [(.int .i64 0), (.int .i64 0), (.int .i64 0), (.int .i64 0), (.int .i64 0), (.int .i64 0), (.int .i64 0), (.int .i64 0), (.int .i64 0), (.int .i64 0), (.int .i64 0), (.int .i64 0), (.int .i64 0)] [(0, 13, (.t (.of 98)))]⟩, 
    ⟨(some (.of 100)), none, 0, .app 13 104 (.t (.of 86)) (.t (.of 99))⟩, 
    ⟨(some (.of 4)), none, 0, .mv (.t (.of 100))⟩]))))))
noncomputable abbrev i8L9 : IC := (.seq i8S0
  (.seq i8S8
  (.reg [⟨(some (.of 13)), none, 0, .mv (.t (.of 5))⟩, 
  ⟨(some (.of 14)), none, 0, .bin .add (.t (.of 13)) (.c (.int .i64 1))⟩, 
  ⟨(some (.of 5)), none, 0, .mv (.t (.of 14))⟩])))
noncomputable def i8S10 : IC := (.seq (.reg [⟨(some (.of 5)), none, 0, .mv (.c (.int .i64 0))⟩])
  (.block 0 (.loop i8L9)))
noncomputable abbrev i8 : IC := (.seq (.reg [⟨(some (.of 2)), none, 0, .mv (.c .nils)⟩, 
    ⟨(some (.of 3)), none, 0, .mv (.c (.bool false))⟩])
  (.seq (.reg [⟨(some (.of 8)), none, 0, .bslice 0 [] []⟩, 
    ⟨(some (.of 4)), none, 0, .mv (.t (.of 8))⟩])
  (.seq i8S10
  (.seq (.reg [⟨(some (.of 101)), none, 0, .mv (.t (.of 4))⟩, 
    ⟨(some (.of 2)), none, 0, .mv (.t (.of 101))⟩, 
    ⟨(some (.of 3)), none, 0, .mv (.c (.bool true))⟩])
  .ret))))
theorem fn8 : FT.get (.of 8) = some (.mk i8 102 [((.of 2), none, false), ((.of 3), none, false)]) := by kernel_rfl

noncomputable abbrev EV : Env := EE nS (trueOrc 6) FT
end Go.Proofs.YtkjlkjnlhogkiaaDoor.hist
