/- The tables; the texts of 'quiet.Fair' and what it calls, and of the law. No condition. -/
import Derived.Test.YtjgflopikppagaaGreatLc
import Derived.Test.YtjgflopikppagaaGreatProg
import Derived.KernelRfl
set_option linter.unusedSimpArgs false
set_option linter.unusedVariables false
namespace Go.Proofs.YtjgflopikppagaaGreat.fair
open Go.Ab
noncomputable def TT : Tr TypeInfo := tyTab Tryz.prog.types.toList 0 .nil
noncomputable def CX : Cx := ⟨tyGet TT, eqsOf Tryz.prog⟩
noncomputable def FT : Tr IFn := fnTab CX Tryz.prog.funcs.toList 0 .nil
noncomputable abbrev i12 : IC := (.seq (.reg [⟨(some (.of 6)), none, 0, .mv (.c (.bool false))⟩])
  (.seq (.reg [⟨(some (.of 7)), none, 0, .mv (.t (.of 0))⟩, 
    ⟨(some (.of 8)), none, 0, .mv (.t (.of 1))⟩, 
    ⟨(some (.of 9)), none, 0, .bin .geq (.t (.of 7)) (.t (.of 8))⟩, 
    ⟨(some (.of 10)), none, 0, .mv (.t (.of 9))⟩, 
    ⟨(some (.of 11)), some ((.of 10), true), 0, .mv (.t (.of 0))⟩, 
    ⟨(some (.of 12)), some ((.of 10), true), 0, .mv (.t (.of 2))⟩, 
    ⟨(some (.of 13)), some ((.of 10), true), 0, .bin .leq (.t (.of 11)) (.t (.of 12))⟩, 
    ⟨(some (.of 14)), none, 0, .pick (.t (.of 10)) (.t (.of 13)) (.c (.bool false))⟩, 
    ⟨(some (.of 6)), none, 0, .mv (.t (.of 14))⟩])
  .ret))
theorem fn12 : FT.get (.of 12) = some (.mk i12 15 [((.of 6), none, false)]) := by kernel_rfl

noncomputable def i7S0 : IC := (.seq (.reg [⟨(some (.of 17)), none, 0, .mv (.t (.of 3))⟩, 
    ⟨(some (.of 18)), none, 0, .notb (.t (.of 17))⟩, 
    ⟨(some (.of 19)), none, 0, .mv (.t (.of 18))⟩, 
    ⟨(some (.of 20)), some ((.of 19), false), 0, .fa 3 (.t (.of 1))⟩, 
    ⟨(some (.of 21)), some ((.of 19), false), 0, .ld1 (.t (.of 20))⟩, 
    ⟨(some (.of 22)), some ((.of 19), false), 0, .fa 1 (.t (.of 1))⟩, 
    ⟨(some (.of 23)), some ((.of 19), false), 0, .ld1 (.t (.of 22))⟩, 
    ⟨(some (.of 24)), some ((.of 19), false), 0, .call (.c (.fn 12 [] [])) [(.t (.of 21)), (.t (.of 23)), (.c (.int .i64 1024))]⟩, 
    ⟨(some (.of 25)), some ((.of 19), false), 0, .notb (.t (.of 24))⟩, 
    ⟨(some (.of 26)), none, 0, .pick (.t (.of 19)) (.c (.bool true)) (.t (.of 25))⟩, 
    ⟨(some (.of 27)), none, 0, .mv (.t (.of 26))⟩, 
    ⟨(some (.of 28)), some ((.of 27), false), 0, .fa 4 (.t (.of 1))⟩, 
    ⟨(some (.of 29)), some ((.of 27), false), 0, .ld1 (.t (.of 28))⟩, 
    ⟨(some (.of 30)), some ((.of 27), false), 0, .call (.c (.fn 12 [] [])) [(.t (.of 29)), (.c (.int .i64 1)), (.c (.int .i64 64))]⟩, 
    ⟨(some (.of 31)), some ((.of 27), false), 0, .notb (.t (.of 30))⟩, 
    ⟨(some (.of 32)), none, 0, .pick (.t (.of 27)) (.c (.bool true)) (.t (.of 31))⟩])
  (.cond (.t (.of 32))
    (.seq (.reg [⟨(some (.of 2)), none, 0, .mv (.c (.int .i64 0))⟩])
    .ret)
    .skip))
noncomputable abbrev i7 : IC := (.seq (.reg [⟨(some (.of 1)), none, 0, .box (.t (.of 0))⟩, 
    ⟨(some (.of 2)), none, 0, .mv (.c (.int .i64 0))⟩])
  (.seq (.reg [⟨(some (.of 4)), none, 0, .fa 0 (.t (.of 1))⟩, 
    ⟨(some (.of 5)), none, 0, .ld1 (.t (.of 4))⟩, 
    ⟨(some (.of 6)), none, 0, .call (.c (.fn 12 [] [])) [(.t (.of 5)), (.c (.int .i64 1)), (.c (.int .i64 8))]⟩, 
    ⟨(some (.of 7)), none, 0, .mv (.t (.of 6))⟩, 
    ⟨(some (.of 8)), some ((.of 7), true), 0, .fa 1 (.t (.of 1))⟩, 
    ⟨(some (.of 9)), some ((.of 7), true), 0, .ld1 (.t (.of 8))⟩, 
    ⟨(some (.of 10)), some ((.of 7), true), 0, .call (.c (.fn 12 [] [])) [(.t (.of 9)), (.c (.int .i64 1)), (.c (.int .i64 64))]⟩, 
    ⟨(some (.of 11)), none, 0, .pick (.t (.of 7)) (.t (.of 10)) (.c (.bool false))⟩, 
    ⟨(some (.of 12)), none, 0, .mv (.t (.of 11))⟩, 
    ⟨(some (.of 13)), some ((.of 12), true), 0, .fa 2 (.t (.of 1))⟩, 
    ⟨(some (.of 14)), some ((.of 12), true), 0, .ld1 (.t (.of 13))⟩, 
    ⟨(some (.of 15)), some ((.of 12), true), 0, .call (.c (.fn 12 [] [])) [(.t (.of 14)), (.c (.int .i64 1)), (.c (.int .i64 1024))]⟩, 
    ⟨(some (.of 16)), none, 0, .pick (.t (.of 12)) (.t (.of 15)) (.c (.bool false))⟩, 
    ⟨(some (.of 3)), none, 0, .mv (.t (.of 16))⟩])
  (.seq i7S0
  (.seq (.reg [⟨(some (.of 33)), none, 0, .fa 1 (.t (.of 1))⟩, 
    ⟨(some (.of 34)), none, 0, .ld1 (.t (.of 33))⟩, 
    ⟨(some (.of 35)), none, 0, .bin .mul (.c (.int .i64 16)) (.t (.of 34))⟩, 
    ⟨(some (.of 36)), none, 0, .fa 0 (.t (.of 1))⟩, 
    ⟨(some (.of 37)), none, 0, .ld1 (.t (.of 36))⟩, 
    ⟨(some (.of 38)), none, 0, .fa 1 (.t (.of 1))⟩, 
    ⟨(some (.of 39)), none, 0, .ld1 (.t (.of 38))⟩, 
    ⟨(some (.of 40)), none, 0, .bin .add (.t (.of 37)) (.t (.of 39))⟩, 
    ⟨(some (.of 41)), none, 0, .bin .add (.t (.of 40)) (.c (.int .i64 32))⟩, 
    ⟨(some (.of 42)), none, 0, .bin .mul (.t (.of 35)) (.t (.of 41))⟩, 
    ⟨(some (.of 43)), none, 0, .bin .add (.c (.int .i64 64)) (.t (.of 42))⟩, 
    ⟨(some (.of 2)), none, 0, .mv (.t (.of 43))⟩])
  .ret))))
theorem fn7 : FT.get (.of 7) = some (.mk i7 44 [((.of 2), none, false)]) := by kernel_rfl

noncomputable abbrev i4 : IC := (.seq (.reg [⟨(some (.of 1)), none, 0, .box (.t (.of 0))⟩, 
    ⟨(some (.of 2)), none, 0, .mv (.c (.bool false))⟩])
  (.seq (.reg [⟨(some (.of 3)), none, 0, .fa 0 (.t (.of 1))⟩, 
    ⟨(some (.of 4)), none, 0, .ld1 (.t (.of 3))⟩, 
    ⟨(some (.of 5)), none, 0, .bin .geq (.t (.of 4)) (.c (.int .i64 1))⟩, 
    ⟨(some (.of 6)), none, 0, .mv (.t (.of 5))⟩, 
    ⟨(some (.of 7)), some ((.of 6), true), 0, .fa 0 (.t (.of 1))⟩, 
    ⟨(some (.of 8)), some ((.of 6), true), 0, .ld1 (.t (.of 7))⟩, 
    ⟨(some (.of 9)), some ((.of 6), true), 0, .bin .leq (.t (.of 8)) (.c (.int .i64 8))⟩, 
    ⟨(some (.of 10)), none, 0, .pick (.t (.of 6)) (.t (.of 9)) (.c (.bool false))⟩, 
    ⟨(some (.of 11)), none, 0, .mv (.t (.of 10))⟩, 
    ⟨(some (.of 12)), some ((.of 11), true), 0, .fa 1 (.t (.of 1))⟩, 
    ⟨(some (.of 13)), some ((.of 11), true), 0, .ld1 (.t (.of 12))⟩, 
    ⟨(some (.of 14)), some ((.of 11), true), 0, .bin .geq (.t (.of 13)) (.c (.int .i64 1))⟩, 
    ⟨(some (.of 15)), none, 0, .pick (.t (.of 11)) (.t (.of 14)) (.c (.bool false))⟩, 
    ⟨(some (.of 16)), none, 0, .mv (.t (.of 15))⟩, 
    ⟨(some (.of 17)), some ((.of 16), true), 0, .fa 1 (.t (.of 1))⟩, 
    ⟨(some (.of 18)), some ((.of 16), true), 0, .ld1 (.t (.of 17))⟩, 
    ⟨(some (.of 19)), some ((.of 16), true), 0, .bin .leq (.t (.of 18)) (.c (.int .i64 64))⟩, 
    ⟨(some (.of 20)), none, 0, .pick (.t (.of 16)) (.t (.of 19)) (.c (.bool false))⟩, 
    ⟨(some (.of 21)), none, 0, .mv (.t (.of 20))⟩, 
    ⟨(some (.of 22)), some ((.of 21), true), 0, .fa 2 (.t (.of 1))⟩, 
    ⟨(some (.of 23)), some ((.of 21), true), 0, .ld1 (.t (.of 22))⟩, 
    ⟨(some (.of 24)), some ((.of 21), true), 0, .bin .geq (.t (.of 23)) (.c (.int .i64 1))⟩, 
    ⟨(some (.of 25)), none, 0, .pick (.t (.of 21)) (.t (.of 24)) (.c (.bool false))⟩, 
    ⟨(some (.of 26)), none, 0, .mv (.t (.of 25))⟩, 
    ⟨(some (.of 27)), some ((.of 26), true), 0, .fa 2 (.t (.of 1))⟩, 
    ⟨(some (.of 28)), some ((.of 26), true), 0, .ld1 (.t (.of 27))⟩, 
    ⟨(some (.of 29)), some ((.of 26), true), 0, .bin .leq (.t (.of 28)) (.c (.int .i64 1024))⟩, 
    ⟨(some (.of 30)), none, 0, .pick (.t (.of 26)) (.t (.of 29)) (.c (.bool false))⟩, 
    ⟨(some (.of 31)), none, 0, .mv (.t (.of 30))⟩, 
    ⟨(some (.of 32)), some ((.of 31), true), 0, .fa 3 (.t (.of 1))⟩, 
    ⟨(some (.of 33)), some ((.of 31), true), 0, .ld1 (.t (.of 32))⟩, 
    ⟨(some (.of 34)), some ((.of 31), true), 0, .fa 1 (.t (.of 1))⟩, 
    ⟨(some (.of 35)), some ((.of 31), true), 0, .ld1 (.t (.of 34))⟩, 
    ⟨(some (.of 36)), some ((.of 31), true), 0, .bin .geq (.t (.of 33)) (.t (.of 35))⟩, 
    ⟨(some (.of 37)), none, 0, .pick (.t (.of 31)) (.t (.of 36)) (.c (.bool false))⟩, 
    ⟨(some (.of 38)), none, 0, .mv (.t (.of 37))⟩, 
    ⟨(some (.of 39)), some ((.of 38), true), 0, .fa 3 (.t (.of 1))⟩, 
    ⟨(some (.of 40)), some ((.of 38), true), 0, .ld1 (.t (.of 39))⟩, 
    ⟨(some (.of 41)), some ((.of 38), true), 0, .bin .leq (.t (.of 40)) (.c (.int .i64 1024))⟩, 
    ⟨(some (.of 42)), none, 0, .pick (.t (.of 38)) (.t (.of 41)) (.c (.bool false))⟩, 
    ⟨(some (.of 43)), none, 0, .mv (.t (.of 42))⟩, 
    ⟨(some (.of 44)), some ((.of 43), true), 0, .fa 4 (.t (.of 1))⟩, 
    ⟨(some (.of 45)), some ((.of 43), true), 0, .ld1 (.t (.of 44))⟩, 
    ⟨(some (.of 46)), some ((.of 43), true), 0, .bin .geq (.t (.of 45)) (.c (.int .i64 1))⟩, 
    ⟨(some (.of 47)), none, 0, .pick (.t (.of 43)) (.t (.of 46)) (.c (.bool false))⟩, 
    ⟨(some (.of 48)), none, 0, .mv (.t (.of 47))⟩, 
    ⟨(some (.of 49)), some ((.of 48), true), 0, .fa 4 (.t (.of 1))⟩, 
    ⟨(some (.of 50)), some ((.of 48), true), 0, .ld1 (.t (.of 49))⟩, 
    ⟨(some (.of 51)), some ((.of 48), true), 0, .bin .leq (.t (.of 50)) (.c (.int .i64 64))⟩, 
    ⟨(some (.of 52)), none, 0, .pick (.t (.of 48)) (.t (.of 51)) (.c (.bool false))⟩, 
    ⟨(some (.of 2)), none, 0, .mv (.t (.of 52))⟩])
  .ret))
theorem fn4 : FT.get (.of 4) = some (.mk i4 53 [((.of 2), none, false)]) := by kernel_rfl

noncomputable def i5S0 : IC := (.block 0 (.seq (.reg [⟨(some (.of 13)), none, 0, .mv (.t (.of 2))⟩, 
      ⟨(some (.of 14)), none, 0, .bin .lss (.t (.of 13)) (.c (.int .i64 1))⟩, 
      ⟨(some (.of 15)), none, 0, .mv (.t (.of 14))⟩, 
      ⟨(some (.of 16)), some ((.of 15), false), 0, .ldn 6 (.t (.of 3))⟩, 
      ⟨(some (.of 17)), some ((.of 15), false), 0, .call (.c (.fn 7 [] [])) [(.t (.of 16))]⟩, 
      ⟨(some (.of 18)), some ((.of 15), false), 0, .bin .eql (.t (.of 17)) (.c (.int .i64 0))⟩, 
      ⟨(some (.of 19)), none, 0, .pick (.t (.of 15)) (.c (.bool true)) (.t (.of 18))⟩, 
      ⟨(some (.of 12)), none, 0, .mv (.t (.of 19))⟩])
    (.cond (.t (.of 12))
      (.seq (.reg [⟨(some (.of 6)), none, 0, .mv (.c (.bool false))⟩])
      .ret)
      (.seq (.reg [⟨(some (.of 21)), none, 0, .mv (.t (.of 1))⟩, 
        ⟨(some (.of 22)), none, 0, .len (.t (.of 21))⟩, 
        ⟨(some (.of 23)), none, 0, .mv (.t (.of 2))⟩, 
        ⟨(some (.of 24)), none, 0, .bin .lss (.t (.of 22)) (.t (.of 23))⟩, 
        ⟨(some (.of 20)), none, 0, .mv (.t (.of 24))⟩])
      (.cond (.t (.of 20))
        (.seq (.reg [⟨(some (.of 6)), none, 0, .mv (.c (.bool true))⟩])
        .ret)
        .skip)))))
noncomputable def i5S1 : IC := (.seq (.reg [⟨(some (.of 25)), none, 0, .fa 1 (.t (.of 3))⟩, 
    ⟨(some (.of 26)), none, 0, .ld1 (.t (.of 25))⟩, 
    ⟨(some (.of 27)), none, 0, .fa 0 (.t (.of 3))⟩, 
    ⟨(some (.of 28)), none, 0, .ld1 (.t (.of 27))⟩, 
    ⟨(some (.of 29)), none, 0, .bin .add (.t (.of 26)) (.t (.of 28))⟩, 
    ⟨(some (.of 30)), none, 0, .mv (.t (.of 2))⟩, 
    ⟨(some (.of 31)), none, 0, .bin .gtr (.t (.of 29)) (.t (.of 30))⟩])
  (.cond (.t (.of 31))
    (.seq (.reg [⟨(some (.of 6)), none, 0, .mv (.c (.bool false))⟩])
    .ret)
    .skip))
noncomputable def i5S2 : IC := (.cond (.t (.of 43))
    .skip
    (.exit 1))
noncomputable def i5S3 : IC := (.seq (.reg [⟨(some (.of 55)), none, 0, .mv (.t (.of 7))⟩, 
    ⟨(some (.of 56)), none, 0, .mv (.t (.of 10))⟩, 
    ⟨(some (.of 57)), none, 0, .ixs 1 (.t (.of 55)) (.t (.of 56))⟩, 
    ⟨(some (.of 58)), none, 0, .ld1 (.t (.of 57))⟩, 
    ⟨(some (.of 59)), none, 0, .bin .eql (.t (.of 58)) (.c (.int .i64 0))⟩])
  (.cond (.t (.of 59))
    (.reg [⟨(some (.of 60)), none, 0, .mv (.t (.of 8))⟩, 
    ⟨(some (.of 61)), none, 0, .bin .sub (.t (.of 60)) (.c (.int .i64 1))⟩, 
    ⟨(some (.of 8)), none, 0, .mv (.t (.of 61))⟩])
    .skip))
noncomputable def i5S4 : IC := (.seq (.reg [⟨(some (.of 47)), none, 0, .mv (.t (.of 10))⟩, 
    ⟨(some (.of 48)), none, 0, .bin .geq (.t (.of 47)) (.c (.int .i64 0))⟩, 
    ⟨(some (.of 49)), none, 0, .mv (.t (.of 48))⟩, 
    ⟨(some (.of 50)), some ((.of 49), true), 0, .mv (.t (.of 10))⟩, 
    ⟨(some (.of 51)), some ((.of 49), true), 0, .mv (.t (.of 7))⟩, 
    ⟨(some (.of 52)), some ((.of 49), true), 0, .len (.t (.of 51))⟩, 
    ⟨(some (.of 53)), some ((.of 49), true), 0, .bin .lss (.t (.of 50)) (.t (.of 52))⟩, 
    ⟨(some (.of 54)), none, 0, .pick (.t (.of 49)) (.t (.of 53)) (.c (.bool false))⟩])
  (.cond (.t (.of 54))
    (.seq i5S3
    (.reg [⟨(some (.of 62)), none, 0, .mv (.t (.of 7))⟩, 
    ⟨(some (.of 63)), none, 0, .mv (.t (.of 10))⟩, 
    ⟨(some (.of 64)), none, 0, .ixs 1 (.t (.of 62)) (.t (.of 63))⟩, 
    ⟨(some (.of 65)), none, 0, .ld1 (.t (.of 64))⟩, 
    ⟨(some (.of 66)), none, 0, .bin .add (.t (.of 65)) (.c (.int .i64 1))⟩, 
    ⟨(some (.of 67)), none, 0, .ixs 1 (.t (.of 62)) (.t (.of 63))⟩, 
    ⟨none, none, 0, .st1 (.t (.of 67)) (.t (.of 66))⟩]))
    .skip))
noncomputable def i5S5 : IC := (.seq (.reg [⟨(some (.of 68)), none, 0, .mv (.t (.of 9))⟩, 
    ⟨(some (.of 69)), none, 0, .mv (.t (.of 2))⟩, 
    ⟨(some (.of 70)), none, 0, .bin .geq (.t (.of 68)) (.t (.of 69))⟩])
  (.cond (.t (.of 70))
    (.seq (.reg [⟨(some (.of 71)), none, 0, .mv (.t (.of 1))⟩, 
      ⟨(some (.of 72)), none, 0, .mv (.t (.of 9))⟩, 
      ⟨(some (.of 73)), none, 0, .mv (.t (.of 2))⟩, 
      ⟨(some (.of 74)), none, 0, .bin .sub (.t (.of 72)) (.t (.of 73))⟩, 
      ⟨(some (.of 75)), none, 0, .ixs 1 (.t (.of 71)) (.t (.of 74))⟩, 
      ⟨(some (.of 76)), none, 0, .ld1 (.t (.of 75))⟩, 
      ⟨(some (.of 11)), none, 0, .mv (.t (.of 76))⟩])
    (.seq (.reg [⟨(some (.of 77)), none, 0, .mv (.t (.of 11))⟩, 
      ⟨(some (.of 78)), none, 0, .bin .geq (.t (.of 77)) (.c (.int .i64 0))⟩, 
      ⟨(some (.of 79)), none, 0, .mv (.t (.of 78))⟩, 
      ⟨(some (.of 80)), some ((.of 79), true), 0, .mv (.t (.of 11))⟩, 
      ⟨(some (.of 81)), some ((.of 79), true), 0, .mv (.t (.of 7))⟩, 
      ⟨(some (.of 82)), some ((.of 79), true), 0, .len (.t (.of 81))⟩, 
      ⟨(some (.of 83)), some ((.of 79), true), 0, .bin .lss (.t (.of 80)) (.t (.of 82))⟩, 
      ⟨(some (.of 84)), none, 0, .pick (.t (.of 79)) (.t (.of 83)) (.c (.bool false))⟩])
    (.cond (.t (.of 84))
      (.seq (.reg [⟨(some (.of 85)), none, 0, .mv (.t (.of 7))⟩, 
        ⟨(some (.of 86)), none, 0, .mv (.t (.of 11))⟩, 
        ⟨(some (.of 87)), none, 0, .ixs 1 (.t (.of 85)) (.t (.of 86))⟩, 
        ⟨(some (.of 88)), none, 0, .ld1 (.t (.of 87))⟩, 
        ⟨(some (.of 89)), none, 0, .bin .sub (.t (.of 88)) (.c (.int .i64 1))⟩, 
        ⟨(some (.of 90)), none, 0, .ixs 1 (.t (.of 85)) (.t (.of 86))⟩, 
        ⟨none, none, 0, .st1 (.t (.of 90)) (.t (.of 89))⟩])
      (.seq (.reg [⟨(some (.of 91)), none, 0, .mv (.t (.of 7))⟩, 
        ⟨(some (.of 92)), none, 0, .mv (.t (.of 11))⟩, 
        ⟨(some (.of 93)), none, 0, .ixs 1 (.t (.of 91)) (.t (.of 92))⟩, 
        ⟨(some (.of 94)), none, 0, .ld1 (.t (.of 93))⟩, 
        ⟨(some (.of 95)), none, 0, .bin .eql (.t (.of 94)) (.c (.int .i64 0))⟩])
      (.cond (.t (.of 95))
        (.reg [⟨(some (.of 96)), none, 0, .mv (.t (.of 8))⟩, 
        ⟨(some (.of 97)), none, 0, .bin .add (.t (.of 96)) (.c (.int .i64 1))⟩, 
        ⟨(some (.of 8)), none, 0, .mv (.t (.of 97))⟩])
        .skip)))
      .skip)))
    .skip))
noncomputable def i5S6 : IC := (.block 2 (.seq (.reg [⟨(some (.of 44)), none, 0, .mv (.t (.of 42))⟩, 
      ⟨(some (.of 45)), none, 0, .ixs 1 (.t (.of 40)) (.t (.of 42))⟩, 
      ⟨(some (.of 46)), none, 0, .ld1 (.t (.of 45))⟩, 
      ⟨(some (.of 9)), none, 0, .mv (.t (.of 44))⟩, 
      ⟨(some (.of 10)), none, 0, .mv (.t (.of 46))⟩])
    (.seq i5S4
    (.seq i5S5
    (.seq (.reg [⟨(some (.of 98)), none, 0, .mv (.t (.of 9))⟩, 
      ⟨(some (.of 99)), none, 0, .mv (.t (.of 2))⟩, 
      ⟨(some (.of 100)), none, 0, .bin .sub (.t (.of 99)) (.c (.int .i64 1))⟩, 
      ⟨(some (.of 101)), none, 0, .bin .geq (.t (.of 98)) (.t (.of 100))⟩, 
      ⟨(some (.of 102)), none, 0, .mv (.t (.of 101))⟩, 
      ⟨(some (.of 103)), some ((.of 102), true), 0, .mv (.t (.of 8))⟩, 
      ⟨(some (.of 104)), some ((.of 102), true), 0, .bin .gtr (.t (.of 103)) (.c (.int .i64 0))⟩, 
      ⟨(some (.of 105)), none, 0, .pick (.t (.of 102)) (.t (.of 104)) (.c (.bool false))⟩])
    (.cond (.t (.of 105))
      (.seq (.reg [⟨(some (.of 6)), none, 0, .mv (.c (.bool false))⟩])
      .ret)
      .skip))))))
noncomputable abbrev i5L7 : IC := (.seq (.reg [⟨(some (.of 43)), none, 0, .bin .lss (.t (.of 42)) (.t (.of 41))⟩])
  (.seq i5S2
  (.seq i5S6
  (.reg [⟨(some (.of 106)), none, 0, .bin .add (.t (.of 42)) (.c (.int .i64 1))⟩, 
  ⟨(some (.of 42)), none, 0, .mv (.t (.of 106))⟩]))))
noncomputable def i5S8 : IC := (.seq (.reg [⟨(some (.of 40)), none, 0, .mv (.t (.of 1))⟩, 
    ⟨(some (.of 41)), none, 0, .len (.t (.of 40))⟩, 
    ⟨(some (.of 42)), none, 0, .mv (.c (.int .i64 0))⟩])
  (.block 1 (.loop i5L7)))
noncomputable abbrev i5 : IC := (.seq (.reg [⟨(some (.of 3)), none, 0, .box (.t (.of 0))⟩, 
    ⟨(some (.of 6)), none, 0, .mv (.c (.bool false))⟩])
  (.seq i5S0
  (.seq i5S1
  (.seq (.reg [⟨(some (.of 32)), none, 0, .fa 1 (.t (.of 3))⟩, 
    ⟨(some (.of 33)), none, 0, .ld1 (.t (.of 32))⟩, 
    ⟨(some (.of 34)), none, 0, .fa 0 (.t (.of 3))⟩, 
    ⟨(some (.of 35)), none, 0, .ld1 (.t (.of 34))⟩, 
    ⟨(some (.of 36)), none, 0, .bin .add (.t (.of 33)) (.t (.of 35))⟩, 
    ⟨(some (.of 37)), none, 0, .mkslice 1 [(.int .i64 0)] 8 (.t (.of 36)) (.t (.of 36))⟩, 
    ⟨(some (.of 7)), none, 0, .mv (.t (.of 37))⟩])
  (.seq (.reg [⟨(some (.of 38)), none, 0, .mv (.t (.of 7))⟩, 
    ⟨(some (.of 39)), none, 0, .len (.t (.of 38))⟩, 
    ⟨(some (.of 8)), none, 0, .mv (.t (.of 39))⟩])
  (.seq i5S8
  (.seq (.reg [⟨(some (.of 6)), none, 0, .mv (.c (.bool true))⟩])
  .ret)))))))
theorem fn5 : FT.get (.of 5) = some (.mk i5 107 [((.of 6), none, false)]) := by kernel_rfl

noncomputable def i3S0 : IC := (.seq (.reg [⟨(some (.of 18)), none, 0, .mv (.t (.of 7))⟩, 
    ⟨(some (.of 19)), none, 0, .mv (.t (.of 18))⟩, 
    ⟨(some (.of 20)), some ((.of 19), true), 0, .mv (.t (.of 2))⟩, 
    ⟨(some (.of 21)), some ((.of 19), true), 0, .mv (.t (.of 1))⟩, 
    ⟨(some (.of 22)), some ((.of 19), true), 0, .len (.t (.of 21))⟩, 
    ⟨(some (.of 23)), some ((.of 19), true), 0, .bin .leq (.t (.of 20)) (.t (.of 22))⟩, 
    ⟨(some (.of 24)), none, 0, .pick (.t (.of 19)) (.t (.of 23)) (.c (.bool false))⟩, 
    ⟨(some (.of 25)), none, 0, .mv (.t (.of 24))⟩, 
    ⟨(some (.of 26)), some ((.of 25), true), 0, .mv (.t (.of 8))⟩, 
    ⟨(some (.of 27)), some ((.of 25), true), 0, .mv (.t (.of 1))⟩, 
    ⟨(some (.of 28)), some ((.of 25), true), 0, .len (.t (.of 27))⟩, 
    ⟨(some (.of 29)), some ((.of 25), true), 0, .mv (.t (.of 2))⟩, 
    ⟨(some (.of 30)), some ((.of 25), true), 0, .bin .sub (.t (.of 28)) (.t (.of 29))⟩, 
    ⟨(some (.of 31)), some ((.of 25), true), 0, .bin .leq (.t (.of 26)) (.t (.of 30))⟩, 
    ⟨(some (.of 32)), none, 0, .pick (.t (.of 25)) (.t (.of 31)) (.c (.bool false))⟩])
  (.cond (.t (.of 32))
    .skip
    (.exit 0)))
noncomputable def i3S1 : IC := (.seq (.reg [⟨(some (.of 35)), none, 0, .mv (.t (.of 9))⟩, 
    ⟨(some (.of 36)), none, 0, .fa 1 (.t (.of 3))⟩, 
    ⟨(some (.of 37)), none, 0, .ld1 (.t (.of 36))⟩, 
    ⟨(some (.of 38)), none, 0, .fa 0 (.t (.of 3))⟩, 
    ⟨(some (.of 39)), none, 0, .ld1 (.t (.of 38))⟩, 
    ⟨(some (.of 40)), none, 0, .bin .add (.t (.of 37)) (.t (.of 39))⟩, 
    ⟨(some (.of 41)), none, 0, .bin .lss (.t (.of 35)) (.t (.of 40))⟩, 
    ⟨(some (.of 42)), none, 0, .mv (.t (.of 41))⟩, 
    ⟨(some (.of 43)), some ((.of 42), true), 0, .mv (.t (.of 7))⟩, 
    ⟨(some (.of 44)), none, 0, .pick (.t (.of 42)) (.t (.of 43)) (.c (.bool false))⟩])
  (.cond (.t (.of 44))
    .skip
    (.exit 2)))
noncomputable def i3S2 : IC := (.seq (.reg [⟨(some (.of 48)), none, 0, .mv (.t (.of 11))⟩, 
    ⟨(some (.of 49)), none, 0, .mv (.t (.of 8))⟩, 
    ⟨(some (.of 50)), none, 0, .mv (.t (.of 2))⟩, 
    ⟨(some (.of 51)), none, 0, .bin .add (.t (.of 49)) (.t (.of 50))⟩, 
    ⟨(some (.of 52)), none, 0, .bin .lss (.t (.of 48)) (.t (.of 51))⟩])
  (.cond (.t (.of 52))
    .skip
    (.exit 4)))
noncomputable abbrev i3L3 : IC := (.seq i3S2
  (.seq (.block 5 (.reg [⟨(some (.of 55)), none, 0, .mv (.t (.of 10))⟩, 
      ⟨(some (.of 56)), none, 0, .mv (.t (.of 55))⟩, 
      ⟨(some (.of 57)), some ((.of 56), false), 0, .mv (.t (.of 1))⟩, 
      ⟨(some (.of 58)), some ((.of 56), false), 0, .mv (.t (.of 11))⟩, 
      ⟨(some (.of 59)), some ((.of 56), false), 0, .ixs 1 (.t (.of 57)) (.t (.of 58))⟩, 
      ⟨(some (.of 60)), some ((.of 56), false), 0, .ld1 (.t (.of 59))⟩, 
      ⟨(some (.of 61)), some ((.of 56), false), 0, .mv (.t (.of 9))⟩, 
      ⟨(some (.of 62)), some ((.of 56), false), 0, .bin .eql (.t (.of 60)) (.t (.of 61))⟩, 
      ⟨(some (.of 63)), none, 0, .pick (.t (.of 56)) (.c (.bool true)) (.t (.of 62))⟩, 
      ⟨(some (.of 10)), none, 0, .mv (.t (.of 63))⟩]))
  (.reg [⟨(some (.of 53)), none, 0, .mv (.t (.of 11))⟩, 
  ⟨(some (.of 54)), none, 0, .bin .add (.t (.of 53)) (.c (.int .i64 1))⟩, 
  ⟨(some (.of 11)), none, 0, .mv (.t (.of 54))⟩])))
noncomputable def i3S4 : IC := (.seq (.reg [⟨(some (.of 47)), none, 0, .mv (.t (.of 8))⟩, 
    ⟨(some (.of 11)), none, 0, .mv (.t (.of 47))⟩])
  (.block 4 (.loop i3L3)))
noncomputable def i3S5 : IC := (.block 3 (.seq (.reg [⟨(some (.of 10)), none, 0, .mv (.c (.bool false))⟩])
    (.seq i3S4
    (.reg [⟨(some (.of 64)), none, 0, .mv (.t (.of 10))⟩, 
    ⟨(some (.of 7)), none, 0, .mv (.t (.of 64))⟩]))))
noncomputable abbrev i3L6 : IC := (.seq i3S1
  (.seq i3S5
  (.reg [⟨(some (.of 45)), none, 0, .mv (.t (.of 9))⟩, 
  ⟨(some (.of 46)), none, 0, .bin .add (.t (.of 45)) (.c (.int .i64 1))⟩, 
  ⟨(some (.of 9)), none, 0, .mv (.t (.of 46))⟩])))
noncomputable def i3S7 : IC := (.block 1 (.seq (.reg [⟨(some (.of 9)), none, 0, .mv (.c (.int .i64 0))⟩])
    (.block 2 (.loop i3L6))))
noncomputable abbrev i3L8 : IC := (.seq i3S0
  (.seq i3S7
  (.reg [⟨(some (.of 33)), none, 0, .mv (.t (.of 8))⟩, 
  ⟨(some (.of 34)), none, 0, .bin .add (.t (.of 33)) (.c (.int .i64 1))⟩, 
  ⟨(some (.of 8)), none, 0, .mv (.t (.of 34))⟩])))
noncomputable def i3S9 : IC := (.seq (.reg [⟨(some (.of 8)), none, 0, .mv (.c (.int .i64 0))⟩])
  (.block 0 (.loop i3L8)))
noncomputable abbrev i3 : IC := (.seq (.reg [⟨(some (.of 3)), none, 0, .box (.t (.of 0))⟩, 
    ⟨(some (.of 6)), none, 0, .mv (.c (.bool false))⟩])
  (.seq (.reg [⟨(some (.of 12)), none, 0, .mv (.t (.of 2))⟩, 
    ⟨(some (.of 13)), none, 0, .bin .geq (.t (.of 12)) (.c (.int .i64 1))⟩, 
    ⟨(some (.of 14)), none, 0, .mv (.t (.of 13))⟩, 
    ⟨(some (.of 15)), some ((.of 14), true), 0, .ldn 6 (.t (.of 3))⟩, 
    ⟨(some (.of 16)), some ((.of 14), true), 0, .call (.c (.fn 4 [] [])) [(.t (.of 15))]⟩, 
    ⟨(some (.of 17)), none, 0, .pick (.t (.of 14)) (.t (.of 16)) (.c (.bool false))⟩, 
    ⟨(some (.of 7)), none, 0, .mv (.t (.of 17))⟩])
  (.seq i3S9
  (.seq (.regd [⟨(some (.of 65)), none, 1, .ldn 6 (.t (.of 3))⟩, 
    ⟨(some (.of 66)), none, 0, .bslice 0 [] []⟩, 
    ⟨(some (.of 67)), none, 0, .mv (.t (.of 1))⟩, 
    ⟨(some (.of 69)), none, 0, .mv (.t (.of 2))⟩, 
    ⟨(some (.of 71)), none, 0, .mv (.t (.of 7))⟩, 
    ⟨(some (.of 68)), none, 0, .app 1 8 (.t (.of 66)) (.t (.of 67))⟩, 
    ⟨(some (.of 70)), none, 0, .call (.c (.fn 5 [] [])) [(.t (.of 65)), (.t (.of 68)), (.t (.of 69))]⟩, 
    ⟨(some (.of 72)), none, 0, .eqv 0 false (.t (.of 70)) (.t (.of 71))⟩, 
    ⟨(some (.of 73)), none, 0, .mv (.t (.of 72))⟩, 
    ⟨(some (.of 74)), some ((.of 73), true), 0, .call (.c (.fn 6 [] [])) []⟩, 
    ⟨(some (.of 75)), none, 0, .pick (.t (.of 73)) (.t (.of 74)) (.c (.bool false))⟩, 
    ⟨(some (.of 6)), none, 0, .mv (.t (.of 75))⟩])
  .ret))))
theorem fn3 : FT.get (.of 3) = some (.mk i3 76 [((.of 6), none, false)]) := by kernel_rfl

end Go.Proofs.YtjgflopikppagaaGreat.fair
