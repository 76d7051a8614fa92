/- Facts on the program's types; its functions' code, stripped. Printed by a program of this session (wip/show.py, wip/facts.py). -/
import Derived.Test.YtnhnelhcipafeaaProg
import Derived.Test.YtnhnelhcipafeaaAb19
namespace Go.Proofs.Ytnhnelhcipafeaa.Ab
open Go Go.Proofs

theorem aes_24 : aes Try.prog 24 = 0 := by kernel_rfl
theorem aes_29 : aes Try.prog 29 = 0 := by kernel_rfl
theorem aes_32 : aes Try.prog 32 = 0 := by kernel_rfl
theorem aes_41 : aes Try.prog 41 = 0 := by kernel_rfl
theorem aes_52 : aes Try.prog 52 = 0 := by kernel_rfl
theorem isString_9 : isString Try.prog 9 = true := by kernel_rfl
theorem notInt_22 : notInt Try.prog 22 = true := by kernel_rfl
theorem notInt_35 : notInt Try.prog 35 = true := by kernel_rfl
theorem notInt_42 : notInt Try.prog 42 = true := by kernel_rfl
theorem tfield_29_0 : tfield Try.prog 29 0 = some (0, false, 1) := by kernel_rfl
theorem tfield_29_1 : tfield Try.prog 29 1 = some (1, true, 5) := by kernel_rfl
theorem tfield_29_2 : tfield Try.prog 29 2 = some (6, true, 5) := by kernel_rfl
theorem tfield_29_3 : tfield Try.prog 29 3 = some (11, false, 1) := by kernel_rfl
theorem tfield_29_4 : tfield Try.prog 29 4 = some (12, false, 1) := by kernel_rfl
theorem tfield_29_5 : tfield Try.prog 29 5 = some (13, false, 1) := by kernel_rfl
theorem tfield_32_0 : tfield Try.prog 32 0 = some (0, false, 1) := by kernel_rfl
theorem tfield_32_1 : tfield Try.prog 32 1 = some (1, true, 5) := by kernel_rfl
theorem tfield_32_2 : tfield Try.prog 32 2 = some (6, true, 5) := by kernel_rfl
theorem tfield_32_3 : tfield Try.prog 32 3 = some (11, false, 1) := by kernel_rfl
theorem tfield_32_4 : tfield Try.prog 32 4 = some (12, false, 1) := by kernel_rfl
theorem tfield_32_5 : tfield Try.prog 32 5 = some (13, false, 1) := by kernel_rfl
theorem tfield_41_0 : tfield Try.prog 41 0 = some (0, false, 1) := by kernel_rfl
theorem tfield_41_1 : tfield Try.prog 41 1 = some (1, false, 1) := by kernel_rfl
theorem tfield_41_2 : tfield Try.prog 41 2 = some (2, true, 5) := by kernel_rfl
theorem tfield_41_3 : tfield Try.prog 41 3 = some (7, true, 5) := by kernel_rfl
theorem tfield_52_0 : tfield Try.prog 52 0 = some (0, false, 1) := by kernel_rfl
theorem tfield_52_1 : tfield Try.prog 52 1 = some (1, false, 1) := by kernel_rfl
theorem tfield_52_2 : tfield Try.prog 52 2 = some (2, false, 1) := by kernel_rfl
theorem tin_24 : tin Try.prog 24 = some (true, 5) := by kernel_rfl
theorem tin_27 : tin Try.prog 27 = some (true, 5) := by kernel_rfl
theorem tin_29 : tin Try.prog 29 = some (true, 14) := by kernel_rfl
theorem tin_3 : tin Try.prog 3 = some (false, 1) := by kernel_rfl
theorem tin_32 : tin Try.prog 32 = some (true, 14) := by kernel_rfl
theorem tin_35 : tin Try.prog 35 = some (false, 1) := by kernel_rfl
theorem tin_4 : tin Try.prog 4 = some (false, 1) := by kernel_rfl
theorem tin_41 : tin Try.prog 41 = some (true, 12) := by kernel_rfl
theorem tin_50 : tin Try.prog 50 = some (false, 1) := by kernel_rfl
theorem tix_22 : tix Try.prog 22 = some (none, true, 12) := by kernel_rfl
theorem tix_35 : tix Try.prog 35 = some (none, true, 14) := by kernel_rfl
theorem tix_42 : tix Try.prog 42 = some (none, false, 1) := by kernel_rfl
theorem tmap_50 : tmap Try.prog 50 = some (.int .i64, 3, 3) := by kernel_rfl
theorem tparts_24 : tparts Try.prog 24 = some ([.int .i64 0, .string ⟨#[]⟩, .string ⟨#[]⟩, .string ⟨#[]⟩, .int .i64 0], [(0, 1), (1, 1), (2, 1), (3, 1), (4, 1)]) := by kernel_rfl
theorem tparts_27 : tparts Try.prog 27 = some ([.int .i64 0, .bool false, .string ⟨#[]⟩, .string ⟨#[]⟩, .int .i64 0], [(0, 1), (1, 1), (2, 1), (3, 1), (4, 1)]) := by kernel_rfl
theorem tparts_32 : tparts Try.prog 32 = some ([.int .i64 0, .int .i64 0, .string ⟨#[]⟩, .string ⟨#[]⟩, .string ⟨#[]⟩, .int .i64 0, .int .i64 0, .bool false, .string ⟨#[]⟩, .string ⟨#[]⟩, .int .i64 0, .bool false, .int .i64 0, .int .i64 0], [(0, 1), (1, 5), (6, 5), (11, 1), (12, 1), (13, 1)]) := by kernel_rfl
theorem tparts_41 : tparts Try.prog 41 = some ([.bool false, .int .i64 0, .int .i64 0, .string ⟨#[]⟩, .string ⟨#[]⟩, .string ⟨#[]⟩, .int .i64 0, .int .i64 0, .bool false, .string ⟨#[]⟩, .string ⟨#[]⟩, .int .i64 0], [(0, 1), (1, 1), (2, 5), (7, 5)]) := by kernel_rfl
theorem tparts_52 : tparts Try.prog 52 = some ([.slice none 0 0, .map none, .int .i64 0], [(0, 1), (1, 1), (2, 1)]) := by kernel_rfl
theorem tslice_22 : tslice Try.prog 22 = some (12, 136, [.bool false, .int .i64 0, .int .i64 0, .string ⟨#[]⟩, .string ⟨#[]⟩, .string ⟨#[]⟩, .int .i64 0, .int .i64 0, .bool false, .string ⟨#[]⟩, .string ⟨#[]⟩, .int .i64 0]) := by kernel_rfl
theorem tslice_35 : tslice Try.prog 35 = some (14, 152, [.int .i64 0, .int .i64 0, .string ⟨#[]⟩, .string ⟨#[]⟩, .string ⟨#[]⟩, .int .i64 0, .int .i64 0, .bool false, .string ⟨#[]⟩, .string ⟨#[]⟩, .int .i64 0, .bool false, .int .i64 0, .int .i64 0]) := by kernel_rfl
theorem tslice_42 : tslice Try.prog 42 = some (1, 8, [.int .i64 0]) := by kernel_rfl
theorem tz_24 : tz Try.prog 24 = some [.int .i64 0, .string ⟨#[]⟩, .string ⟨#[]⟩, .string ⟨#[]⟩, .int .i64 0] := by kernel_rfl
theorem tz_32 : tz Try.prog 32 = some [.int .i64 0, .int .i64 0, .string ⟨#[]⟩, .string ⟨#[]⟩, .string ⟨#[]⟩, .int .i64 0, .int .i64 0, .bool false, .string ⟨#[]⟩, .string ⟨#[]⟩, .int .i64 0, .bool false, .int .i64 0, .int .i64 0] := by kernel_rfl
theorem tz_41 : tz Try.prog 41 = some [.bool false, .int .i64 0, .int .i64 0, .string ⟨#[]⟩, .string ⟨#[]⟩, .string ⟨#[]⟩, .int .i64 0, .int .i64 0, .bool false, .string ⟨#[]⟩, .string ⟨#[]⟩, .int .i64 0] := by kernel_rfl
theorem tzv_3 : tzv Try.prog 3 = some (.int .i64 0) := by kernel_rfl
theorem under_22 : Try.prog.underlying 22 = some (.slice 41) := by kernel_rfl
theorem under_3 : Try.prog.underlying 3 = some (.int .i64) := by kernel_rfl
theorem under_35 : Try.prog.underlying 35 = some (.slice 32) := by kernel_rfl
theorem under_42 : Try.prog.underlying 42 = some (.slice 3) := by kernel_rfl
theorem under_5 : Try.prog.underlying 5 = some (.int .u8) := by kernel_rfl
theorem under_59 : Try.prog.underlying 59 = some (.int .u64) := by kernel_rfl
theorem under_69 : Try.prog.underlying 69 = some (.int .u32) := by kernel_rfl
theorem under_71 : Try.prog.underlying 71 = some (.int .u64) := by kernel_rfl
theorem mixed : Try.prog.follows .mixedOrders = true := by kernel_rfl
def S3 : SCode :=
  (.seq (.reg [
    ⟨some 4, .box 29 (.tmp 1), none, 0, 0⟩,
    ⟨some 5, .box 29 (.tmp 2), none, 0, 0⟩,
    ⟨some 6, .assign (.const (.bool false)), none, 0, 0⟩])
  (.seq (.seq (.draw [
    ⟨some 12, .call ⟨.value (.func 4), #[], #[]⟩, none, 0, 1⟩,
    ⟨some 13, .unOp .not 4 (.tmp 12), none, 1, 1⟩,
    ⟨some 14, .move (.tmp 13), none, 1, 1⟩,
    ⟨some 15, .load 29 (.tmp 4), some (14, false), 1, 1⟩,
    ⟨some 16, .call ⟨.value (.func 6), #[.tmp 15], #[29]⟩, some (14, false), 1, 2⟩,
    ⟨some 17, .load 29 (.tmp 5), some (14, false), 1, 2⟩,
    ⟨some 18, .call ⟨.value (.func 6), #[.tmp 17], #[29]⟩, some (14, false), 2, 3⟩,
    ⟨some 19, .call ⟨.value (.func 5), #[.tmp 16, .tmp 18], #[32, 32]⟩, some (14, false), 3, 4⟩,
    ⟨some 20, .load 29 (.tmp 4), some (14, false), 1, 4⟩,
    ⟨some 21, .load 29 (.tmp 5), some (14, false), 1, 4⟩,
    ⟨some 22, .call ⟨.value (.func 7), #[.tmp 20, .tmp 21], #[29, 29]⟩, some (14, false), 4, 5⟩,
    ⟨some 23, .binOp .neq 4 (.tmp 19) (.tmp 22) 4, some (14, false), 5, 5⟩,
    ⟨some 24, .pick (.tmp 14) (.const (.bool true)) (.tmp 23), none, 5, 5⟩])
  (.cond (.tmp 24)
    (.seq (.reg [
      ⟨some 6, .assign (.const (.bool false)), none, 0, 0⟩])
    .ret)
    .skip))
  (.seq (.reg [
    ⟨some 26, .move (.tmp 0), none, 0, 0⟩,
    ⟨some 27, .call ⟨.value (.func 9), #[.tmp 26], #[22]⟩, none, 0, 0⟩,
    ⟨some 28, .call ⟨.value (.func 8), #[.tmp 27], #[22]⟩, none, 0, 0⟩,
    ⟨some 25, .move (.tmp 28), none, 0, 0⟩,
    ⟨some 29, .extract (.tmp 25) 0, none, 0, 0⟩,
    ⟨some 30, .extract (.tmp 25) 1, none, 0, 0⟩,
    ⟨some 7, .assign (.tmp 29), none, 0, 0⟩,
    ⟨some 8, .assign (.tmp 30), none, 0, 0⟩])
  (.seq (.seq (.reg [
    ⟨some 31, .move (.tmp 8), none, 0, 0⟩,
    ⟨some 32, .binOp .neq 25 (.tmp 31) (.const (.int .i64 0)) 25, none, 0, 0⟩])
  (.cond (.tmp 32)
    (.seq (.reg [
      ⟨some 6, .assign (.const (.bool true)), none, 0, 0⟩])
    .ret)
    .skip))
  (.seq (.seq (.reg [
    ⟨some 9, .assign (.const (.int .i64 0)), none, 0, 0⟩])
  (.block 0
    (.loop
      (.seq (.seq (.reg [
        ⟨some 33, .move (.tmp 9), none, 0, 0⟩,
        ⟨some 34, .move (.tmp 7), none, 0, 0⟩,
        ⟨some 35, .call ⟨.builtin .len, #[.tmp 34], #[35]⟩, none, 0, 0⟩,
        ⟨some 36, .binOp .lss 3 (.tmp 33) (.tmp 35) 3, none, 0, 0⟩])
      (.cond (.tmp 36)
        .skip
        (.exit 0)))
      (.seq (.block 1
        (.seq (.reg [
          ⟨some 10, .assign (.const (.int .i64 0)), none, 0, 0⟩])
        (.block 2
          (.loop
            (.seq (.seq (.reg [
              ⟨some 39, .move (.tmp 10), none, 0, 0⟩,
              ⟨some 40, .move (.tmp 7), none, 0, 0⟩,
              ⟨some 41, .call ⟨.builtin .len, #[.tmp 40], #[35]⟩, none, 0, 0⟩,
              ⟨some 42, .binOp .lss 3 (.tmp 39) (.tmp 41) 3, none, 0, 0⟩])
            (.cond (.tmp 42)
              .skip
              (.exit 2)))
            (.seq (.block 3
              (.seq (.seq (.draw [
                ⟨some 45, .move (.tmp 7), none, 0, 0⟩,
                ⟨some 46, .move (.tmp 9), none, 0, 0⟩,
                ⟨some 47, .indexAddr 35 (.tmp 45) (.tmp 46), none, 0, 0⟩,
                ⟨some 48, .load 32 (.tmp 47), none, 0, 0⟩,
                ⟨some 49, .move (.tmp 7), none, 0, 0⟩,
                ⟨some 50, .move (.tmp 10), none, 0, 0⟩,
                ⟨some 51, .indexAddr 35 (.tmp 49) (.tmp 50), none, 0, 0⟩,
                ⟨some 52, .load 32 (.tmp 51), none, 0, 0⟩,
                ⟨some 53, .call ⟨.value (.func 5), #[.tmp 48, .tmp 52], #[32, 32]⟩, none, 0, 1⟩,
                ⟨some 54, .move (.tmp 53), none, 1, 1⟩,
                ⟨some 55, .move (.tmp 7), some (54, true), 1, 1⟩,
                ⟨some 56, .move (.tmp 10), some (54, true), 1, 1⟩,
                ⟨some 57, .indexAddr 35 (.tmp 55) (.tmp 56), some (54, true), 1, 1⟩,
                ⟨some 58, .load 32 (.tmp 57), some (54, true), 1, 1⟩,
                ⟨some 59, .move (.tmp 7), some (54, true), 1, 1⟩,
                ⟨some 60, .move (.tmp 9), some (54, true), 1, 1⟩,
                ⟨some 61, .indexAddr 35 (.tmp 59) (.tmp 60), some (54, true), 1, 1⟩,
                ⟨some 62, .load 32 (.tmp 61), some (54, true), 1, 1⟩,
                ⟨some 63, .call ⟨.value (.func 5), #[.tmp 58, .tmp 62], #[32, 32]⟩, some (54, true), 1, 2⟩,
                ⟨some 64, .pick (.tmp 54) (.tmp 63) (.const (.bool false)), none, 2, 2⟩,
                ⟨some 65, .move (.tmp 64), none, 2, 2⟩,
                ⟨some 66, .move (.tmp 9), some (65, false), 2, 2⟩,
                ⟨some 67, .move (.tmp 10), some (65, false), 2, 2⟩,
                ⟨some 68, .binOp .lss 3 (.tmp 66) (.tmp 67) 3, some (65, false), 2, 2⟩,
                ⟨some 69, .move (.tmp 68), some (65, false), 2, 2⟩,
                ⟨some 70, .move (.tmp 7), some (69, true), 2, 2⟩,
                ⟨some 71, .move (.tmp 9), some (69, true), 2, 2⟩,
                ⟨some 72, .indexAddr 35 (.tmp 70) (.tmp 71), some (69, true), 2, 2⟩,
                ⟨some 73, .fieldAddr 32 (.tmp 72) 0, some (69, true), 2, 2⟩,
                ⟨some 74, .load 3 (.tmp 73), some (69, true), 2, 2⟩,
                ⟨some 75, .move (.tmp 7), some (69, true), 2, 2⟩,
                ⟨some 76, .move (.tmp 10), some (69, true), 2, 2⟩,
                ⟨some 77, .indexAddr 35 (.tmp 75) (.tmp 76), some (69, true), 2, 2⟩,
                ⟨some 78, .fieldAddr 32 (.tmp 77) 0, some (69, true), 2, 2⟩,
                ⟨some 79, .load 3 (.tmp 78), some (69, true), 2, 2⟩,
                ⟨some 80, .binOp .eql 3 (.tmp 74) (.tmp 79) 3, some (69, true), 2, 2⟩,
                ⟨some 81, .pick (.tmp 69) (.tmp 80) (.const (.bool false)), some (65, false), 2, 2⟩,
                ⟨some 82, .move (.tmp 81), some (65, false), 2, 2⟩,
                ⟨some 83, .move (.tmp 7), some (82, true), 2, 2⟩,
                ⟨some 84, .move (.tmp 9), some (82, true), 2, 2⟩,
                ⟨some 85, .indexAddr 35 (.tmp 83) (.tmp 84), some (82, true), 2, 2⟩,
                ⟨some 86, .load 32 (.tmp 85), some (82, true), 2, 2⟩,
                ⟨some 87, .move (.tmp 7), some (82, true), 2, 2⟩,
                ⟨some 88, .move (.tmp 10), some (82, true), 2, 2⟩,
                ⟨some 89, .indexAddr 35 (.tmp 87) (.tmp 88), some (82, true), 2, 2⟩,
                ⟨some 90, .load 32 (.tmp 89), some (82, true), 2, 2⟩,
                ⟨some 91, .call ⟨.value (.func 5), #[.tmp 86, .tmp 90], #[32, 32]⟩, some (82, true), 2, 3⟩,
                ⟨some 92, .unOp .not 4 (.tmp 91), some (82, true), 3, 3⟩,
                ⟨some 93, .pick (.tmp 82) (.tmp 92) (.const (.bool false)), some (65, false), 3, 3⟩,
                ⟨some 94, .pick (.tmp 65) (.const (.bool true)) (.tmp 93), none, 3, 3⟩])
              (.cond (.tmp 94)
                (.seq (.reg [
                  ⟨some 6, .assign (.const (.bool false)), none, 0, 0⟩])
                .ret)
                .skip))
              (.seq (.reg [
                ⟨some 11, .assign (.const (.int .i64 0)), none, 0, 0⟩])
              (.block 4
                (.loop
                  (.seq (.seq (.reg [
                    ⟨some 95, .move (.tmp 11), none, 0, 0⟩,
                    ⟨some 96, .move (.tmp 7), none, 0, 0⟩,
                    ⟨some 97, .call ⟨.builtin .len, #[.tmp 96], #[35]⟩, none, 0, 0⟩,
                    ⟨some 98, .binOp .lss 3 (.tmp 95) (.tmp 97) 3, none, 0, 0⟩])
                  (.cond (.tmp 98)
                    .skip
                    (.exit 4)))
                  (.seq (.block 5
                    (.seq (.draw [
                      ⟨some 101, .move (.tmp 7), none, 0, 0⟩,
                      ⟨some 102, .move (.tmp 9), none, 0, 0⟩,
                      ⟨some 103, .indexAddr 35 (.tmp 101) (.tmp 102), none, 0, 0⟩,
                      ⟨some 104, .load 32 (.tmp 103), none, 0, 0⟩,
                      ⟨some 105, .move (.tmp 7), none, 0, 0⟩,
                      ⟨some 106, .move (.tmp 10), none, 0, 0⟩,
                      ⟨some 107, .indexAddr 35 (.tmp 105) (.tmp 106), none, 0, 0⟩,
                      ⟨some 108, .load 32 (.tmp 107), none, 0, 0⟩,
                      ⟨some 109, .call ⟨.value (.func 5), #[.tmp 104, .tmp 108], #[32, 32]⟩, none, 0, 1⟩,
                      ⟨some 110, .move (.tmp 109), none, 1, 1⟩,
                      ⟨some 111, .move (.tmp 7), some (110, true), 1, 1⟩,
                      ⟨some 112, .move (.tmp 10), some (110, true), 1, 1⟩,
                      ⟨some 113, .indexAddr 35 (.tmp 111) (.tmp 112), some (110, true), 1, 1⟩,
                      ⟨some 114, .load 32 (.tmp 113), some (110, true), 1, 1⟩,
                      ⟨some 115, .move (.tmp 7), some (110, true), 1, 1⟩,
                      ⟨some 116, .move (.tmp 11), some (110, true), 1, 1⟩,
                      ⟨some 117, .indexAddr 35 (.tmp 115) (.tmp 116), some (110, true), 1, 1⟩,
                      ⟨some 118, .load 32 (.tmp 117), some (110, true), 1, 1⟩,
                      ⟨some 119, .call ⟨.value (.func 5), #[.tmp 114, .tmp 118], #[32, 32]⟩, some (110, true), 1, 2⟩,
                      ⟨some 120, .pick (.tmp 110) (.tmp 119) (.const (.bool false)), none, 2, 2⟩,
                      ⟨some 121, .move (.tmp 120), none, 2, 2⟩,
                      ⟨some 122, .move (.tmp 7), some (121, true), 2, 2⟩,
                      ⟨some 123, .move (.tmp 9), some (121, true), 2, 2⟩,
                      ⟨some 124, .indexAddr 35 (.tmp 122) (.tmp 123), some (121, true), 2, 2⟩,
                      ⟨some 125, .load 32 (.tmp 124), some (121, true), 2, 2⟩,
                      ⟨some 126, .move (.tmp 7), some (121, true), 2, 2⟩,
                      ⟨some 127, .move (.tmp 11), some (121, true), 2, 2⟩,
                      ⟨some 128, .indexAddr 35 (.tmp 126) (.tmp 127), some (121, true), 2, 2⟩,
                      ⟨some 129, .load 32 (.tmp 128), some (121, true), 2, 2⟩,
                      ⟨some 130, .call ⟨.value (.func 5), #[.tmp 125, .tmp 129], #[32, 32]⟩, some (121, true), 2, 3⟩,
                      ⟨some 131, .unOp .not 4 (.tmp 130), some (121, true), 3, 3⟩,
                      ⟨some 132, .pick (.tmp 121) (.tmp 131) (.const (.bool false)), none, 3, 3⟩])
                    (.cond (.tmp 132)
                      (.seq (.reg [
                        ⟨some 6, .assign (.const (.bool false)), none, 0, 0⟩])
                      .ret)
                      .skip)))
                  (.reg [
                    ⟨some 99, .move (.tmp 11), none, 0, 0⟩,
                    ⟨some 100, .binOp .add 3 (.tmp 99) (.const (.int .i64 1)) 3, none, 0, 0⟩,
                    ⟨some 11, .assign (.tmp 100), none, 0, 0⟩]))))))))
            (.reg [
              ⟨some 43, .move (.tmp 10), none, 0, 0⟩,
              ⟨some 44, .binOp .add 3 (.tmp 43) (.const (.int .i64 1)) 3, none, 0, 0⟩,
              ⟨some 10, .assign (.tmp 44), none, 0, 0⟩])))))))
      (.reg [
        ⟨some 37, .move (.tmp 9), none, 0, 0⟩,
        ⟨some 38, .binOp .add 3 (.tmp 37) (.const (.int .i64 1)) 3, none, 0, 0⟩,
        ⟨some 9, .assign (.tmp 38), none, 0, 0⟩]))))))
  (.seq (.reg [
    ⟨some 6, .assign (.const (.bool true)), none, 0, 0⟩])
  .ret))))))
theorem strip3 : (Try.f3.body.map strip) = some S3 := by kernel_rfl
def S4 : SCode :=
  (.seq (.reg [
    ⟨some 0, .assign (.const (.bool false)), none, 0, 0⟩])
  (.seq (.reg [
    ⟨some 7, .build 24 #[(0, .const (.int .i64 7))], none, 0, 0⟩,
    ⟨some 1, .alloc 24, none, 0, 0⟩,
    ⟨none, .store 24 (.tmp 1) (.tmp 7), none, 0, 0⟩])
  (.seq (.reg [
    ⟨some 8, .load 24 (.tmp 1), none, 0, 0⟩,
    ⟨some 9, .build 41 #[(1, .const (.int .i64 0)), (2, .tmp 8)], none, 0, 0⟩,
    ⟨some 10, .load 24 (.tmp 1), none, 0, 0⟩,
    ⟨some 11, .build 41 #[(1, .const (.int .i64 1)), (2, .tmp 10)], none, 0, 0⟩,
    ⟨some 12, .load 24 (.tmp 1), none, 0, 0⟩,
    ⟨some 13, .build 41 #[(0, .const (.bool true)), (1, .const (.int .i64 0)), (2, .tmp 12)], none, 0, 0⟩,
    ⟨some 14, .buildSlice 22 3 #[(0, .tmp 9), (1, .tmp 11), (2, .tmp 13)], none, 0, 0⟩,
    ⟨some 2, .assign (.tmp 14), none, 0, 0⟩])
  (.seq (.reg [
    ⟨some 16, .move (.tmp 2), none, 0, 0⟩,
    ⟨some 17, .call ⟨.value (.func 10), #[.tmp 16], #[22]⟩, none, 0, 0⟩,
    ⟨some 15, .move (.tmp 17), none, 0, 0⟩,
    ⟨some 18, .extract (.tmp 15) 0, none, 0, 0⟩,
    ⟨some 19, .extract (.tmp 15) 1, none, 0, 0⟩,
    ⟨some 3, .assign (.tmp 18), none, 0, 0⟩,
    ⟨some 4, .assign (.tmp 19), none, 0, 0⟩])
  (.seq (.reg [
    ⟨some 21, .move (.tmp 2), none, 0, 0⟩,
    ⟨some 22, .call ⟨.value (.func 8), #[.tmp 21], #[22]⟩, none, 0, 0⟩,
    ⟨some 20, .move (.tmp 22), none, 0, 0⟩,
    ⟨some 23, .extract (.tmp 20) 0, none, 0, 0⟩,
    ⟨some 24, .extract (.tmp 20) 1, none, 0, 0⟩,
    ⟨some 5, .assign (.tmp 23), none, 0, 0⟩,
    ⟨some 6, .assign (.tmp 24), none, 0, 0⟩])
  (.seq (.reg [
    ⟨some 25, .move (.tmp 3), none, 0, 0⟩,
    ⟨some 26, .buildSlice 42 1 #[(0, .const (.int .i64 1))], none, 0, 0⟩,
    ⟨some 27, .call ⟨.value (.func 11), #[.tmp 25, .tmp 26], #[42, 42]⟩, none, 0, 0⟩,
    ⟨some 28, .move (.tmp 27), none, 0, 0⟩,
    ⟨some 29, .move (.tmp 4), some (28, true), 0, 0⟩,
    ⟨some 30, .binOp .eql 25 (.tmp 29) (.const (.int .i64 0)) 25, some (28, true), 0, 0⟩,
    ⟨some 31, .pick (.tmp 28) (.tmp 30) (.const (.bool false)), none, 0, 0⟩,
    ⟨some 32, .move (.tmp 31), none, 0, 0⟩,
    ⟨some 33, .move (.tmp 6), some (32, true), 0, 0⟩,
    ⟨some 34, .binOp .eql 25 (.tmp 33) (.const (.int .i64 0)) 25, some (32, true), 0, 0⟩,
    ⟨some 35, .pick (.tmp 32) (.tmp 34) (.const (.bool false)), none, 0, 0⟩,
    ⟨some 36, .move (.tmp 35), none, 0, 0⟩,
    ⟨some 37, .move (.tmp 5), some (36, true), 0, 0⟩,
    ⟨some 38, .call ⟨.builtin .len, #[.tmp 37], #[35]⟩, some (36, true), 0, 0⟩,
    ⟨some 39, .binOp .eql 3 (.tmp 38) (.const (.int .i64 2)) 3, some (36, true), 0, 0⟩,
    ⟨some 40, .pick (.tmp 36) (.tmp 39) (.const (.bool false)), none, 0, 0⟩,
    ⟨some 41, .move (.tmp 40), none, 0, 0⟩,
    ⟨some 42, .move (.tmp 5), some (41, true), 0, 0⟩,
    ⟨some 43, .indexAddr 35 (.tmp 42) (.const (.int .i64 0)), some (41, true), 0, 0⟩,
    ⟨some 44, .fieldAddr 32 (.tmp 43) 3, some (41, true), 0, 0⟩,
    ⟨some 45, .load 4 (.tmp 44), some (41, true), 0, 0⟩,
    ⟨some 46, .pick (.tmp 41) (.tmp 45) (.const (.bool false)), none, 0, 0⟩,
    ⟨some 47, .move (.tmp 46), none, 0, 0⟩,
    ⟨some 48, .move (.tmp 5), some (47, true), 0, 0⟩,
    ⟨some 49, .indexAddr 35 (.tmp 48) (.const (.int .i64 1)), some (47, true), 0, 0⟩,
    ⟨some 50, .fieldAddr 32 (.tmp 49) 3, some (47, true), 0, 0⟩,
    ⟨some 51, .load 4 (.tmp 50), some (47, true), 0, 0⟩,
    ⟨some 52, .unOp .not 4 (.tmp 51), some (47, true), 0, 0⟩,
    ⟨some 53, .pick (.tmp 47) (.tmp 52) (.const (.bool false)), none, 0, 0⟩,
    ⟨some 54, .move (.tmp 53), none, 0, 0⟩,
    ⟨some 55, .move (.tmp 2), some (54, true), 0, 0⟩,
    ⟨some 56, .slice 22 (.tmp 55) (some (.const (.int .i64 2))) none none, some (54, true), 0, 0⟩,
    ⟨some 57, .call ⟨.value (.func 12), #[.tmp 56], #[22]⟩, some (54, true), 0, 0⟩,
    ⟨some 58, .binOp .eql 25 (.tmp 57) (.const (.int .i64 4)) 25, some (54, true), 0, 0⟩,
    ⟨some 59, .pick (.tmp 54) (.tmp 58) (.const (.bool false)), none, 0, 0⟩,
    ⟨some 0, .assign (.tmp 59), none, 0, 0⟩])
  .ret))))))
theorem strip4 : (Try.f4.body.map strip) = some S4 := by kernel_rfl
def S5 : SCode :=
  (.seq (.reg [
    ⟨some 2, .box 32 (.tmp 0), none, 0, 0⟩,
    ⟨some 3, .box 32 (.tmp 1), none, 0, 0⟩,
    ⟨some 4, .assign (.const (.bool false)), none, 0, 0⟩])
  (.seq (.reg [
    ⟨some 5, .fieldAddr 32 (.tmp 2) 3, none, 0, 0⟩,
    ⟨some 6, .load 4 (.tmp 5), none, 0, 0⟩,
    ⟨some 7, .move (.tmp 6), none, 0, 0⟩,
    ⟨some 8, .fieldAddr 32 (.tmp 2) 5, some (7, true), 0, 0⟩,
    ⟨some 9, .load 3 (.tmp 8), some (7, true), 0, 0⟩,
    ⟨some 10, .fieldAddr 32 (.tmp 3) 4, some (7, true), 0, 0⟩,
    ⟨some 11, .load 3 (.tmp 10), some (7, true), 0, 0⟩,
    ⟨some 12, .binOp .lss 3 (.tmp 9) (.tmp 11) 3, some (7, true), 0, 0⟩,
    ⟨some 13, .pick (.tmp 7) (.tmp 12) (.const (.bool false)), none, 0, 0⟩,
    ⟨some 4, .assign (.tmp 13), none, 0, 0⟩])
  .ret))
theorem strip5 : (Try.f5.body.map strip) = some S5 := by kernel_rfl
def S6 : SCode :=
  (.seq (.reg [
    ⟨some 1, .box 29 (.tmp 0), none, 0, 0⟩,
    ⟨some 2, .alloc 32, none, 0, 0⟩])
  (.seq (.reg [
    ⟨some 3, .fieldAddr 29 (.tmp 1) 0, none, 0, 0⟩,
    ⟨some 4, .load 3 (.tmp 3), none, 0, 0⟩,
    ⟨some 5, .fieldAddr 29 (.tmp 1) 1, none, 0, 0⟩,
    ⟨some 6, .load 24 (.tmp 5), none, 0, 0⟩,
    ⟨some 7, .fieldAddr 29 (.tmp 1) 2, none, 0, 0⟩,
    ⟨some 8, .load 27 (.tmp 7), none, 0, 0⟩,
    ⟨some 9, .fieldAddr 29 (.tmp 1) 3, none, 0, 0⟩,
    ⟨some 10, .load 4 (.tmp 9), none, 0, 0⟩,
    ⟨some 11, .fieldAddr 29 (.tmp 1) 4, none, 0, 0⟩,
    ⟨some 12, .load 3 (.tmp 11), none, 0, 0⟩,
    ⟨some 13, .fieldAddr 29 (.tmp 1) 5, none, 0, 0⟩,
    ⟨some 14, .load 3 (.tmp 13), none, 0, 0⟩,
    ⟨some 15, .build 32 #[(0, .tmp 4), (1, .tmp 6), (2, .tmp 8), (3, .tmp 10), (4, .tmp 12), (5, .tmp 14)], none, 0, 0⟩,
    ⟨none, .store 32 (.tmp 2) (.tmp 15), none, 0, 0⟩])
  .ret))
theorem strip6 : (Try.f6.body.map strip) = some S6 := by kernel_rfl
def S7 : SCode :=
  (.seq (.reg [
    ⟨some 2, .box 29 (.tmp 0), none, 0, 0⟩,
    ⟨some 3, .box 29 (.tmp 1), none, 0, 0⟩,
    ⟨some 4, .assign (.const (.bool false)), none, 0, 0⟩])
  (.seq (.reg [
    ⟨some 5, .fieldAddr 29 (.tmp 2) 3, none, 0, 0⟩,
    ⟨some 6, .load 4 (.tmp 5), none, 0, 0⟩,
    ⟨some 7, .move (.tmp 6), none, 0, 0⟩,
    ⟨some 8, .fieldAddr 29 (.tmp 2) 5, some (7, true), 0, 0⟩,
    ⟨some 9, .load 3 (.tmp 8), some (7, true), 0, 0⟩,
    ⟨some 10, .fieldAddr 29 (.tmp 3) 4, some (7, true), 0, 0⟩,
    ⟨some 11, .load 3 (.tmp 10), some (7, true), 0, 0⟩,
    ⟨some 12, .binOp .lss 3 (.tmp 9) (.tmp 11) 3, some (7, true), 0, 0⟩,
    ⟨some 13, .pick (.tmp 7) (.tmp 12) (.const (.bool false)), none, 0, 0⟩,
    ⟨some 4, .assign (.tmp 13), none, 0, 0⟩])
  .ret))
theorem strip7 : (Try.f7.body.map strip) = some S7 := by kernel_rfl
def S8 : SCode :=
  (.seq (.reg [
    ⟨some 2, .assign (.const (.slice none 0 0)), none, 0, 0⟩,
    ⟨some 3, .assign (.const (.int .i64 0)), none, 0, 0⟩])
  (.seq (.reg [
    ⟨some 7, .move (.tmp 0), none, 0, 0⟩,
    ⟨some 8, .call ⟨.value (.func 13), #[.tmp 7], #[22]⟩, none, 0, 0⟩,
    ⟨some 6, .move (.tmp 8), none, 0, 0⟩,
    ⟨some 9, .extract (.tmp 6) 0, none, 0, 0⟩,
    ⟨some 10, .extract (.tmp 6) 1, none, 0, 0⟩,
    ⟨some 4, .assign (.tmp 9), none, 0, 0⟩,
    ⟨some 5, .assign (.tmp 10), none, 0, 0⟩])
  (.seq (.reg [
    ⟨some 11, .move (.tmp 4), none, 0, 0⟩,
    ⟨some 12, .nilCheck (.tmp 11), none, 0, 0⟩,
    ⟨some 13, .fieldAddr 52 (.tmp 12) 0, none, 0, 0⟩,
    ⟨some 14, .load 35 (.tmp 13), none, 0, 0⟩,
    ⟨some 15, .move (.tmp 5), none, 0, 0⟩,
    ⟨some 2, .assign (.tmp 14), none, 0, 0⟩,
    ⟨some 3, .assign (.tmp 15), none, 0, 0⟩])
  .ret)))
theorem strip8 : (Try.f8.body.map strip) = some S8 := by kernel_rfl
def S9 : SCode :=
  (.seq (.reg [
    ⟨some 2, .assign (.const (.slice none 0 0)), none, 0, 0⟩])
  (.seq (.reg [
    ⟨some 3, .buildSlice 22 0 #[], none, 0, 0⟩,
    ⟨some 4, .move (.tmp 0), none, 0, 0⟩,
    ⟨some 5, .move (.tmp 0), none, 0, 0⟩,
    ⟨some 6, .call ⟨.builtin .len, #[.tmp 5], #[22]⟩, none, 0, 0⟩,
    ⟨some 7, .call ⟨.builtin .min, #[.tmp 6, .const (.int .i64 60)], #[3, 3]⟩, none, 0, 0⟩,
    ⟨some 8, .slice 22 (.tmp 4) none (some (.tmp 7)) none, none, 0, 0⟩,
    ⟨some 9, .call ⟨.builtin .append, #[.tmp 3, .tmp 8], #[22, 22]⟩, none, 0, 0⟩,
    ⟨some 2, .assign (.tmp 9), none, 0, 0⟩])
  .ret))
theorem strip9 : (Try.f9.body.map strip) = some S9 := by kernel_rfl
def S10 : SCode :=
  (.seq (.reg [
    ⟨some 2, .assign (.const (.slice none 0 0)), none, 0, 0⟩,
    ⟨some 3, .assign (.const (.int .i64 0)), none, 0, 0⟩])
  (.seq (.reg [
    ⟨some 7, .move (.tmp 0), none, 0, 0⟩,
    ⟨some 8, .call ⟨.value (.func 13), #[.tmp 7], #[22]⟩, none, 0, 0⟩,
    ⟨some 6, .move (.tmp 8), none, 0, 0⟩,
    ⟨some 9, .extract (.tmp 6) 0, none, 0, 0⟩,
    ⟨some 10, .extract (.tmp 6) 1, none, 0, 0⟩,
    ⟨some 4, .assign (.tmp 9), none, 0, 0⟩,
    ⟨some 5, .assign (.tmp 10), none, 0, 0⟩])
  (.seq (.reg [
    ⟨some 11, .move (.tmp 4), none, 0, 0⟩,
    ⟨some 12, .call ⟨.value (.func 14), #[.tmp 11], #[47]⟩, none, 0, 0⟩,
    ⟨some 13, .move (.tmp 5), none, 0, 0⟩,
    ⟨some 2, .assign (.tmp 12), none, 0, 0⟩,
    ⟨some 3, .assign (.tmp 13), none, 0, 0⟩])
  .ret)))
theorem strip10 : (Try.f10.body.map strip) = some S10 := by kernel_rfl
def S11 : SCode :=
  (.seq (.reg [
    ⟨some 4, .assign (.const (.bool false)), none, 0, 0⟩])
  (.seq (.seq (.reg [
    ⟨some 6, .move (.tmp 0), none, 0, 0⟩,
    ⟨some 7, .call ⟨.builtin .len, #[.tmp 6], #[42]⟩, none, 0, 0⟩,
    ⟨some 8, .move (.tmp 1), none, 0, 0⟩,
    ⟨some 9, .call ⟨.builtin .len, #[.tmp 8], #[42]⟩, none, 0, 0⟩,
    ⟨some 10, .binOp .neq 3 (.tmp 7) (.tmp 9) 3, none, 0, 0⟩])
  (.cond (.tmp 10)
    (.seq (.reg [
      ⟨some 4, .assign (.const (.bool false)), none, 0, 0⟩])
    .ret)
    .skip))
  (.seq (.seq (.reg [
    ⟨some 5, .assign (.const (.int .i64 0)), none, 0, 0⟩])
  (.block 0
    (.loop
      (.seq (.seq (.reg [
        ⟨some 11, .move (.tmp 5), none, 0, 0⟩,
        ⟨some 12, .move (.tmp 0), none, 0, 0⟩,
        ⟨some 13, .call ⟨.builtin .len, #[.tmp 12], #[42]⟩, none, 0, 0⟩,
        ⟨some 14, .binOp .lss 3 (.tmp 11) (.tmp 13) 3, none, 0, 0⟩])
      (.cond (.tmp 14)
        .skip
        (.exit 0)))
      (.seq (.block 1
        (.seq (.draw [
          ⟨some 17, .move (.tmp 0), none, 0, 0⟩,
          ⟨some 18, .move (.tmp 5), none, 0, 0⟩,
          ⟨some 19, .indexAddr 42 (.tmp 17) (.tmp 18), none, 0, 0⟩,
          ⟨some 20, .load 3 (.tmp 19), none, 0, 0⟩,
          ⟨some 21, .move (.tmp 1), none, 0, 0⟩,
          ⟨some 22, .move (.tmp 5), none, 0, 0⟩,
          ⟨some 23, .indexAddr 42 (.tmp 21) (.tmp 22), none, 0, 0⟩,
          ⟨some 24, .load 3 (.tmp 23), none, 0, 0⟩,
          ⟨some 25, .binOp .neq 3 (.tmp 20) (.tmp 24) 3, none, 0, 0⟩])
        (.cond (.tmp 25)
          (.seq (.reg [
            ⟨some 4, .assign (.const (.bool false)), none, 0, 0⟩])
          .ret)
          .skip)))
      (.reg [
        ⟨some 15, .move (.tmp 5), none, 0, 0⟩,
        ⟨some 16, .binOp .add 3 (.tmp 15) (.const (.int .i64 1)) 3, none, 0, 0⟩,
        ⟨some 5, .assign (.tmp 16), none, 0, 0⟩]))))))
  (.seq (.reg [
    ⟨some 4, .assign (.const (.bool true)), none, 0, 0⟩])
  .ret))))
theorem strip11 : (Try.f11.body.map strip) = some S11 := by kernel_rfl
def S12 : SCode :=
  (.seq (.reg [
    ⟨some 2, .assign (.const (.int .i64 0)), none, 0, 0⟩])
  (.seq (.reg [
    ⟨some 6, .move (.tmp 0), none, 0, 0⟩,
    ⟨some 7, .call ⟨.value (.func 13), #[.tmp 6], #[22]⟩, none, 0, 0⟩,
    ⟨some 5, .move (.tmp 7), none, 0, 0⟩,
    ⟨some 8, .extract (.tmp 5) 0, none, 0, 0⟩,
    ⟨some 9, .extract (.tmp 5) 1, none, 0, 0⟩,
    ⟨some 3, .assign (.tmp 8), none, 0, 0⟩,
    ⟨some 4, .assign (.tmp 9), none, 0, 0⟩])
  (.seq (.reg [
    ⟨some 10, .move (.tmp 4), none, 0, 0⟩,
    ⟨some 2, .assign (.tmp 10), none, 0, 0⟩])
  .ret)))
theorem strip12 : (Try.f12.body.map strip) = some S12 := by kernel_rfl
def S13 : SCode :=
  (.seq (.reg [
    ⟨some 2, .assign (.const (.pointer none)), none, 0, 0⟩,
    ⟨some 3, .assign (.const (.int .i64 0)), none, 0, 0⟩])
  (.seq (.reg [
    ⟨some 8, .makeMap 50 none, none, 0, 0⟩,
    ⟨some 9, .move (.tmp 0), none, 0, 0⟩,
    ⟨some 10, .call ⟨.builtin .len, #[.tmp 9], #[22]⟩, none, 0, 0⟩,
    ⟨some 11, .build 52 #[(1, .tmp 8), (2, .tmp 10)], none, 0, 0⟩,
    ⟨some 12, .box 52 (.tmp 11), none, 0, 0⟩,
    ⟨some 4, .assign (.tmp 12), none, 0, 0⟩])
  (.seq (.seq (.reg [
    ⟨some 13, .move (.tmp 0), none, 0, 0⟩,
    ⟨some 14, .call ⟨.builtin .len, #[.tmp 13], #[22]⟩, none, 0, 0⟩,
    ⟨some 15, .move (.const (.int .i64 0)), none, 0, 0⟩])
  (.block 0
    (.loop
      (.seq (.reg [
        ⟨some 16, .binOp .lss 3 (.tmp 15) (.tmp 14) 3, none, 0, 0⟩])
      (.seq (.cond (.tmp 16)
        .skip
        (.exit 0))
      (.seq (.block 1
        (.seq (.reg [
          ⟨some 17, .move (.tmp 15), none, 0, 0⟩,
          ⟨some 18, .indexAddr 22 (.tmp 13) (.tmp 15), none, 0, 0⟩,
          ⟨some 19, .load 41 (.tmp 18), none, 0, 0⟩,
          ⟨some 6, .alloc 41, none, 0, 0⟩,
          ⟨some 5, .assign (.tmp 17), none, 0, 0⟩,
          ⟨none, .store 41 (.tmp 6) (.tmp 19), none, 0, 0⟩])
        (.seq (.reg [
          ⟨some 20, .move (.tmp 4), none, 0, 0⟩,
          ⟨some 21, .move (.tmp 5), none, 0, 0⟩,
          ⟨some 22, .load 41 (.tmp 6), none, 0, 0⟩,
          ⟨some 23, .call ⟨.value (.func 15), #[.tmp 20, .tmp 21, .tmp 22], #[47, 3, 41]⟩, none, 0, 0⟩,
          ⟨some 7, .assign (.tmp 23), none, 0, 0⟩])
        (.seq (.reg [
          ⟨some 24, .move (.tmp 7), none, 0, 0⟩,
          ⟨some 25, .binOp .neq 25 (.tmp 24) (.const (.int .i64 0)) 25, none, 0, 0⟩])
        (.cond (.tmp 25)
          (.seq (.reg [
            ⟨some 26, .build 52 #[], none, 0, 0⟩,
            ⟨some 27, .box 52 (.tmp 26), none, 0, 0⟩,
            ⟨some 28, .move (.tmp 7), none, 0, 0⟩,
            ⟨some 2, .assign (.tmp 27), none, 0, 0⟩,
            ⟨some 3, .assign (.tmp 28), none, 0, 0⟩])
          .ret)
          .skip)))))
      (.reg [
        ⟨some 29, .binOp .add 3 (.tmp 15) (.const (.int .i64 1)) 3, none, 0, 0⟩,
        ⟨some 15, .move (.tmp 29), none, 0, 0⟩])))))))
  (.seq (.reg [
    ⟨some 30, .move (.tmp 4), none, 0, 0⟩,
    ⟨some 2, .assign (.tmp 30), none, 0, 0⟩,
    ⟨some 3, .assign (.const (.int .i64 0)), none, 0, 0⟩])
  .ret))))
theorem strip13 : (Try.f13.body.map strip) = some S13 := by kernel_rfl
def S14 : SCode :=
  (.seq (.reg [
    ⟨some 2, .assign (.const (.slice none 0 0)), none, 0, 0⟩])
  (.seq (.reg [
    ⟨some 3, .assign (.const (.slice none 0 0)), none, 0, 0⟩])
  (.seq (.seq (.reg [
    ⟨some 5, .move (.tmp 0), none, 0, 0⟩,
    ⟨some 6, .nilCheck (.tmp 5), none, 0, 0⟩,
    ⟨some 7, .fieldAddr 52 (.tmp 6) 1, none, 0, 0⟩,
    ⟨some 8, .load 50 (.tmp 7), none, 0, 0⟩,
    ⟨some 9, .range 50 (.tmp 8), none, 0, 0⟩])
  (.block 0
    (.loop
      (.seq (.reg [
        ⟨some 10, .next (.tmp 9) false, none, 0, 0⟩,
        ⟨some 11, .extract (.tmp 10) 0, none, 0, 0⟩])
      (.seq (.cond (.tmp 11)
        .skip
        (.exit 0))
      (.block 1
        (.seq (.reg [
          ⟨some 12, .entry (.tmp 9), none, 0, 0⟩,
          ⟨some 13, .extract (.tmp 12) 0, none, 0, 0⟩,
          ⟨some 4, .assign (.tmp 13), none, 0, 0⟩])
        (.reg [
          ⟨some 14, .move (.tmp 3), none, 0, 0⟩,
          ⟨some 15, .move (.tmp 4), none, 0, 0⟩,
          ⟨some 16, .buildSlice 42 1 #[(0, .tmp 15)], none, 0, 0⟩,
          ⟨some 17, .call ⟨.builtin .append, #[.tmp 14, .tmp 16], #[42, 42]⟩, none, 0, 0⟩,
          ⟨some 3, .assign (.tmp 17), none, 0, 0⟩]))))))))
  (.seq (.reg [
    ⟨some 18, .move (.tmp 3), none, 0, 0⟩,
    ⟨some 19, .call ⟨.value (.func 16), #[.tmp 18], #[42]⟩, none, 0, 0⟩])
  (.seq (.reg [
    ⟨some 20, .move (.tmp 3), none, 0, 0⟩,
    ⟨some 2, .assign (.tmp 20), none, 0, 0⟩])
  .ret)))))
theorem strip14 : (Try.f14.body.map strip) = some S14 := by kernel_rfl
def S15 : SCode :=
  (.seq (.reg [
    ⟨some 5, .box 41 (.tmp 2), none, 0, 0⟩,
    ⟨some 6, .assign (.const (.int .i64 0)), none, 0, 0⟩])
  (.seq (.seq (.reg [
    ⟨some 9, .fieldAddr 41 (.tmp 5) 1, none, 0, 0⟩,
    ⟨some 10, .load 3 (.tmp 9), none, 0, 0⟩,
    ⟨some 11, .binOp .lss 3 (.tmp 10) (.const (.int .i64 0)) 3, none, 0, 0⟩,
    ⟨some 12, .move (.tmp 11), none, 0, 0⟩,
    ⟨some 13, .fieldAddr 41 (.tmp 5) 1, some (12, false), 0, 0⟩,
    ⟨some 14, .load 3 (.tmp 13), some (12, false), 0, 0⟩,
    ⟨some 15, .binOp .geq 3 (.tmp 14) (.const (.int .i64 64)) 3, some (12, false), 0, 0⟩,
    ⟨some 16, .pick (.tmp 12) (.const (.bool true)) (.tmp 15), none, 0, 0⟩])
  (.cond (.tmp 16)
    (.seq (.reg [
      ⟨some 6, .assign (.const (.int .i64 2)), none, 0, 0⟩])
    .ret)
    .skip))
  (.seq (.draw [
    ⟨some 18, .move (.tmp 0), none, 0, 0⟩,
    ⟨some 19, .nilCheck (.tmp 18), none, 0, 0⟩,
    ⟨some 20, .fieldAddr 52 (.tmp 19) 1, none, 0, 0⟩,
    ⟨some 21, .load 50 (.tmp 20), none, 0, 0⟩,
    ⟨some 22, .fieldAddr 41 (.tmp 5) 1, none, 0, 0⟩,
    ⟨some 23, .load 3 (.tmp 22), none, 0, 0⟩,
    ⟨some 24, .lookup 50 (.tmp 21) (.tmp 23) true, none, 0, 0⟩,
    ⟨some 17, .move (.tmp 24), none, 0, 0⟩,
    ⟨some 25, .extract (.tmp 17) 0, none, 0, 0⟩,
    ⟨some 26, .extract (.tmp 17) 1, none, 0, 0⟩,
    ⟨some 7, .assign (.tmp 25), none, 0, 0⟩,
    ⟨some 8, .assign (.tmp 26), none, 0, 0⟩])
  (.seq (.block 0
    (.seq (.draw [
      ⟨some 58, .move (.tmp 8), none, 0, 0⟩,
      ⟨some 59, .fieldAddr 41 (.tmp 5) 0, none, 0, 0⟩,
      ⟨some 60, .load 4 (.tmp 59), none, 0, 0⟩,
      ⟨some 61, .binOp .neq 4 (.tmp 58) (.tmp 60) 4, none, 0, 0⟩,
      ⟨some 62, .move (.tmp 61), none, 0, 0⟩,
      ⟨some 63, .fieldAddr 41 (.tmp 5) 0, some (62, false), 0, 0⟩,
      ⟨some 64, .load 4 (.tmp 63), some (62, false), 0, 0⟩,
      ⟨some 65, .unOp .not 4 (.tmp 64), some (62, false), 0, 0⟩,
      ⟨some 66, .move (.tmp 65), some (62, false), 0, 0⟩,
      ⟨some 67, .fieldAddr 41 (.tmp 5) 3, some (66, true), 0, 0⟩,
      ⟨some 68, .load 27 (.tmp 67), some (66, true), 0, 0⟩,
      ⟨some 69, .build 27 #[], some (66, true), 0, 0⟩,
      ⟨some 70, .binOp .neq 27 (.tmp 68) (.tmp 69) 27, some (66, true), 0, 0⟩,
      ⟨some 71, .pick (.tmp 66) (.tmp 70) (.const (.bool false)), some (62, false), 0, 0⟩,
      ⟨some 72, .pick (.tmp 62) (.const (.bool true)) (.tmp 71), none, 0, 0⟩,
      ⟨some 73, .move (.tmp 72), none, 0, 0⟩,
      ⟨some 74, .fieldAddr 41 (.tmp 5) 0, some (73, false), 0, 0⟩,
      ⟨some 75, .load 4 (.tmp 74), some (73, false), 0, 0⟩,
      ⟨some 76, .move (.tmp 75), some (73, false), 0, 0⟩,
      ⟨some 77, .move (.tmp 0), some (76, true), 0, 0⟩,
      ⟨some 78, .nilCheck (.tmp 77), some (76, true), 0, 0⟩,
      ⟨some 79, .fieldAddr 52 (.tmp 78) 0, some (76, true), 0, 0⟩,
      ⟨some 80, .load 35 (.tmp 79), some (76, true), 0, 0⟩,
      ⟨some 81, .move (.tmp 7), some (76, true), 0, 0⟩,
      ⟨some 82, .indexAddr 35 (.tmp 80) (.tmp 81), some (76, true), 0, 0⟩,
      ⟨some 83, .fieldAddr 32 (.tmp 82) 1, some (76, true), 0, 0⟩,
      ⟨some 84, .load 24 (.tmp 83), some (76, true), 0, 0⟩,
      ⟨some 85, .fieldAddr 41 (.tmp 5) 2, some (76, true), 0, 0⟩,
      ⟨some 86, .load 24 (.tmp 85), some (76, true), 0, 0⟩,
      ⟨some 87, .binOp .neq 24 (.tmp 84) (.tmp 86) 24, some (76, true), 0, 0⟩,
      ⟨some 88, .pick (.tmp 76) (.tmp 87) (.const (.bool false)), some (73, false), 0, 0⟩,
      ⟨some 89, .pick (.tmp 73) (.const (.bool true)) (.tmp 88), none, 0, 0⟩,
      ⟨some 57, .assign (.tmp 89), none, 0, 0⟩])
    (.cond (.tmp 57)
      (.seq (.reg [
        ⟨some 6, .assign (.const (.int .i64 4)), none, 0, 0⟩])
      .ret)
      (.seq (.reg [
        ⟨some 91, .fieldAddr 41 (.tmp 5) 0, none, 0, 0⟩,
        ⟨some 92, .load 4 (.tmp 91), none, 0, 0⟩,
        ⟨some 90, .assign (.tmp 92), none, 0, 0⟩])
      (.cond (.tmp 90)
        (.seq (.draw [
          ⟨some 93, .move (.tmp 0), none, 0, 0⟩,
          ⟨some 94, .nilCheck (.tmp 93), none, 0, 0⟩,
          ⟨some 95, .fieldAddr 52 (.tmp 94) 0, none, 0, 0⟩,
          ⟨some 96, .load 35 (.tmp 95), none, 0, 0⟩,
          ⟨some 97, .move (.tmp 7), none, 0, 0⟩,
          ⟨some 98, .move (.tmp 0), none, 0, 0⟩,
          ⟨some 99, .nilCheck (.tmp 98), none, 0, 0⟩,
          ⟨some 100, .fieldAddr 52 (.tmp 99) 0, none, 0, 0⟩,
          ⟨some 101, .load 35 (.tmp 100), none, 0, 0⟩,
          ⟨some 102, .move (.tmp 7), none, 0, 1⟩,
          ⟨some 103, .move (.tmp 0), none, 0, 0⟩,
          ⟨some 104, .nilCheck (.tmp 103), none, 0, 0⟩,
          ⟨some 105, .fieldAddr 52 (.tmp 104) 0, none, 0, 0⟩,
          ⟨some 106, .load 35 (.tmp 105), none, 0, 0⟩,
          ⟨some 107, .move (.tmp 7), none, 0, 2⟩,
          ⟨some 108, .fieldAddr 41 (.tmp 5) 3, none, 0, 0⟩,
          ⟨some 109, .load 27 (.tmp 108), none, 0, 0⟩,
          ⟨some 110, .move (.tmp 1), none, 0, 2⟩,
          ⟨some 111, .indexAddr 35 (.tmp 96) (.tmp 97), none, 0, 0⟩,
          ⟨some 112, .fieldAddr 32 (.tmp 111) 2, none, 0, 0⟩,
          ⟨none, .store 27 (.tmp 112) (.tmp 109), none, 0, 1⟩,
          ⟨some 113, .indexAddr 35 (.tmp 101) (.tmp 102), none, 1, 1⟩,
          ⟨some 114, .fieldAddr 32 (.tmp 113) 3, none, 1, 1⟩,
          ⟨none, .store 4 (.tmp 114) (.const (.bool true)), none, 1, 2⟩,
          ⟨some 115, .indexAddr 35 (.tmp 106) (.tmp 107), none, 2, 2⟩,
          ⟨some 116, .fieldAddr 32 (.tmp 115) 5, none, 2, 2⟩,
          ⟨none, .store 3 (.tmp 116) (.tmp 110), none, 2, 3⟩])
        (.draw [
          ⟨some 117, .move (.tmp 0), none, 0, 0⟩,
          ⟨some 118, .nilCheck (.tmp 117), none, 0, 0⟩,
          ⟨some 119, .fieldAddr 52 (.tmp 118) 1, none, 0, 0⟩,
          ⟨some 120, .load 50 (.tmp 119), none, 0, 0⟩,
          ⟨some 121, .fieldAddr 41 (.tmp 5) 1, none, 0, 0⟩,
          ⟨some 122, .load 3 (.tmp 121), none, 0, 0⟩,
          ⟨none, .call ⟨.builtin .delete, #[.tmp 120, .tmp 122], #[50, 3]⟩, none, 0, 1⟩]))
        (.seq (.draw [
          ⟨some 27, .move (.tmp 0), none, 0, 0⟩,
          ⟨some 28, .nilCheck (.tmp 27), none, 0, 0⟩,
          ⟨some 29, .fieldAddr 52 (.tmp 28) 1, none, 0, 0⟩,
          ⟨some 30, .load 50 (.tmp 29), none, 0, 0⟩,
          ⟨some 31, .fieldAddr 41 (.tmp 5) 1, none, 0, 0⟩,
          ⟨some 32, .load 3 (.tmp 31), none, 0, 0⟩,
          ⟨some 33, .move (.tmp 0), none, 0, 0⟩,
          ⟨some 34, .nilCheck (.tmp 33), none, 0, 0⟩,
          ⟨some 35, .fieldAddr 52 (.tmp 34) 0, none, 0, 0⟩,
          ⟨some 36, .load 35 (.tmp 35), none, 0, 0⟩,
          ⟨some 37, .call ⟨.builtin .len, #[.tmp 36], #[35]⟩, none, 0, 0⟩,
          ⟨none, .mapUpdate 50 (.tmp 30) (.tmp 32) (.tmp 37), none, 0, 1⟩])
        (.draw [
          ⟨some 38, .move (.tmp 0), none, 0, 2⟩,
          ⟨some 39, .move (.tmp 0), none, 0, 1⟩,
          ⟨some 40, .nilCheck (.tmp 39), none, 0, 1⟩,
          ⟨some 41, .fieldAddr 52 (.tmp 40) 0, none, 0, 1⟩,
          ⟨some 42, .load 35 (.tmp 41), none, 0, 1⟩,
          ⟨some 43, .fieldAddr 41 (.tmp 5) 1, none, 0, 0⟩,
          ⟨some 44, .load 3 (.tmp 43), none, 0, 0⟩,
          ⟨some 45, .fieldAddr 41 (.tmp 5) 2, none, 0, 0⟩,
          ⟨some 46, .load 24 (.tmp 45), none, 0, 0⟩,
          ⟨some 47, .move (.tmp 1), none, 0, 0⟩,
          ⟨some 48, .move (.tmp 0), none, 0, 0⟩,
          ⟨some 49, .nilCheck (.tmp 48), none, 0, 0⟩,
          ⟨some 50, .fieldAddr 52 (.tmp 49) 2, none, 0, 0⟩,
          ⟨some 51, .load 3 (.tmp 50), none, 0, 0⟩,
          ⟨some 52, .build 32 #[(0, .tmp 44), (1, .tmp 46), (4, .tmp 47), (5, .tmp 51)], none, 0, 0⟩,
          ⟨some 53, .buildSlice 35 1 #[(0, .tmp 52)], none, 0, 1⟩,
          ⟨some 54, .call ⟨.builtin .append, #[.tmp 42, .tmp 53], #[35, 35]⟩, none, 1, 2⟩,
          ⟨some 55, .nilCheck (.tmp 38), none, 2, 2⟩,
          ⟨some 56, .fieldAddr 52 (.tmp 55) 0, none, 2, 2⟩,
          ⟨none, .store 35 (.tmp 56) (.tmp 54), none, 2, 3⟩])))))))
  (.seq (.reg [
    ⟨some 6, .assign (.const (.int .i64 0)), none, 0, 0⟩])
  .ret)))))
theorem strip15 : (Try.f15.body.map strip) = some S15 := by kernel_rfl
def S16 : SCode :=
  (.seq (.reg [
    ⟨some 3, .move (.tmp 0), none, 0, 0⟩,
    ⟨some 4, .call ⟨.builtin .len, #[.tmp 3], #[42]⟩, none, 0, 0⟩,
    ⟨some 2, .assign (.tmp 4), none, 0, 0⟩])
  (.reg [
    ⟨some 5, .move (.tmp 0), none, 0, 0⟩,
    ⟨some 6, .move (.tmp 2), none, 0, 0⟩,
    ⟨some 7, .move (.tmp 2), none, 0, 0⟩,
    ⟨some 8, .convert 3 59 (.tmp 7), none, 0, 0⟩,
    ⟨some 9, .call ⟨.value (.func 18), #[.tmp 8], #[59]⟩, none, 0, 0⟩,
    ⟨some 10, .call ⟨.value (.func 17), #[.tmp 5, .const (.int .i64 0), .tmp 6, .tmp 9], #[42, 3, 3, 3]⟩, none, 0, 0⟩]))
theorem strip16 : (Try.f16.body.map strip) = some S16 := by kernel_rfl
def S17 : SCode :=
  (.seq (.reg [
    ⟨some 8, .assign (.const (.bool true)), none, 0, 0⟩])
  (.seq (.reg [
    ⟨some 9, .assign (.const (.bool true)), none, 0, 0⟩])
  (.block 0
    (.loop
      (.block 1
        (.seq (.reg [
          ⟨some 19, .move (.tmp 2), none, 0, 0⟩,
          ⟨some 20, .move (.tmp 1), none, 0, 0⟩,
          ⟨some 21, .binOp .sub 3 (.tmp 19) (.tmp 20) 3, none, 0, 0⟩,
          ⟨some 10, .assign (.tmp 21), none, 0, 0⟩])
        (.seq (.seq (.reg [
          ⟨some 22, .move (.tmp 10), none, 0, 0⟩,
          ⟨some 23, .binOp .leq 3 (.tmp 22) (.const (.int .i64 12)) 3, none, 0, 0⟩])
        (.cond (.tmp 23)
          (.seq (.reg [
            ⟨some 24, .move (.tmp 0), none, 0, 0⟩,
            ⟨some 25, .move (.tmp 1), none, 0, 0⟩,
            ⟨some 26, .move (.tmp 2), none, 0, 0⟩,
            ⟨some 27, .call ⟨.value (.func 19), #[.tmp 24, .tmp 25, .tmp 26], #[42, 3, 3]⟩, none, 0, 0⟩])
          .ret)
          .skip))
        (.seq (.seq (.reg [
          ⟨some 28, .move (.tmp 3), none, 0, 0⟩,
          ⟨some 29, .binOp .eql 3 (.tmp 28) (.const (.int .i64 0)) 3, none, 0, 0⟩])
        (.cond (.tmp 29)
          (.seq (.reg [
            ⟨some 30, .move (.tmp 0), none, 0, 0⟩,
            ⟨some 31, .move (.tmp 1), none, 0, 0⟩,
            ⟨some 32, .move (.tmp 2), none, 0, 0⟩,
            ⟨some 33, .call ⟨.value (.func 20), #[.tmp 30, .tmp 31, .tmp 32], #[42, 3, 3]⟩, none, 0, 0⟩])
          .ret)
          .skip))
        (.seq (.seq (.reg [
          ⟨some 34, .move (.tmp 8), none, 0, 0⟩,
          ⟨some 35, .unOp .not 4 (.tmp 34), none, 0, 0⟩])
        (.cond (.tmp 35)
          (.seq (.reg [
            ⟨some 36, .move (.tmp 0), none, 0, 0⟩,
            ⟨some 37, .move (.tmp 1), none, 0, 0⟩,
            ⟨some 38, .move (.tmp 2), none, 0, 0⟩,
            ⟨some 39, .call ⟨.value (.func 21), #[.tmp 36, .tmp 37, .tmp 38], #[42, 3, 3]⟩, none, 0, 0⟩])
          (.reg [
            ⟨some 40, .move (.tmp 3), none, 0, 0⟩,
            ⟨some 41, .binOp .sub 3 (.tmp 40) (.const (.int .i64 1)) 3, none, 0, 0⟩,
            ⟨some 3, .assign (.tmp 41), none, 0, 0⟩]))
          .skip))
        (.seq (.reg [
          ⟨some 43, .move (.tmp 0), none, 0, 0⟩,
          ⟨some 44, .move (.tmp 1), none, 0, 0⟩,
          ⟨some 45, .move (.tmp 2), none, 0, 0⟩,
          ⟨some 46, .call ⟨.value (.func 22), #[.tmp 43, .tmp 44, .tmp 45], #[42, 3, 3]⟩, none, 0, 0⟩,
          ⟨some 42, .move (.tmp 46), none, 0, 0⟩,
          ⟨some 47, .extract (.tmp 42) 0, none, 0, 0⟩,
          ⟨some 48, .extract (.tmp 42) 1, none, 0, 0⟩,
          ⟨some 11, .assign (.tmp 47), none, 0, 0⟩,
          ⟨some 12, .assign (.tmp 48), none, 0, 0⟩])
        (.seq (.seq (.reg [
          ⟨some 49, .move (.tmp 12), none, 0, 0⟩,
          ⟨some 50, .binOp .eql 61 (.tmp 49) (.const (.int .i64 2)) 61, none, 0, 0⟩])
        (.cond (.tmp 50)
          (.seq (.reg [
            ⟨some 51, .move (.tmp 0), none, 0, 0⟩,
            ⟨some 52, .move (.tmp 1), none, 0, 0⟩,
            ⟨some 53, .move (.tmp 2), none, 0, 0⟩,
            ⟨some 54, .call ⟨.value (.func 23), #[.tmp 51, .tmp 52, .tmp 53], #[42, 3, 3]⟩, none, 0, 0⟩])
          (.seq (.reg [
            ⟨some 55, .move (.tmp 2), none, 0, 0⟩,
            ⟨some 56, .binOp .sub 3 (.tmp 55) (.const (.int .i64 1)) 3, none, 0, 0⟩,
            ⟨some 57, .move (.tmp 11), none, 0, 0⟩,
            ⟨some 58, .move (.tmp 1), none, 0, 0⟩,
            ⟨some 59, .binOp .sub 3 (.tmp 57) (.tmp 58) 3, none, 0, 0⟩,
            ⟨some 60, .binOp .sub 3 (.tmp 56) (.tmp 59) 3, none, 0, 0⟩,
            ⟨some 11, .assign (.tmp 60), none, 0, 0⟩])
          (.reg [
            ⟨some 12, .assign (.const (.int .i64 1)), none, 0, 0⟩])))
          .skip))
        (.seq (.seq (.reg [
          ⟨some 61, .move (.tmp 8), none, 0, 0⟩,
          ⟨some 62, .move (.tmp 61), none, 0, 0⟩,
          ⟨some 63, .move (.tmp 9), some (62, true), 0, 0⟩,
          ⟨some 64, .pick (.tmp 62) (.tmp 63) (.const (.bool false)), none, 0, 0⟩,
          ⟨some 65, .move (.tmp 64), none, 0, 0⟩,
          ⟨some 66, .move (.tmp 12), some (65, true), 0, 0⟩,
          ⟨some 67, .binOp .eql 61 (.tmp 66) (.const (.int .i64 1)) 61, some (65, true), 0, 0⟩,
          ⟨some 68, .pick (.tmp 65) (.tmp 67) (.const (.bool false)), none, 0, 0⟩])
        (.cond (.tmp 68)
          (.seq (.reg [
            ⟨some 69, .move (.tmp 0), none, 0, 0⟩,
            ⟨some 70, .move (.tmp 1), none, 0, 0⟩,
            ⟨some 71, .move (.tmp 2), none, 0, 0⟩,
            ⟨some 72, .call ⟨.value (.func 24), #[.tmp 69, .tmp 70, .tmp 71], #[42, 3, 3]⟩, none, 0, 0⟩])
          (.cond (.tmp 72)
            .ret
            .skip))
          .skip))
        (.seq (.seq (.draw [
          ⟨some 73, .move (.tmp 1), none, 0, 0⟩,
          ⟨some 74, .binOp .gtr 3 (.tmp 73) (.const (.int .i64 0)) 3, none, 0, 0⟩,
          ⟨some 75, .move (.tmp 74), none, 0, 0⟩,
          ⟨some 76, .move (.tmp 0), some (75, true), 0, 0⟩,
          ⟨some 77, .move (.tmp 1), some (75, true), 0, 0⟩,
          ⟨some 78, .binOp .sub 3 (.tmp 77) (.const (.int .i64 1)) 3, some (75, true), 0, 0⟩,
          ⟨some 79, .indexAddr 42 (.tmp 76) (.tmp 78), some (75, true), 0, 0⟩,
          ⟨some 80, .load 3 (.tmp 79), some (75, true), 0, 0⟩,
          ⟨some 81, .move (.tmp 0), some (75, true), 0, 0⟩,
          ⟨some 82, .move (.tmp 11), some (75, true), 0, 0⟩,
          ⟨some 83, .indexAddr 42 (.tmp 81) (.tmp 82), some (75, true), 0, 0⟩,
          ⟨some 84, .load 3 (.tmp 83), some (75, true), 0, 0⟩,
          ⟨some 85, .call ⟨.value (.func 25), #[.tmp 80, .tmp 84], #[3, 3]⟩, some (75, true), 0, 1⟩,
          ⟨some 86, .unOp .not 4 (.tmp 85), some (75, true), 1, 1⟩,
          ⟨some 87, .pick (.tmp 75) (.tmp 86) (.const (.bool false)), none, 1, 1⟩])
        (.cond (.tmp 87)
          (.seq (.reg [
            ⟨some 88, .move (.tmp 0), none, 0, 0⟩,
            ⟨some 89, .move (.tmp 1), none, 0, 0⟩,
            ⟨some 90, .move (.tmp 2), none, 0, 0⟩,
            ⟨some 91, .move (.tmp 11), none, 0, 0⟩,
            ⟨some 92, .call ⟨.value (.func 26), #[.tmp 88, .tmp 89, .tmp 90, .tmp 91], #[42, 3, 3, 3]⟩, none, 0, 0⟩,
            ⟨some 13, .assign (.tmp 92), none, 0, 0⟩])
          (.seq (.reg [
            ⟨some 93, .move (.tmp 13), none, 0, 0⟩,
            ⟨some 1, .assign (.tmp 93), none, 0, 0⟩])
          (.exit 1)))
          .skip))
        (.seq (.reg [
          ⟨some 95, .move (.tmp 0), none, 0, 0⟩,
          ⟨some 96, .move (.tmp 1), none, 0, 0⟩,
          ⟨some 97, .move (.tmp 2), none, 0, 0⟩,
          ⟨some 98, .move (.tmp 11), none, 0, 0⟩,
          ⟨some 99, .call ⟨.value (.func 27), #[.tmp 95, .tmp 96, .tmp 97, .tmp 98], #[42, 3, 3, 3]⟩, none, 0, 0⟩,
          ⟨some 94, .move (.tmp 99), none, 0, 0⟩,
          ⟨some 100, .extract (.tmp 94) 0, none, 0, 0⟩,
          ⟨some 101, .extract (.tmp 94) 1, none, 0, 0⟩,
          ⟨some 14, .assign (.tmp 100), none, 0, 0⟩,
          ⟨some 15, .assign (.tmp 101), none, 0, 0⟩])
        (.seq (.reg [
          ⟨some 102, .move (.tmp 15), none, 0, 0⟩,
          ⟨some 9, .assign (.tmp 102), none, 0, 0⟩])
        (.seq (.reg [
          ⟨some 103, .move (.tmp 14), none, 0, 0⟩,
          ⟨some 104, .move (.tmp 1), none, 0, 0⟩,
          ⟨some 105, .binOp .sub 3 (.tmp 103) (.tmp 104) 3, none, 0, 0⟩,
          ⟨some 106, .move (.tmp 2), none, 0, 0⟩,
          ⟨some 107, .move (.tmp 14), none, 0, 0⟩,
          ⟨some 108, .binOp .sub 3 (.tmp 106) (.tmp 107) 3, none, 0, 0⟩,
          ⟨some 16, .assign (.tmp 105), none, 0, 0⟩,
          ⟨some 17, .assign (.tmp 108), none, 0, 0⟩])
        (.seq (.reg [
          ⟨some 109, .move (.tmp 10), none, 0, 0⟩,
          ⟨some 110, .binOp .quo 3 (.tmp 109) (.const (.int .i64 8)) 3, none, 0, 0⟩,
          ⟨some 18, .assign (.tmp 110), none, 0, 0⟩])
        (.seq (.reg [
          ⟨some 111, .move (.tmp 16), none, 0, 0⟩,
          ⟨some 112, .move (.tmp 17), none, 0, 0⟩,
          ⟨some 113, .binOp .lss 3 (.tmp 111) (.tmp 112) 3, none, 0, 0⟩])
        (.cond (.tmp 113)
          (.seq (.reg [
            ⟨some 114, .move (.tmp 16), none, 0, 0⟩,
            ⟨some 115, .move (.tmp 18), none, 0, 0⟩,
            ⟨some 116, .binOp .geq 3 (.tmp 114) (.tmp 115) 3, none, 0, 0⟩,
            ⟨some 8, .assign (.tmp 116), none, 0, 0⟩])
          (.seq (.reg [
            ⟨some 117, .move (.tmp 0), none, 0, 0⟩,
            ⟨some 118, .move (.tmp 1), none, 0, 0⟩,
            ⟨some 119, .move (.tmp 14), none, 0, 0⟩,
            ⟨some 120, .move (.tmp 3), none, 0, 0⟩,
            ⟨some 121, .call ⟨.value (.func 17), #[.tmp 117, .tmp 118, .tmp 119, .tmp 120], #[42, 3, 3, 3]⟩, none, 0, 0⟩])
          (.reg [
            ⟨some 122, .move (.tmp 14), none, 0, 0⟩,
            ⟨some 123, .binOp .add 3 (.tmp 122) (.const (.int .i64 1)) 3, none, 0, 0⟩,
            ⟨some 1, .assign (.tmp 123), none, 0, 0⟩])))
          (.seq (.reg [
            ⟨some 124, .move (.tmp 17), none, 0, 0⟩,
            ⟨some 125, .move (.tmp 18), none, 0, 0⟩,
            ⟨some 126, .binOp .geq 3 (.tmp 124) (.tmp 125) 3, none, 0, 0⟩,
            ⟨some 8, .assign (.tmp 126), none, 0, 0⟩])
          (.seq (.reg [
            ⟨some 127, .move (.tmp 0), none, 0, 0⟩,
            ⟨some 128, .move (.tmp 14), none, 0, 0⟩,
            ⟨some 129, .binOp .add 3 (.tmp 128) (.const (.int .i64 1)) 3, none, 0, 0⟩,
            ⟨some 130, .move (.tmp 2), none, 0, 0⟩,
            ⟨some 131, .move (.tmp 3), none, 0, 0⟩,
            ⟨some 132, .call ⟨.value (.func 17), #[.tmp 127, .tmp 129, .tmp 130, .tmp 131], #[42, 3, 3, 3]⟩, none, 0, 0⟩])
          (.reg [
            ⟨some 133, .move (.tmp 14), none, 0, 0⟩,
            ⟨some 2, .assign (.tmp 133), none, 0, 0⟩]))))))))))))))))))))))
theorem strip17 : (Try.f17.body.map strip) = some S17 := by kernel_rfl
def S18 : SCode :=
  (.seq (.reg [
    ⟨some 2, .assign (.const (.int .i64 0)), none, 0, 0⟩])
  (.seq (.cond (.const (.bool false))
    (.seq (.reg [
      ⟨some 3, .move (.tmp 0), none, 0, 0⟩,
      ⟨some 4, .convert 59 69 (.tmp 3), none, 0, 0⟩,
      ⟨some 5, .call ⟨.value (.func 28), #[.tmp 4], #[69]⟩, none, 0, 0⟩,
      ⟨some 2, .assign (.tmp 5), none, 0, 0⟩])
    .ret)
    .skip)
  (.seq (.reg [
    ⟨some 6, .move (.tmp 0), none, 0, 0⟩,
    ⟨some 7, .call ⟨.value (.func 29), #[.tmp 6], #[71]⟩, none, 0, 0⟩,
    ⟨some 2, .assign (.tmp 7), none, 0, 0⟩])
  .ret)))
theorem strip18 : (Try.f18.body.map strip) = some S18 := by kernel_rfl
def S19 : SCode :=
  (.seq (.reg [
    ⟨some 8, .move (.tmp 1), none, 0, 0⟩,
    ⟨some 9, .binOp .add 3 (.tmp 8) (.const (.int .i64 1)) 3, none, 0, 0⟩,
    ⟨some 6, .assign (.tmp 9), none, 0, 0⟩])
  (.block 0
    (.loop
      (.seq (.seq (.reg [
        ⟨some 10, .move (.tmp 6), none, 0, 0⟩,
        ⟨some 11, .move (.tmp 2), none, 0, 0⟩,
        ⟨some 12, .binOp .lss 3 (.tmp 10) (.tmp 11) 3, none, 0, 0⟩])
      (.cond (.tmp 12)
        .skip
        (.exit 0)))
      (.seq (.block 1
        (.seq (.reg [
          ⟨some 15, .move (.tmp 6), none, 0, 0⟩,
          ⟨some 7, .assign (.tmp 15), none, 0, 0⟩])
        (.block 2
          (.loop
            (.seq (.seq (.draw [
              ⟨some 16, .move (.tmp 7), none, 0, 0⟩,
              ⟨some 17, .move (.tmp 1), none, 0, 0⟩,
              ⟨some 18, .binOp .gtr 3 (.tmp 16) (.tmp 17) 3, none, 0, 0⟩,
              ⟨some 19, .move (.tmp 18), none, 0, 0⟩,
              ⟨some 20, .move (.tmp 0), some (19, true), 0, 0⟩,
              ⟨some 21, .move (.tmp 7), some (19, true), 0, 0⟩,
              ⟨some 22, .indexAddr 42 (.tmp 20) (.tmp 21), some (19, true), 0, 0⟩,
              ⟨some 23, .load 3 (.tmp 22), some (19, true), 0, 0⟩,
              ⟨some 24, .move (.tmp 0), some (19, true), 0, 0⟩,
              ⟨some 25, .move (.tmp 7), some (19, true), 0, 0⟩,
              ⟨some 26, .binOp .sub 3 (.tmp 25) (.const (.int .i64 1)) 3, some (19, true), 0, 0⟩,
              ⟨some 27, .indexAddr 42 (.tmp 24) (.tmp 26), some (19, true), 0, 0⟩,
              ⟨some 28, .load 3 (.tmp 27), some (19, true), 0, 0⟩,
              ⟨some 29, .call ⟨.value (.func 25), #[.tmp 23, .tmp 28], #[3, 3]⟩, some (19, true), 0, 1⟩,
              ⟨some 30, .pick (.tmp 19) (.tmp 29) (.const (.bool false)), none, 1, 1⟩])
            (.cond (.tmp 30)
              .skip
              (.exit 2)))
            (.seq (.block 3
              (.draw [
                ⟨some 33, .move (.tmp 0), none, 0, 0⟩,
                ⟨some 34, .move (.tmp 7), none, 0, 0⟩,
                ⟨some 35, .move (.tmp 0), none, 0, 1⟩,
                ⟨some 36, .move (.tmp 7), none, 0, 1⟩,
                ⟨some 37, .binOp .sub 3 (.tmp 36) (.const (.int .i64 1)) 3, none, 0, 1⟩,
                ⟨some 38, .move (.tmp 0), none, 0, 0⟩,
                ⟨some 39, .move (.tmp 7), none, 0, 0⟩,
                ⟨some 40, .binOp .sub 3 (.tmp 39) (.const (.int .i64 1)) 3, none, 0, 0⟩,
                ⟨some 41, .indexAddr 42 (.tmp 38) (.tmp 40), none, 0, 0⟩,
                ⟨some 42, .load 3 (.tmp 41), none, 0, 0⟩,
                ⟨some 43, .move (.tmp 0), none, 0, 0⟩,
                ⟨some 44, .move (.tmp 7), none, 0, 0⟩,
                ⟨some 45, .indexAddr 42 (.tmp 43) (.tmp 44), none, 0, 0⟩,
                ⟨some 46, .load 3 (.tmp 45), none, 0, 0⟩,
                ⟨some 47, .indexAddr 42 (.tmp 33) (.tmp 34), none, 0, 0⟩,
                ⟨none, .store 3 (.tmp 47) (.tmp 42), none, 0, 1⟩,
                ⟨some 48, .indexAddr 42 (.tmp 35) (.tmp 37), none, 1, 1⟩,
                ⟨none, .store 3 (.tmp 48) (.tmp 46), none, 1, 2⟩]))
            (.reg [
              ⟨some 31, .move (.tmp 7), none, 0, 0⟩,
              ⟨some 32, .binOp .sub 3 (.tmp 31) (.const (.int .i64 1)) 3, none, 0, 0⟩,
              ⟨some 7, .assign (.tmp 32), none, 0, 0⟩])))))))
      (.reg [
        ⟨some 13, .move (.tmp 6), none, 0, 0⟩,
        ⟨some 14, .binOp .add 3 (.tmp 13) (.const (.int .i64 1)) 3, none, 0, 0⟩,
        ⟨some 6, .assign (.tmp 14), none, 0, 0⟩]))))))
theorem strip19 : (Try.f19.body.map strip) = some S19 := by kernel_rfl
def S28 : SCode :=
  (.seq (.reg [
    ⟨some 2, .assign (.const (.int .i64 0)), none, 0, 0⟩])
  (.seq (.seq (.reg [
    ⟨some 3, .move (.tmp 0), none, 0, 0⟩,
    ⟨some 4, .binOp .geq 69 (.tmp 3) (.const (.int .u32 65536)) 69, none, 0, 0⟩])
  (.cond (.tmp 4)
    (.seq (.reg [
      ⟨some 5, .move (.tmp 0), none, 0, 0⟩,
      ⟨some 6, .binOp .shr 69 (.tmp 5) (.const (.int .u64 16)) 59, none, 0, 0⟩,
      ⟨some 0, .assign (.tmp 6), none, 0, 0⟩])
    (.reg [
      ⟨some 2, .assign (.const (.int .i64 16)), none, 0, 0⟩]))
    .skip))
  (.seq (.seq (.reg [
    ⟨some 7, .move (.tmp 0), none, 0, 0⟩,
    ⟨some 8, .binOp .geq 69 (.tmp 7) (.const (.int .u32 256)) 69, none, 0, 0⟩])
  (.cond (.tmp 8)
    (.seq (.reg [
      ⟨some 9, .move (.tmp 0), none, 0, 0⟩,
      ⟨some 10, .binOp .shr 69 (.tmp 9) (.const (.int .u64 8)) 59, none, 0, 0⟩,
      ⟨some 0, .assign (.tmp 10), none, 0, 0⟩])
    (.reg [
      ⟨some 11, .move (.tmp 2), none, 0, 0⟩,
      ⟨some 12, .binOp .add 3 (.tmp 11) (.const (.int .i64 8)) 3, none, 0, 0⟩,
      ⟨some 2, .assign (.tmp 12), none, 0, 0⟩]))
    .skip))
  (.seq (.reg [
    ⟨some 13, .move (.tmp 2), none, 0, 0⟩,
    ⟨some 14, .move (.tmp 0), none, 0, 0⟩,
    ⟨some 15, .convert 69 5 (.tmp 14), none, 0, 0⟩,
    ⟨some 16, .index 9 (.const (.string ⟨#[0, 1, 2, 2, 3, 3, 3, 3, 4, 4, 4, 4, 4, 4, 4, 4, 5, 5, 5, 5, 5, 5, 5, 5, 5, 5, 5, 5, 5, 5, 5, 5, 6, 6, 6, 6, 6, 6, 6, 6, 6, 6, 6, 6, 6, 6, 6, 6, 6, 6, 6, 6, 6, 6, 6, 6, 6, 6, 6, 6, 6, 6, 6, 6, 7, 7, 7, 7, 7, 7, 7, 7, 7, 7, 7, 7, 7, 7, 7, 7, 7, 7, 7, 7, 7, 7, 7, 7, 7, 7, 7, 7, 7, 7, 7, 7, 7, 7, 7, 7, 7, 7, 7, 7, 7, 7, 7, 7, 7, 7, 7, 7, 7, 7, 7, 7, 7, 7, 7, 7, 7, 7, 7, 7, 7, 7, 7, 7, 8, 8, 8, 8, 8, 8, 8, 8, 8, 8, 8, 8, 8, 8, 8, 8, 8, 8, 8, 8, 8, 8, 8, 8, 8, 8, 8, 8, 8, 8, 8, 8, 8, 8, 8, 8, 8, 8, 8, 8, 8, 8, 8, 8, 8, 8, 8, 8, 8, 8, 8, 8, 8, 8, 8, 8, 8, 8, 8, 8, 8, 8, 8, 8, 8, 8, 8, 8, 8, 8, 8, 8, 8, 8, 8, 8, 8, 8, 8, 8, 8, 8, 8, 8, 8, 8, 8, 8, 8, 8, 8, 8, 8, 8, 8, 8, 8, 8, 8, 8, 8, 8, 8, 8, 8, 8, 8, 8, 8, 8, 8, 8, 8, 8, 8, 8, 8, 8, 8, 8, 8, 8, 8, 8, 8, 8, 8, 8]⟩)) (.tmp 15), none, 0, 0⟩,
    ⟨some 17, .convert 5 3 (.tmp 16), none, 0, 0⟩,
    ⟨some 18, .binOp .add 3 (.tmp 13) (.tmp 17) 3, none, 0, 0⟩,
    ⟨some 2, .assign (.tmp 18), none, 0, 0⟩])
  .ret))))
theorem strip28 : (Try.f28.body.map strip) = some S28 := by kernel_rfl
def S29 : SCode :=
  (.seq (.reg [
    ⟨some 2, .assign (.const (.int .i64 0)), none, 0, 0⟩])
  (.seq (.seq (.reg [
    ⟨some 3, .move (.tmp 0), none, 0, 0⟩,
    ⟨some 4, .binOp .geq 71 (.tmp 3) (.const (.int .u64 4294967296)) 71, none, 0, 0⟩])
  (.cond (.tmp 4)
    (.seq (.reg [
      ⟨some 5, .move (.tmp 0), none, 0, 0⟩,
      ⟨some 6, .binOp .shr 71 (.tmp 5) (.const (.int .u64 32)) 59, none, 0, 0⟩,
      ⟨some 0, .assign (.tmp 6), none, 0, 0⟩])
    (.reg [
      ⟨some 2, .assign (.const (.int .i64 32)), none, 0, 0⟩]))
    .skip))
  (.seq (.seq (.reg [
    ⟨some 7, .move (.tmp 0), none, 0, 0⟩,
    ⟨some 8, .binOp .geq 71 (.tmp 7) (.const (.int .u64 65536)) 71, none, 0, 0⟩])
  (.cond (.tmp 8)
    (.seq (.reg [
      ⟨some 9, .move (.tmp 0), none, 0, 0⟩,
      ⟨some 10, .binOp .shr 71 (.tmp 9) (.const (.int .u64 16)) 59, none, 0, 0⟩,
      ⟨some 0, .assign (.tmp 10), none, 0, 0⟩])
    (.reg [
      ⟨some 11, .move (.tmp 2), none, 0, 0⟩,
      ⟨some 12, .binOp .add 3 (.tmp 11) (.const (.int .i64 16)) 3, none, 0, 0⟩,
      ⟨some 2, .assign (.tmp 12), none, 0, 0⟩]))
    .skip))
  (.seq (.seq (.reg [
    ⟨some 13, .move (.tmp 0), none, 0, 0⟩,
    ⟨some 14, .binOp .geq 71 (.tmp 13) (.const (.int .u64 256)) 71, none, 0, 0⟩])
  (.cond (.tmp 14)
    (.seq (.reg [
      ⟨some 15, .move (.tmp 0), none, 0, 0⟩,
      ⟨some 16, .binOp .shr 71 (.tmp 15) (.const (.int .u64 8)) 59, none, 0, 0⟩,
      ⟨some 0, .assign (.tmp 16), none, 0, 0⟩])
    (.reg [
      ⟨some 17, .move (.tmp 2), none, 0, 0⟩,
      ⟨some 18, .binOp .add 3 (.tmp 17) (.const (.int .i64 8)) 3, none, 0, 0⟩,
      ⟨some 2, .assign (.tmp 18), none, 0, 0⟩]))
    .skip))
  (.seq (.reg [
    ⟨some 19, .move (.tmp 2), none, 0, 0⟩,
    ⟨some 20, .move (.tmp 0), none, 0, 0⟩,
    ⟨some 21, .convert 71 5 (.tmp 20), none, 0, 0⟩,
    ⟨some 22, .index 9 (.const (.string ⟨#[0, 1, 2, 2, 3, 3, 3, 3, 4, 4, 4, 4, 4, 4, 4, 4, 5, 5, 5, 5, 5, 5, 5, 5, 5, 5, 5, 5, 5, 5, 5, 5, 6, 6, 6, 6, 6, 6, 6, 6, 6, 6, 6, 6, 6, 6, 6, 6, 6, 6, 6, 6, 6, 6, 6, 6, 6, 6, 6, 6, 6, 6, 6, 6, 7, 7, 7, 7, 7, 7, 7, 7, 7, 7, 7, 7, 7, 7, 7, 7, 7, 7, 7, 7, 7, 7, 7, 7, 7, 7, 7, 7, 7, 7, 7, 7, 7, 7, 7, 7, 7, 7, 7, 7, 7, 7, 7, 7, 7, 7, 7, 7, 7, 7, 7, 7, 7, 7, 7, 7, 7, 7, 7, 7, 7, 7, 7, 7, 8, 8, 8, 8, 8, 8, 8, 8, 8, 8, 8, 8, 8, 8, 8, 8, 8, 8, 8, 8, 8, 8, 8, 8, 8, 8, 8, 8, 8, 8, 8, 8, 8, 8, 8, 8, 8, 8, 8, 8, 8, 8, 8, 8, 8, 8, 8, 8, 8, 8, 8, 8, 8, 8, 8, 8, 8, 8, 8, 8, 8, 8, 8, 8, 8, 8, 8, 8, 8, 8, 8, 8, 8, 8, 8, 8, 8, 8, 8, 8, 8, 8, 8, 8, 8, 8, 8, 8, 8, 8, 8, 8, 8, 8, 8, 8, 8, 8, 8, 8, 8, 8, 8, 8, 8, 8, 8, 8, 8, 8, 8, 8, 8, 8, 8, 8, 8, 8, 8, 8, 8, 8, 8, 8, 8, 8, 8, 8]⟩)) (.tmp 21), none, 0, 0⟩,
    ⟨some 23, .convert 5 3 (.tmp 22), none, 0, 0⟩,
    ⟨some 24, .binOp .add 3 (.tmp 19) (.tmp 23) 3, none, 0, 0⟩,
    ⟨some 2, .assign (.tmp 24), none, 0, 0⟩])
  .ret)))))
theorem strip29 : (Try.f29.body.map strip) = some S29 := by kernel_rfl
end Go.Proofs.Ytnhnelhcipafeaa.Ab
