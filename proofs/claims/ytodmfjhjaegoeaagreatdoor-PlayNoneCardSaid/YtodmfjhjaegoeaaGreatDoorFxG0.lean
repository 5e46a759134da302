/- The code of this seat's functions without what a walk does not ask for, and that it is that. Written by program. -/
import Derived.Test.YtodmfjhjaegoeaaGreatDoorAmComp
import Derived.Test.YtodmfjhjaegoeaaGreatDoorProg
import Derived.KernelRfl
set_option maxRecDepth 20000
set_option linter.unusedVariables false
namespace Go.Proofs.Fx
open Go Go.Am

/-- bindle/bindlelaw28.ArchiveNone -/
noncomputable def g3 : AC :=
 .seq (.reg [⟨none, some 1, .box 27 (.tmp 0)⟩,
  ⟨none, some 2, .assign (.const (.bool false))⟩])
 (.seq (.reg [⟨none, some 3, .assign (.const (.pointer none))⟩])
  (.seq (.reg [⟨none, some 27, .call { callee := (.value (.func 5)), args := #[], argTypes := #[] }⟩,
    ⟨none, some 26, .move (.tmp 27)⟩,
    ⟨none, some 28, .extract (.tmp 26) 0⟩,
    ⟨none, some 29, .extract (.tmp 26) 1⟩,
    ⟨none, some 4, .assign (.tmp 28)⟩,
    ⟨none, some 5, .assign (.tmp 29)⟩])
   (.seq (.seq (.reg [⟨none, some 30, .move (.tmp 4)⟩,
      ⟨none, some 31, .binOp .eql 28 (.tmp 30) (.const (.pointer none)) 28⟩,
      ⟨none, some 32, .move (.tmp 31)⟩,
      ⟨some (some 32, false), some 33, .move (.tmp 4)⟩,
      ⟨some (some 32, false), some 34, .call { callee := (.value (.func 6)), args := #[(.tmp 33)], argTypes := #[28] }⟩,
      ⟨some (some 32, false), some 35, .binOp .neq 32 (.tmp 34) (.const (.int .i64 0)) 32⟩,
      ⟨none, some 36, .pick (.tmp 32) (.const (.bool true)) (.tmp 35)⟩])
     (.cond (.tmp 36) (.seq (.reg [⟨none, some 2, .assign (.const (.bool false))⟩])
       (.ret))
      (.skip)))
    (.seq (.reg [⟨none, some 38, .move (.tmp 5)⟩,
      ⟨none, some 39, .call { callee := (.value (.func 7)), args := #[(.tmp 38)], argTypes := #[29] }⟩,
      ⟨none, some 37, .move (.tmp 39)⟩,
      ⟨none, some 40, .extract (.tmp 37) 0⟩,
      ⟨none, some 41, .extract (.tmp 37) 1⟩,
      ⟨none, some 6, .assign (.tmp 40)⟩,
      ⟨none, some 7, .assign (.tmp 41)⟩])
     (.seq (.seq (.reg [⟨none, some 8, .assign (.const (.int .i64 3))⟩])
       (.block 0 (.loop (.seq (.seq (.reg [⟨none, some 42, .move (.tmp 8)⟩,
            ⟨none, some 43, .binOp .lss 3 (.tmp 42) (.const (.int .i64 15)) 3⟩])
           (.cond (.tmp 43) (.skip)
            (.exit 0)))
          (.seq (.block 1 (.seq (.reg [⟨none, some 46, .move (.tmp 8)⟩,
              ⟨none, some 47, .fieldAddr 27 (.tmp 1) 1⟩,
              ⟨none, some 48, .load 9 (.tmp 47)⟩,
              ⟨none, some 49, .fieldAddr 27 (.tmp 1) 2⟩,
              ⟨none, some 50, .load 22 (.tmp 49)⟩,
              ⟨none, some 51, .fieldAddr 27 (.tmp 1) 3⟩,
              ⟨none, some 52, .load 3 (.tmp 51)⟩,
              ⟨none, some 53, .build 27 #[(0, (.tmp 46)), (1, (.tmp 48)), (2, (.tmp 50)), (3, (.tmp 52))]⟩,
              ⟨none, some 9, .alloc 27⟩,
              ⟨none, none, .store 27 (.tmp 9) (.tmp 53)⟩])
             (.seq (.seq (.reg [⟨none, some 54, .move (.tmp 8)⟩,
                ⟨none, some 55, .binOp .eql 3 (.tmp 54) (.const (.int .i64 8)) 3⟩,
                ⟨none, some 56, .move (.tmp 55)⟩,
                ⟨some (some 56, false), some 57, .move (.tmp 8)⟩,
                ⟨some (some 56, false), some 58, .binOp .eql 3 (.tmp 57) (.const (.int .i64 9)) 3⟩,
                ⟨none, some 59, .pick (.tmp 56) (.const (.bool true)) (.tmp 58)⟩,
                ⟨none, some 60, .move (.tmp 59)⟩,
                ⟨some (some 60, false), some 61, .move (.tmp 8)⟩,
                ⟨some (some 60, false), some 62, .binOp .eql 3 (.tmp 61) (.const (.int .i64 10)) 3⟩,
                ⟨none, some 63, .pick (.tmp 60) (.const (.bool true)) (.tmp 62)⟩])
               (.cond (.tmp 63) (.exit 1)
                (.skip)))
              (.seq (.reg [⟨none, some 64, .move (.tmp 3)⟩,
                ⟨none, some 65, .load 27 (.tmp 9)⟩,
                ⟨none, some 66, .call { callee := (.value (.func 8)), args := #[(.tmp 64), (.tmp 65)], argTypes := #[28, 27] }⟩,
                ⟨none, some 67, .binOp .neq 32 (.tmp 66) (.const (.int .i64 1)) 32⟩,
                ⟨none, some 68, .move (.tmp 67)⟩,
                ⟨some (some 68, false), some 69, .move (.tmp 4)⟩,
                ⟨some (some 68, false), some 70, .load 27 (.tmp 9)⟩,
                ⟨some (some 68, false), some 71, .call { callee := (.value (.func 8)), args := #[(.tmp 69), (.tmp 70)], argTypes := #[28, 27] }⟩,
                ⟨some (some 68, false), some 72, .binOp .neq 32 (.tmp 71) (.const (.int .i64 12)) 32⟩,
                ⟨none, some 73, .pick (.tmp 68) (.const (.bool true)) (.tmp 72)⟩])
               (.cond (.tmp 73) (.seq (.reg [⟨none, some 2, .assign (.const (.bool false))⟩])
                 (.ret))
                (.skip))))))
           (.reg [⟨none, some 44, .move (.tmp 8)⟩,
            ⟨none, some 45, .binOp .add 3 (.tmp 44) (.const (.int .i64 1)) 3⟩,
            ⟨none, some 8, .assign (.tmp 45)⟩]))))))
      (.seq (.reg [⟨none, some 75, .move (.tmp 3)⟩,
        ⟨none, some 76, .fieldAddr 27 (.tmp 1) 1⟩,
        ⟨none, some 77, .load 9 (.tmp 76)⟩,
        ⟨none, some 78, .call { callee := (.value (.func 9)), args := #[(.tmp 75), (.tmp 77)], argTypes := #[28, 9] }⟩,
        ⟨none, some 74, .move (.tmp 78)⟩,
        ⟨none, some 79, .extract (.tmp 74) 0⟩,
        ⟨none, some 80, .extract (.tmp 74) 1⟩,
        ⟨none, some 10, .assign (.tmp 79)⟩,
        ⟨none, some 11, .assign (.tmp 80)⟩])
       (.seq (.reg [⟨none, some 82, .move (.tmp 4)⟩,
         ⟨none, some 83, .fieldAddr 27 (.tmp 1) 1⟩,
         ⟨none, some 84, .load 9 (.tmp 83)⟩,
         ⟨none, some 85, .call { callee := (.value (.func 9)), args := #[(.tmp 82), (.tmp 84)], argTypes := #[28, 9] }⟩,
         ⟨none, some 81, .move (.tmp 85)⟩,
         ⟨none, some 86, .extract (.tmp 81) 0⟩,
         ⟨none, some 87, .extract (.tmp 81) 1⟩,
         ⟨none, some 12, .assign (.tmp 86)⟩,
         ⟨none, some 13, .assign (.tmp 87)⟩])
        (.seq (.reg [⟨none, some 89, .move (.tmp 3)⟩,
          ⟨none, some 90, .fieldAddr 27 (.tmp 1) 1⟩,
          ⟨none, some 91, .load 9 (.tmp 90)⟩,
          ⟨none, some 92, .call { callee := (.value (.func 10)), args := #[(.tmp 89), (.tmp 91)], argTypes := #[28, 9] }⟩,
          ⟨none, some 88, .move (.tmp 92)⟩,
          ⟨none, some 93, .extract (.tmp 88) 0⟩,
          ⟨none, some 94, .extract (.tmp 88) 1⟩,
          ⟨none, some 14, .alloc 41⟩,
          ⟨none, none, .store 41 (.tmp 14) (.tmp 93)⟩,
          ⟨none, some 15, .assign (.tmp 94)⟩])
         (.seq (.reg [⟨none, some 96, .move (.tmp 4)⟩,
           ⟨none, some 97, .fieldAddr 27 (.tmp 1) 1⟩,
           ⟨none, some 98, .load 9 (.tmp 97)⟩,
           ⟨none, some 99, .call { callee := (.value (.func 10)), args := #[(.tmp 96), (.tmp 98)], argTypes := #[28, 9] }⟩,
           ⟨none, some 95, .move (.tmp 99)⟩,
           ⟨none, some 100, .extract (.tmp 95) 0⟩,
           ⟨none, some 101, .extract (.tmp 95) 1⟩,
           ⟨none, some 16, .alloc 41⟩,
           ⟨none, none, .store 41 (.tmp 16) (.tmp 100)⟩,
           ⟨none, some 17, .assign (.tmp 101)⟩])
          (.seq (.reg [⟨none, some 103, .move (.tmp 3)⟩,
            ⟨none, some 104, .call { callee := (.value (.func 11)), args := #[(.tmp 103)], argTypes := #[28] }⟩,
            ⟨none, some 102, .move (.tmp 104)⟩,
            ⟨none, some 105, .extract (.tmp 102) 0⟩,
            ⟨none, some 106, .extract (.tmp 102) 1⟩,
            ⟨none, some 18, .assign (.tmp 105)⟩,
            ⟨none, some 19, .assign (.tmp 106)⟩])
           (.seq (.reg [⟨none, some 108, .move (.tmp 4)⟩,
             ⟨none, some 109, .call { callee := (.value (.func 11)), args := #[(.tmp 108)], argTypes := #[28] }⟩,
             ⟨none, some 107, .move (.tmp 109)⟩,
             ⟨none, some 110, .extract (.tmp 107) 0⟩,
             ⟨none, some 111, .extract (.tmp 107) 1⟩,
             ⟨none, some 20, .assign (.tmp 110)⟩,
             ⟨none, some 21, .assign (.tmp 111)⟩])
            (.seq (.seq (.reg [⟨none, some 112, .move (.tmp 11)⟩,
               ⟨none, some 113, .binOp .neq 32 (.tmp 112) (.const (.int .i64 1)) 32⟩,
               ⟨none, some 114, .move (.tmp 113)⟩,
               ⟨some (some 114, false), some 115, .move (.tmp 13)⟩,
               ⟨some (some 114, false), some 116, .binOp .neq 32 (.tmp 115) (.const (.int .i64 12)) 32⟩,
               ⟨none, some 117, .pick (.tmp 114) (.const (.bool true)) (.tmp 116)⟩,
               ⟨none, some 118, .move (.tmp 117)⟩,
               ⟨some (some 118, false), some 119, .move (.tmp 15)⟩,
               ⟨some (some 118, false), some 120, .binOp .neq 32 (.tmp 119) (.const (.int .i64 1)) 32⟩,
               ⟨none, some 121, .pick (.tmp 118) (.const (.bool true)) (.tmp 120)⟩,
               ⟨none, some 122, .move (.tmp 121)⟩,
               ⟨some (some 122, false), some 123, .move (.tmp 17)⟩,
               ⟨some (some 122, false), some 124, .binOp .neq 32 (.tmp 123) (.const (.int .i64 12)) 32⟩,
               ⟨none, some 125, .pick (.tmp 122) (.const (.bool true)) (.tmp 124)⟩,
               ⟨none, some 126, .move (.tmp 125)⟩,
               ⟨some (some 126, false), some 127, .move (.tmp 19)⟩,
               ⟨some (some 126, false), some 128, .binOp .neq 32 (.tmp 127) (.const (.int .i64 1)) 32⟩,
               ⟨none, some 129, .pick (.tmp 126) (.const (.bool true)) (.tmp 128)⟩,
               ⟨none, some 130, .move (.tmp 129)⟩,
               ⟨some (some 130, false), some 131, .move (.tmp 21)⟩,
               ⟨some (some 130, false), some 132, .binOp .neq 32 (.tmp 131) (.const (.int .i64 12)) 32⟩,
               ⟨none, some 133, .pick (.tmp 130) (.const (.bool true)) (.tmp 132)⟩])
              (.cond (.tmp 133) (.seq (.reg [⟨none, some 2, .assign (.const (.bool false))⟩])
                (.ret))
               (.skip)))
             (.seq (.reg [⟨none, some 135, .fieldAddr 27 (.tmp 1) 1⟩,
               ⟨none, some 136, .load 9 (.tmp 135)⟩,
               ⟨none, some 137, .call { callee := (.value (.func 12)), args := #[(.const (.pointer none)), (.tmp 136)], argTypes := #[29, 9] }⟩,
               ⟨none, some 134, .move (.tmp 137)⟩,
               ⟨none, some 138, .extract (.tmp 134) 0⟩,
               ⟨none, some 139, .extract (.tmp 134) 1⟩,
               ⟨none, some 22, .assign (.tmp 138)⟩,
               ⟨none, some 23, .assign (.tmp 139)⟩])
              (.seq (.seq (.reg [⟨none, some 140, .fieldAddr 27 (.tmp 1) 1⟩,
                 ⟨none, some 141, .load 9 (.tmp 140)⟩,
                 ⟨none, some 142, .call { callee := (.value (.func 13)), args := #[(.const (.pointer none)), (.tmp 141)], argTypes := #[29, 9] }⟩,
                 ⟨none, some 143, .binOp .neq 32 (.tmp 142) (.const (.int .i64 1)) 32⟩,
                 ⟨none, some 144, .move (.tmp 143)⟩,
                 ⟨some (some 144, false), some 145, .move (.tmp 22)⟩,
                 ⟨some (some 144, false), some 146, .binOp .neq 28 (.tmp 145) (.const (.pointer none)) 28⟩,
                 ⟨none, some 147, .pick (.tmp 144) (.const (.bool true)) (.tmp 146)⟩,
                 ⟨none, some 148, .move (.tmp 147)⟩,
                 ⟨some (some 148, false), some 149, .move (.tmp 23)⟩,
                 ⟨some (some 148, false), some 150, .binOp .neq 32 (.tmp 149) (.const (.int .i64 1)) 32⟩,
                 ⟨none, some 151, .pick (.tmp 148) (.const (.bool true)) (.tmp 150)⟩,
                 ⟨none, some 152, .move (.tmp 151)⟩,
                 ⟨some (some 152, false), some 153, .move (.tmp 3)⟩,
                 ⟨some (some 152, false), some 154, .fieldAddr 27 (.tmp 1) 1⟩,
                 ⟨some (some 152, false), some 155, .load 9 (.tmp 154)⟩,
                 ⟨some (some 152, false), some 156, .call { callee := (.value (.func 14)), args := #[(.tmp 153), (.tmp 155)], argTypes := #[28, 9] }⟩,
                 ⟨some (some 152, false), some 157, .call { callee := (.builtin .len), args := #[(.tmp 156)], argTypes := #[50] }⟩,
                 ⟨some (some 152, false), some 158, .binOp .neq 3 (.tmp 157) (.const (.int .i64 0)) 3⟩,
                 ⟨none, some 159, .pick (.tmp 152) (.const (.bool true)) (.tmp 158)⟩,
                 ⟨none, some 160, .move (.tmp 159)⟩,
                 ⟨some (some 160, false), some 161, .move (.tmp 4)⟩,
                 ⟨some (some 160, false), some 162, .fieldAddr 27 (.tmp 1) 1⟩,
                 ⟨some (some 160, false), some 163, .load 9 (.tmp 162)⟩,
                 ⟨some (some 160, false), some 164, .call { callee := (.value (.func 14)), args := #[(.tmp 161), (.tmp 163)], argTypes := #[28, 9] }⟩,
                 ⟨some (some 160, false), some 165, .call { callee := (.builtin .len), args := #[(.tmp 164)], argTypes := #[50] }⟩,
                 ⟨some (some 160, false), some 166, .binOp .neq 3 (.tmp 165) (.const (.int .i64 0)) 3⟩,
                 ⟨none, some 167, .pick (.tmp 160) (.const (.bool true)) (.tmp 166)⟩,
                 ⟨none, some 168, .move (.tmp 167)⟩,
                 ⟨some (some 168, false), some 169, .move (.tmp 3)⟩,
                 ⟨some (some 168, false), some 170, .call { callee := (.value (.func 15)), args := #[(.tmp 169)], argTypes := #[28] }⟩,
                 ⟨none, some 171, .pick (.tmp 168) (.const (.bool true)) (.tmp 170)⟩,
                 ⟨none, some 172, .move (.tmp 171)⟩,
                 ⟨some (some 172, false), some 173, .move (.tmp 4)⟩,
                 ⟨some (some 172, false), some 174, .call { callee := (.value (.func 15)), args := #[(.tmp 173)], argTypes := #[28] }⟩,
                 ⟨none, some 175, .pick (.tmp 172) (.const (.bool true)) (.tmp 174)⟩,
                 ⟨none, some 176, .move (.tmp 175)⟩,
                 ⟨some (some 176, false), some 177, .move (.tmp 3)⟩,
                 ⟨some (some 176, false), some 178, .call { callee := (.value (.func 16)), args := #[(.tmp 177)], argTypes := #[28] }⟩,
                 ⟨some (some 176, false), some 179, .binOp .neq 3 (.tmp 178) (.const (.int .i64 0)) 3⟩,
                 ⟨none, some 180, .pick (.tmp 176) (.const (.bool true)) (.tmp 179)⟩,
                 ⟨none, some 181, .move (.tmp 180)⟩,
                 ⟨some (some 181, false), some 182, .move (.tmp 4)⟩,
                 ⟨some (some 181, false), some 183, .call { callee := (.value (.func 16)), args := #[(.tmp 182)], argTypes := #[28] }⟩,
                 ⟨some (some 181, false), some 184, .binOp .neq 3 (.tmp 183) (.const (.int .i64 0)) 3⟩,
                 ⟨none, some 185, .pick (.tmp 181) (.const (.bool true)) (.tmp 184)⟩])
                (.cond (.tmp 185) (.seq (.reg [⟨none, some 2, .assign (.const (.bool false))⟩])
                  (.ret))
                 (.skip)))
               (.seq (.reg [⟨none, some 187, .move (.tmp 5)⟩,
                 ⟨none, some 188, .call { callee := (.value (.func 7)), args := #[(.tmp 187)], argTypes := #[29] }⟩,
                 ⟨none, some 186, .move (.tmp 188)⟩,
                 ⟨none, some 189, .extract (.tmp 186) 0⟩,
                 ⟨none, some 190, .extract (.tmp 186) 1⟩,
                 ⟨none, some 24, .assign (.tmp 189)⟩,
                 ⟨none, some 25, .assign (.tmp 190)⟩])
                (.seq (.reg [⟨none, some 191, .move (.tmp 24)⟩,
                  ⟨none, some 192, .move (.tmp 6)⟩,
                  ⟨none, some 193, .binOp .eql 3 (.tmp 191) (.tmp 192) 3⟩,
                  ⟨none, some 194, .move (.tmp 193)⟩,
                  ⟨some (some 194, true), some 195, .call { callee := (.value (.func 17)), args := #[], argTypes := #[] }⟩,
                  ⟨none, some 196, .pick (.tmp 194) (.tmp 195) (.const (.bool false))⟩,
                  ⟨none, some 2, .assign (.tmp 196)⟩])
                 (.ret)))))))))))))))))
theorem com3 : com Tryz.prog 197 ((Tryz.f3.body).getD .skip) = g3 := by kernel_rfl
theorem enter3 {args : List Value} {h : Heap} {R : Value → Heap → Prop} (hN : args.length ≤ 197) (q : AWC Tryz.prog 197 g3 (RetQ Tryz.prog [.tmp 2] R) (frOf args) h) : ACall Tryz.prog 3 args h R :=
  C_call Tryz.func3 (by kernel_rfl) com3 (by kernel_rfl) (by kernel_rfl) hN q

/-- bindle/bindlelaw32.PlayNone -/
noncomputable def g4 : AC :=
 .seq (.reg [⟨none, some 1, .box 27 (.tmp 0)⟩,
  ⟨none, some 2, .assign (.const (.bool false))⟩])
 (.seq (.reg [⟨none, some 3, .assign (.const (.pointer none))⟩])
  (.seq (.reg [⟨none, some 5, .move (.tmp 3)⟩,
    ⟨none, some 6, .load 27 (.tmp 1)⟩,
    ⟨none, some 7, .call { callee := (.value (.func 18)), args := #[(.tmp 5), (.tmp 6)], argTypes := #[55, 27] }⟩,
    ⟨none, some 4, .alloc 57⟩,
    ⟨none, none, .store 57 (.tmp 4) (.tmp 7)⟩])
   (.seq (.reg [⟨none, some 8, .fieldAddr 57 (.tmp 4) 0⟩,
     ⟨none, some 9, .load 32 (.tmp 8)⟩,
     ⟨none, some 10, .binOp .eql 32 (.tmp 9) (.const (.int .i64 1)) 32⟩,
     ⟨none, some 11, .move (.tmp 10)⟩,
     ⟨some (some 11, true), some 12, .load 57 (.tmp 4)⟩,
     ⟨some (some 11, true), some 13, .build 60 #[(0, (.const (.int .i64 1)))]⟩,
     ⟨some (some 11, true), some 14, .call { callee := (.value (.func 19)), args := #[(.tmp 12), (.tmp 13)], argTypes := #[60, 60] }⟩,
     ⟨none, some 15, .pick (.tmp 11) (.tmp 14) (.const (.bool false))⟩,
     ⟨none, some 16, .move (.tmp 15)⟩,
     ⟨some (some 16, true), some 17, .move (.tmp 3)⟩,
     ⟨some (some 16, true), some 18, .call { callee := (.value (.func 20)), args := #[(.tmp 17)], argTypes := #[55] }⟩,
     ⟨some (some 16, true), some 19, .binOp .eql 29 (.tmp 18) (.const (.pointer none)) 29⟩,
     ⟨none, some 20, .pick (.tmp 16) (.tmp 19) (.const (.bool false))⟩,
     ⟨none, some 21, .move (.tmp 20)⟩,
     ⟨some (some 21, true), some 22, .call { callee := (.value (.func 21)), args := #[], argTypes := #[] }⟩,
     ⟨none, some 23, .pick (.tmp 21) (.tmp 22) (.const (.bool false))⟩,
     ⟨none, some 2, .assign (.tmp 23)⟩])
    (.ret))))
theorem com4 : com Tryz.prog 24 ((Tryz.f4.body).getD .skip) = g4 := by kernel_rfl
theorem enter4 {args : List Value} {h : Heap} {R : Value → Heap → Prop} (hN : args.length ≤ 24) (q : AWC Tryz.prog 24 g4 (RetQ Tryz.prog [.tmp 2] R) (frOf args) h) : ACall Tryz.prog 4 args h R :=
  C_call Tryz.func4 (by kernel_rfl) com4 (by kernel_rfl) (by kernel_rfl) hN q

/-- bindle/bindlelaw28.fresh -/
noncomputable def g5 : AC :=
 .seq (.reg [⟨none, some 0, .assign (.const (.pointer none))⟩,
  ⟨none, some 1, .assign (.const (.pointer none))⟩])
 (.seq (.reg [⟨none, some 5, .call { callee := (.value (.func 22)), args := #[(.const (.int .i64 60000))], argTypes := #[3] }⟩,
   ⟨none, some 2, .assign (.tmp 5)⟩])
  (.seq (.seq (.reg [⟨none, some 6, .move (.tmp 2)⟩,
     ⟨none, some 7, .call { callee := (.value (.func 13)), args := #[(.tmp 6), (.const (.string { data := #[97] }))], argTypes := #[29, 9] }⟩,
     ⟨none, some 8, .binOp .neq 32 (.tmp 7) (.const (.int .i64 0)) 32⟩])
    (.cond (.tmp 8) (.seq (.reg [⟨none, some 9, .move (.tmp 2)⟩,
       ⟨none, some 0, .assign (.const (.pointer none))⟩,
       ⟨none, some 1, .assign (.tmp 9)⟩])
      (.ret))
     (.skip)))
   (.seq (.reg [⟨none, some 11, .move (.tmp 2)⟩,
     ⟨none, some 12, .call { callee := (.value (.func 12)), args := #[(.tmp 11), (.const (.string { data := #[97] }))], argTypes := #[29, 9] }⟩,
     ⟨none, some 10, .move (.tmp 12)⟩,
     ⟨none, some 13, .extract (.tmp 10) 0⟩,
     ⟨none, some 14, .extract (.tmp 10) 1⟩,
     ⟨none, some 3, .assign (.tmp 13)⟩,
     ⟨none, some 4, .assign (.tmp 14)⟩])
    (.seq (.seq (.reg [⟨none, some 15, .move (.tmp 4)⟩,
       ⟨none, some 16, .binOp .neq 32 (.tmp 15) (.const (.int .i64 0)) 32⟩])
      (.cond (.tmp 16) (.seq (.reg [⟨none, some 17, .move (.tmp 2)⟩,
         ⟨none, some 0, .assign (.const (.pointer none))⟩,
         ⟨none, some 1, .assign (.tmp 17)⟩])
        (.ret))
       (.skip)))
     (.seq (.reg [⟨none, some 18, .move (.tmp 3)⟩,
       ⟨none, some 19, .move (.tmp 2)⟩,
       ⟨none, some 0, .assign (.tmp 18)⟩,
       ⟨none, some 1, .assign (.tmp 19)⟩])
      (.ret))))))
theorem com5 : com Tryz.prog 20 ((Tryz.f5.body).getD .skip) = g5 := by kernel_rfl
theorem enter5 {args : List Value} {h : Heap} {R : Value → Heap → Prop} (hN : args.length ≤ 20) (q : AWC Tryz.prog 20 g5 (RetQ Tryz.prog [.tmp 0, .tmp 1] R) (frOf args) h) : ACall Tryz.prog 5 args h R :=
  C_call Tryz.func5 (by kernel_rfl) com5 (by kernel_rfl) (by kernel_rfl) hN q

/-- ( *bindle/archive.Archive).Close -/
noncomputable def g6 : AC :=
 .seq (.reg [⟨none, some 2, .assign (.const (.int .i64 0))⟩])
 (.seq (.seq (.reg [⟨none, some 5, .move (.tmp 0)⟩,
    ⟨none, some 6, .call { callee := (.value (.func 23)), args := #[(.tmp 5)], argTypes := #[28] }⟩,
    ⟨none, some 3, .assign (.tmp 6)⟩])
   (.seq (.reg [⟨none, some 7, .move (.tmp 3)⟩,
     ⟨none, some 8, .binOp .neq 32 (.tmp 7) (.const (.int .i64 0)) 32⟩])
    (.cond (.tmp 8) (.seq (.reg [⟨none, some 9, .move (.tmp 3)⟩,
       ⟨none, some 2, .assign (.tmp 9)⟩])
      (.ret))
     (.skip))))
  (.seq (.seq (.reg [⟨none, some 10, .move (.tmp 0)⟩,
     ⟨none, some 11, .nilCheck (.tmp 10)⟩,
     ⟨none, some 12, .fieldAddr 69 (.tmp 11) 3⟩,
     ⟨none, some 13, .load 67 (.tmp 12)⟩,
     ⟨none, some 14, .binOp .neq 67 (.tmp 13) (.const (.pointer none)) 67⟩])
    (.cond (.tmp 14) (.seq (.reg [⟨none, some 2, .assign (.const (.int .i64 8))⟩])
      (.ret))
     (.skip)))
   (.seq (.reg [⟨none, some 15, .move (.tmp 0)⟩,
     ⟨none, some 16, .call { callee := (.value (.func 24)), args := #[(.tmp 15)], argTypes := #[28] }⟩,
     ⟨none, some 4, .assign (.tmp 16)⟩])
    (.seq (.reg [⟨none, some 17, .move (.tmp 0)⟩,
      ⟨none, some 18, .nilCheck (.tmp 17)⟩,
      ⟨none, some 19, .fieldAddr 69 (.tmp 18) 4⟩,
      ⟨none, none, .store 4 (.tmp 19) (.const (.bool false))⟩])
     (.seq (.reg [⟨none, some 20, .move (.tmp 4)⟩,
       ⟨none, some 2, .assign (.tmp 20)⟩])
      (.ret))))))
theorem com6 : com Tryz.prog 21 ((Tryz.f6.body).getD .skip) = g6 := by kernel_rfl
theorem enter6 {args : List Value} {h : Heap} {R : Value → Heap → Prop} (hN : args.length ≤ 21) (q : AWC Tryz.prog 21 g6 (RetQ Tryz.prog [.tmp 2] R) (frOf args) h) : ACall Tryz.prog 6 args h R :=
  C_call Tryz.func6 (by kernel_rfl) com6 (by kernel_rfl) (by kernel_rfl) hN q

/-- ( *bindle/crashfs.FS).Calls -/
noncomputable def g7 : AC :=
 .seq (.reg [⟨none, some 2, .assign (.const (.int .i64 0))⟩,
  ⟨none, some 3, .assign (.const (.int .i64 0))⟩])
 (.seq (.seq (.reg [⟨none, some 4, .move (.tmp 0)⟩,
    ⟨none, some 5, .binOp .eql 29 (.tmp 4) (.const (.pointer none)) 29⟩])
   (.cond (.tmp 5) (.seq (.reg [⟨none, some 2, .assign (.const (.int .i64 0))⟩,
      ⟨none, some 3, .assign (.const (.int .i64 0))⟩])
     (.ret))
    (.skip)))
  (.seq (.reg [⟨none, some 6, .move (.tmp 0)⟩,
    ⟨none, some 7, .nilCheck (.tmp 6)⟩,
    ⟨none, some 8, .fieldAddr 77 (.tmp 7) 3⟩,
    ⟨none, some 9, .load 3 (.tmp 8)⟩,
    ⟨none, some 10, .move (.tmp 0)⟩,
    ⟨none, some 11, .nilCheck (.tmp 10)⟩,
    ⟨none, some 12, .fieldAddr 77 (.tmp 11) 4⟩,
    ⟨none, some 13, .load 3 (.tmp 12)⟩,
    ⟨none, some 2, .assign (.tmp 9)⟩,
    ⟨none, some 3, .assign (.tmp 13)⟩])
   (.ret)))
theorem com7 : com Tryz.prog 14 ((Tryz.f7.body).getD .skip) = g7 := by kernel_rfl
theorem enter7 {args : List Value} {h : Heap} {R : Value → Heap → Prop} (hN : args.length ≤ 14) (q : AWC Tryz.prog 14 g7 (RetQ Tryz.prog [.tmp 2, .tmp 3] R) (frOf args) h) : ACall Tryz.prog 7 args h R :=
  C_call Tryz.func7 (by kernel_rfl) com7 (by kernel_rfl) (by kernel_rfl) hN q

/-- bindle/bindlelaw28.change -/
noncomputable def g8 : AC :=
 .seq (.reg [⟨none, some 3, .box 27 (.tmp 1)⟩,
  ⟨none, some 4, .assign (.const (.int .i64 0))⟩])
 (.seq (.seq (.reg [⟨none, some 5, .fieldAddr 27 (.tmp 3) 0⟩,
    ⟨none, some 6, .load 3 (.tmp 5)⟩])
   (.block 0 (.seq (.reg [⟨none, some 8, .binOp .eql 3 (.tmp 6) (.const (.int .i64 3)) 3⟩,
      ⟨none, some 7, .assign (.tmp 8)⟩])
     (.cond (.tmp 7) (.seq (.reg [⟨none, some 9, .move (.tmp 0)⟩,
        ⟨none, some 10, .fieldAddr 27 (.tmp 3) 1⟩,
        ⟨none, some 11, .load 9 (.tmp 10)⟩,
        ⟨none, some 12, .fieldAddr 27 (.tmp 3) 2⟩,
        ⟨none, some 13, .load 22 (.tmp 12)⟩,
        ⟨none, some 14, .fieldAddr 27 (.tmp 3) 3⟩,
        ⟨none, some 15, .load 3 (.tmp 14)⟩,
        ⟨none, some 16, .call { callee := (.value (.func 25)), args := #[(.tmp 9), (.tmp 11), (.tmp 13), (.tmp 15)], argTypes := #[28, 9, 22, 3] }⟩,
        ⟨none, some 4, .assign (.tmp 16)⟩])
       (.ret))
      (.seq (.reg [⟨none, some 18, .binOp .eql 3 (.tmp 6) (.const (.int .i64 4)) 3⟩,
        ⟨none, some 17, .assign (.tmp 18)⟩])
       (.cond (.tmp 17) (.seq (.reg [⟨none, some 19, .move (.tmp 0)⟩,
          ⟨none, some 20, .fieldAddr 27 (.tmp 3) 1⟩,
          ⟨none, some 21, .load 9 (.tmp 20)⟩,
          ⟨none, some 22, .call { callee := (.value (.func 26)), args := #[(.tmp 19), (.tmp 21)], argTypes := #[28, 9] }⟩,
          ⟨none, some 4, .assign (.tmp 22)⟩])
         (.ret))
        (.seq (.reg [⟨none, some 24, .binOp .eql 3 (.tmp 6) (.const (.int .i64 5)) 3⟩,
          ⟨none, some 23, .assign (.tmp 24)⟩])
         (.cond (.tmp 23) (.seq (.reg [⟨none, some 25, .move (.tmp 0)⟩,
            ⟨none, some 26, .fieldAddr 27 (.tmp 3) 2⟩,
            ⟨none, some 27, .load 22 (.tmp 26)⟩,
            ⟨none, some 28, .call { callee := (.value (.func 27)), args := #[(.tmp 25), (.tmp 27)], argTypes := #[28, 22] }⟩,
            ⟨none, some 4, .assign (.tmp 28)⟩])
           (.ret))
          (.seq (.reg [⟨none, some 30, .binOp .eql 3 (.tmp 6) (.const (.int .i64 6)) 3⟩,
            ⟨none, some 29, .assign (.tmp 30)⟩])
           (.cond (.tmp 29) (.seq (.reg [⟨none, some 31, .move (.tmp 0)⟩,
              ⟨none, some 32, .call { callee := (.value (.func 28)), args := #[(.tmp 31)], argTypes := #[28] }⟩,
              ⟨none, some 4, .assign (.tmp 32)⟩])
             (.ret))
            (.seq (.reg [⟨none, some 34, .binOp .eql 3 (.tmp 6) (.const (.int .i64 7)) 3⟩,
              ⟨none, some 33, .assign (.tmp 34)⟩])
             (.cond (.tmp 33) (.seq (.reg [⟨none, some 35, .move (.tmp 0)⟩,
                ⟨none, some 36, .call { callee := (.value (.func 29)), args := #[(.tmp 35)], argTypes := #[28] }⟩,
                ⟨none, some 4, .assign (.tmp 36)⟩])
               (.ret))
              (.seq (.reg [⟨none, some 38, .binOp .eql 3 (.tmp 6) (.const (.int .i64 11)) 3⟩,
                ⟨none, some 37, .assign (.tmp 38)⟩])
               (.cond (.tmp 37) (.seq (.reg [⟨none, some 39, .move (.tmp 0)⟩,
                  ⟨none, some 40, .fieldAddr 27 (.tmp 3) 1⟩,
                  ⟨none, some 41, .load 9 (.tmp 40)⟩,
                  ⟨none, some 42, .call { callee := (.value (.func 30)), args := #[(.tmp 39), (.tmp 41)], argTypes := #[28, 9] }⟩,
                  ⟨none, some 4, .assign (.tmp 42)⟩])
                 (.ret))
                (.seq (.reg [⟨none, some 44, .binOp .eql 3 (.tmp 6) (.const (.int .i64 12)) 3⟩,
                  ⟨none, some 43, .assign (.tmp 44)⟩])
                 (.cond (.tmp 43) (.seq (.reg [⟨none, some 45, .move (.tmp 0)⟩,
                    ⟨none, some 46, .call { callee := (.value (.func 24)), args := #[(.tmp 45)], argTypes := #[28] }⟩,
                    ⟨none, some 4, .assign (.tmp 46)⟩])
                   (.ret))
                  (.seq (.reg [⟨none, some 48, .binOp .eql 3 (.tmp 6) (.const (.int .i64 13)) 3⟩,
                    ⟨none, some 47, .assign (.tmp 48)⟩])
                   (.cond (.tmp 47) (.seq (.reg [⟨none, some 49, .move (.tmp 0)⟩,
                      ⟨none, some 50, .fieldAddr 27 (.tmp 3) 3⟩,
                      ⟨none, some 51, .load 3 (.tmp 50)⟩,
                      ⟨none, some 52, .call { callee := (.value (.func 31)), args := #[(.tmp 49), (.tmp 51)], argTypes := #[28, 3] }⟩,
                      ⟨none, some 4, .assign (.tmp 52)⟩])
                     (.ret))
                    (.seq (.reg [⟨none, some 54, .binOp .eql 3 (.tmp 6) (.const (.int .i64 14)) 3⟩,
                      ⟨none, some 53, .assign (.tmp 54)⟩])
                     (.cond (.tmp 53) (.seq (.reg [⟨none, some 55, .move (.tmp 0)⟩,
                        ⟨none, some 56, .call { callee := (.value (.func 6)), args := #[(.tmp 55)], argTypes := #[28] }⟩,
                        ⟨none, some 4, .assign (.tmp 56)⟩])
                       (.ret))
                      (.skip)))))))))))))))))))))
  (.seq (.reg [⟨none, some 4, .assign (.const (.int .i64 1))⟩])
   (.ret)))
theorem com8 : com Tryz.prog 57 ((Tryz.f8.body).getD .skip) = g8 := by kernel_rfl
theorem enter8 {args : List Value} {h : Heap} {R : Value → Heap → Prop} (hN : args.length ≤ 57) (q : AWC Tryz.prog 57 g8 (RetQ Tryz.prog [.tmp 4] R) (frOf args) h) : ACall Tryz.prog 8 args h R :=
  C_call Tryz.func8 (by kernel_rfl) com8 (by kernel_rfl) (by kernel_rfl) hN q

/-- ( *bindle/archive.Archive).Get -/
noncomputable def g9 : AC :=
 .seq (.reg [⟨none, some 4, .assign (.const (.slice none 0 0))⟩,
  ⟨none, some 5, .assign (.const (.int .i64 0))⟩])
 (.seq (.reg [⟨none, some 9, .move (.tmp 0)⟩,
   ⟨none, some 10, .move (.tmp 1)⟩,
   ⟨none, some 11, .call { callee := (.value (.func 10)), args := #[(.tmp 9), (.tmp 10)], argTypes := #[28, 9] }⟩,
   ⟨none, some 8, .move (.tmp 11)⟩,
   ⟨none, some 12, .extract (.tmp 8) 0⟩,
   ⟨none, some 13, .extract (.tmp 8) 1⟩,
   ⟨none, some 6, .alloc 41⟩,
   ⟨none, none, .store 41 (.tmp 6) (.tmp 12)⟩,
   ⟨none, some 7, .assign (.tmp 13)⟩])
  (.seq (.seq (.reg [⟨none, some 14, .move (.tmp 7)⟩,
     ⟨none, some 15, .binOp .neq 32 (.tmp 14) (.const (.int .i64 0)) 32⟩])
    (.cond (.tmp 15) (.seq (.reg [⟨none, some 16, .move (.tmp 7)⟩,
       ⟨none, some 4, .assign (.const (.slice none 0 0))⟩,
       ⟨none, some 5, .assign (.tmp 16)⟩])
      (.ret))
     (.skip)))
   (.seq (.reg [⟨none, some 17, .move (.tmp 0)⟩,
     ⟨none, some 18, .load 41 (.tmp 6)⟩,
     ⟨none, some 19, .call { callee := (.value (.func 32)), args := #[(.tmp 17), (.tmp 18)], argTypes := #[28, 41] }⟩,
     ⟨none, some 20, .extract (.tmp 19) 0⟩,
     ⟨none, some 21, .extract (.tmp 19) 1⟩,
     ⟨none, some 4, .assign (.tmp 20)⟩,
     ⟨none, some 5, .assign (.tmp 21)⟩])
    (.ret))))
theorem com9 : com Tryz.prog 22 ((Tryz.f9.body).getD .skip) = g9 := by kernel_rfl
theorem enter9 {args : List Value} {h : Heap} {R : Value → Heap → Prop} (hN : args.length ≤ 22) (q : AWC Tryz.prog 22 g9 (RetQ Tryz.prog [.tmp 4, .tmp 5] R) (frOf args) h) : ACall Tryz.prog 9 args h R :=
  C_call Tryz.func9 (by kernel_rfl) com9 (by kernel_rfl) (by kernel_rfl) hN q

/-- ( *bindle/archive.Archive).Stat -/
noncomputable def g10 : AC :=
 .seq (.reg [⟨none, some 4, .alloc 41⟩,
  ⟨none, some 5, .assign (.const (.int .i64 0))⟩])
 (.seq (.seq (.reg [⟨none, some 9, .move (.tmp 0)⟩,
    ⟨none, some 10, .call { callee := (.value (.func 23)), args := #[(.tmp 9)], argTypes := #[28] }⟩,
    ⟨none, some 6, .assign (.tmp 10)⟩])
   (.seq (.reg [⟨none, some 11, .move (.tmp 6)⟩,
     ⟨none, some 12, .binOp .neq 32 (.tmp 11) (.const (.int .i64 0)) 32⟩])
    (.cond (.tmp 12) (.seq (.reg [⟨none, some 13, .build 41 #[]⟩,
       ⟨none, some 14, .move (.tmp 6)⟩,
       ⟨none, none, .store 41 (.tmp 4) (.tmp 13)⟩,
       ⟨none, some 5, .assign (.tmp 14)⟩])
      (.ret))
     (.skip))))
  (.seq (.reg [⟨none, some 16, .move (.tmp 0)⟩,
    ⟨none, some 17, .nilCheck (.tmp 16)⟩,
    ⟨none, some 18, .fieldAddr 69 (.tmp 17) 2⟩,
    ⟨none, some 19, .load 66 (.tmp 18)⟩,
    ⟨none, some 20, .move (.tmp 1)⟩,
    ⟨none, some 21, .call { callee := (.value (.func 33)), args := #[(.tmp 19), (.tmp 20)], argTypes := #[66, 9] }⟩,
    ⟨none, some 15, .move (.tmp 21)⟩,
    ⟨none, some 22, .extract (.tmp 15) 0⟩,
    ⟨none, some 23, .extract (.tmp 15) 1⟩,
    ⟨none, some 7, .alloc 41⟩,
    ⟨none, none, .store 41 (.tmp 7) (.tmp 22)⟩,
    ⟨none, some 8, .assign (.tmp 23)⟩])
   (.seq (.seq (.reg [⟨none, some 24, .move (.tmp 8)⟩,
      ⟨none, some 25, .unOp .not 4 (.tmp 24)⟩])
     (.cond (.tmp 25) (.seq (.reg [⟨none, some 26, .build 41 #[]⟩,
        ⟨none, none, .store 41 (.tmp 4) (.tmp 26)⟩,
        ⟨none, some 5, .assign (.const (.int .i64 7))⟩])
       (.ret))
      (.skip)))
    (.seq (.reg [⟨none, some 27, .load 41 (.tmp 7)⟩,
      ⟨none, none, .store 41 (.tmp 4) (.tmp 27)⟩,
      ⟨none, some 5, .assign (.const (.int .i64 0))⟩])
     (.ret)))))
theorem com10 : com Tryz.prog 28 ((Tryz.f10.body).getD .skip) = g10 := by kernel_rfl
theorem enter10 {args : List Value} {h : Heap} {R : Value → Heap → Prop} (hN : args.length ≤ 28) (q : AWC Tryz.prog 28 g10 (RetQ Tryz.prog [.cell 4 41, .tmp 5] R) (frOf args) h) : ACall Tryz.prog 10 args h R :=
  C_call Tryz.func10 (by kernel_rfl) com10 (by kernel_rfl) (by kernel_rfl) hN q

/-- ( *bindle/archive.Archive).Files -/
noncomputable def g11 : AC :=
 .seq (.reg [⟨none, some 1, .box 28 (.tmp 0)⟩,
  ⟨none, some 2, .alloc 44⟩,
  ⟨none, some 3, .alloc 32⟩])
 (.seq (.seq (.reg [⟨none, some 9, .load 28 (.tmp 1)⟩,
    ⟨none, some 10, .call { callee := (.value (.func 23)), args := #[(.tmp 9)], argTypes := #[28] }⟩,
    ⟨none, some 4, .assign (.tmp 10)⟩])
   (.seq (.reg [⟨none, some 11, .move (.tmp 4)⟩,
     ⟨none, some 12, .binOp .neq 32 (.tmp 11) (.const (.int .i64 0)) 32⟩])
    (.cond (.tmp 12) (.seq (.reg [⟨none, some 13, .move (.tmp 4)⟩,
       ⟨none, none, .store 44 (.tmp 2) (.const (.slice none 0 0))⟩,
       ⟨none, none, .store 32 (.tmp 3) (.tmp 13)⟩])
      (.ret))
     (.skip))))
  (.seq (.reg [⟨none, some 5, .alloc 44⟩])
   (.seq (.seq (.reg [⟨none, some 14, .load 28 (.tmp 1)⟩,
      ⟨none, some 15, .call { callee := (.value (.func 34)), args := #[(.tmp 14), (.const (.string { data := #[] }))], argTypes := #[28, 9] }⟩])
     (.block 0 (.range (.tmp 15) #[16] (rcode (Tryz.f11.body.getD .skip) 0).1 (rcode (Tryz.f11.body.getD .skip) 0).2 (.reg [⟨none, some 6, .alloc 41⟩,
        ⟨none, none, .store 41 (.tmp 6) (.tmp 16)⟩])
       (.block 1 (.seq (.reg [⟨none, some 18, .load 28 (.tmp 1)⟩,
          ⟨none, some 19, .load 41 (.tmp 6)⟩,
          ⟨none, some 20, .call { callee := (.value (.func 32)), args := #[(.tmp 18), (.tmp 19)], argTypes := #[28, 41] }⟩,
          ⟨none, some 17, .move (.tmp 20)⟩,
          ⟨none, some 21, .extract (.tmp 17) 0⟩,
          ⟨none, some 22, .extract (.tmp 17) 1⟩,
          ⟨none, some 7, .assign (.tmp 21)⟩,
          ⟨none, some 8, .assign (.tmp 22)⟩])
         (.seq (.seq (.reg [⟨none, some 23, .move (.tmp 8)⟩,
            ⟨none, some 24, .binOp .neq 32 (.tmp 23) (.const (.int .i64 0)) 32⟩])
           (.cond (.tmp 24) (.seq (.reg [⟨none, some 25, .move (.tmp 8)⟩,
              ⟨none, none, .store 44 (.tmp 2) (.const (.slice none 0 0))⟩,
              ⟨none, none, .store 32 (.tmp 3) (.tmp 25)⟩])
             (.ret))
            (.skip)))
          (.reg [⟨none, some 26, .load 44 (.tmp 5)⟩,
           ⟨none, some 27, .fieldAddr 41 (.tmp 6) 0⟩,
           ⟨none, some 28, .load 9 (.tmp 27)⟩,
           ⟨none, some 29, .move (.tmp 7)⟩,
           ⟨none, some 30, .build 89 #[(0, (.tmp 28)), (1, (.tmp 29))]⟩,
           ⟨none, some 31, .buildSlice 44 1 #[(0, (.tmp 30))]⟩,
           ⟨none, some 32, .call { callee := (.builtin .append), args := #[(.tmp 26), (.tmp 31)], argTypes := #[44, 44] }⟩,
           ⟨none, none, .store 44 (.tmp 5) (.tmp 32)⟩])))))))
    (.seq (.reg [⟨none, some 33, .load 44 (.tmp 5)⟩,
      ⟨none, none, .store 44 (.tmp 2) (.tmp 33)⟩,
      ⟨none, none, .store 32 (.tmp 3) (.const (.int .i64 0))⟩])
     (.ret)))))
theorem com11 : com Tryz.prog 34 ((Tryz.f11.body).getD .skip) = g11 := by kernel_rfl
theorem enter11 {args : List Value} {h : Heap} {R : Value → Heap → Prop} (hN : args.length ≤ 34) (q : AWC Tryz.prog 34 g11 (RetQ Tryz.prog [.cell 2 44, .cell 3 32] R) (frOf args) h) : ACall Tryz.prog 11 args h R :=
  C_call Tryz.func11 (by kernel_rfl) com11 (by kernel_rfl) (by kernel_rfl) hN q

/-- bindle/archive.Open -/
noncomputable def g12 : AC :=
 .seq (.reg [⟨none, some 4, .assign (.const (.pointer none))⟩,
  ⟨none, some 5, .assign (.const (.int .i64 0))⟩])
 (.seq (.reg [⟨none, some 11, .call { callee := (.value (.func 35)), args := #[], argTypes := #[] }⟩,
   ⟨none, some 12, .build 69 #[(0, (.tmp 11)), (4, (.const (.bool true)))]⟩,
   ⟨none, some 13, .box 69 (.tmp 12)⟩,
   ⟨none, some 6, .assign (.tmp 13)⟩])
  (.seq (.reg [⟨none, some 15, .move (.tmp 0)⟩,
    ⟨none, some 16, .move (.tmp 6)⟩,
    ⟨none, some 17, .nilCheck (.tmp 16)⟩,
    ⟨none, some 18, .fieldAddr 69 (.tmp 17) 0⟩,
    ⟨none, some 19, .move (.tmp 1)⟩,
    ⟨none, some 20, .call { callee := (.value (.func 36)), args := #[(.tmp 15), (.tmp 18), (.tmp 19)], argTypes := #[29, 94, 9] }⟩,
    ⟨none, some 14, .move (.tmp 20)⟩,
    ⟨none, some 21, .extract (.tmp 14) 0⟩,
    ⟨none, some 22, .extract (.tmp 14) 1⟩,
    ⟨none, some 23, .extract (.tmp 14) 2⟩,
    ⟨none, some 7, .assign (.tmp 21)⟩,
    ⟨none, some 8, .assign (.tmp 22)⟩,
    ⟨none, some 9, .assign (.tmp 23)⟩])
   (.seq (.seq (.reg [⟨none, some 24, .move (.tmp 9)⟩,
      ⟨none, some 25, .binOp .neq 32 (.tmp 24) (.const (.int .i64 0)) 32⟩])
     (.cond (.tmp 25) (.seq (.reg [⟨none, some 26, .move (.tmp 9)⟩,
        ⟨none, some 4, .assign (.const (.pointer none))⟩,
        ⟨none, some 5, .assign (.tmp 26)⟩])
       (.ret))
      (.skip)))
    (.seq (.reg [⟨none, some 28, .move (.tmp 8)⟩,
      ⟨none, some 29, .call { callee := (.value (.func 37)), args := #[(.tmp 28)], argTypes := #[91] }⟩,
      ⟨none, some 27, .move (.tmp 29)⟩,
      ⟨none, some 30, .extract (.tmp 27) 0⟩,
      ⟨none, some 31, .extract (.tmp 27) 1⟩,
      ⟨none, some 10, .assign (.tmp 30)⟩,
      ⟨none, some 9, .assign (.tmp 31)⟩])
     (.seq (.seq (.reg [⟨none, some 32, .move (.tmp 9)⟩,
        ⟨none, some 33, .binOp .neq 32 (.tmp 32) (.const (.int .i64 0)) 32⟩])
       (.cond (.tmp 33) (.seq (.reg [⟨none, some 34, .move (.tmp 9)⟩,
          ⟨none, some 4, .assign (.const (.pointer none))⟩,
          ⟨none, some 5, .assign (.tmp 34)⟩])
         (.ret))
        (.skip)))
      (.seq (.reg [⟨none, some 35, .move (.tmp 6)⟩,
        ⟨none, some 36, .move (.tmp 6)⟩,
        ⟨none, some 37, .move (.tmp 7)⟩,
        ⟨none, some 38, .move (.tmp 10)⟩,
        ⟨none, some 39, .nilCheck (.tmp 35)⟩,
        ⟨none, some 40, .fieldAddr 69 (.tmp 39) 1⟩,
        ⟨none, none, .store 65 (.tmp 40) (.tmp 37)⟩,
        ⟨none, some 41, .nilCheck (.tmp 36)⟩,
        ⟨none, some 42, .fieldAddr 69 (.tmp 41) 2⟩,
        ⟨none, none, .store 66 (.tmp 42) (.tmp 38)⟩])
       (.seq (.reg [⟨none, some 43, .move (.tmp 6)⟩,
         ⟨none, some 4, .assign (.tmp 43)⟩,
         ⟨none, some 5, .assign (.const (.int .i64 0))⟩])
        (.ret))))))))
theorem com12 : com Tryz.prog 44 ((Tryz.f12.body).getD .skip) = g12 := by kernel_rfl
theorem enter12 {args : List Value} {h : Heap} {R : Value → Heap → Prop} (hN : args.length ≤ 44) (q : AWC Tryz.prog 44 g12 (RetQ Tryz.prog [.tmp 4, .tmp 5] R) (frOf args) h) : ACall Tryz.prog 12 args h R :=
  C_call Tryz.func12 (by kernel_rfl) com12 (by kernel_rfl) (by kernel_rfl) hN q

/-- bindle/archive.Create -/
noncomputable def g13 : AC :=
 .seq (.reg [⟨none, some 4, .assign (.const (.int .i64 0))⟩])
 (.seq (.reg [⟨none, some 6, .call { callee := (.value (.func 35)), args := #[], argTypes := #[] }⟩,
   ⟨none, some 5, .alloc 64⟩,
   ⟨none, none, .store 64 (.tmp 5) (.tmp 6)⟩])
  (.seq (.reg [⟨none, some 7, .move (.tmp 0)⟩,
    ⟨none, some 8, .move (.tmp 1)⟩,
    ⟨none, some 9, .call { callee := (.value (.func 38)), args := #[(.tmp 7), (.tmp 5), (.tmp 8)], argTypes := #[29, 94, 9] }⟩,
    ⟨none, some 4, .assign (.tmp 9)⟩])
   (.ret)))
theorem com13 : com Tryz.prog 10 ((Tryz.f13.body).getD .skip) = g13 := by kernel_rfl
theorem enter13 {args : List Value} {h : Heap} {R : Value → Heap → Prop} (hN : args.length ≤ 10) (q : AWC Tryz.prog 10 g13 (RetQ Tryz.prog [.tmp 4] R) (frOf args) h) : ACall Tryz.prog 13 args h R :=
  C_call Tryz.func13 (by kernel_rfl) com13 (by kernel_rfl) (by kernel_rfl) hN q

/-- ( *bindle/archive.Archive).Names -/
noncomputable def g14 : AC :=
 .seq (.reg [⟨none, some 4, .assign (.const (.slice none 0 0))⟩])
 (.seq (.reg [⟨none, some 5, .alloc 50⟩])
  (.seq (.seq (.reg [⟨none, some 7, .move (.tmp 0)⟩,
     ⟨none, some 8, .move (.tmp 1)⟩,
     ⟨none, some 9, .call { callee := (.value (.func 34)), args := #[(.tmp 7), (.tmp 8)], argTypes := #[28, 9] }⟩])
    (.block 0 (.range (.tmp 9) #[10] (rcode (Tryz.f14.body.getD .skip) 0).1 (rcode (Tryz.f14.body.getD .skip) 0).2 (.reg [⟨none, some 6, .alloc 41⟩,
       ⟨none, none, .store 41 (.tmp 6) (.tmp 10)⟩])
      (.block 1 (.reg [⟨none, some 11, .load 50 (.tmp 5)⟩,
        ⟨none, some 12, .fieldAddr 41 (.tmp 6) 0⟩,
        ⟨none, some 13, .load 9 (.tmp 12)⟩,
        ⟨none, some 14, .buildSlice 50 1 #[(0, (.tmp 13))]⟩,
        ⟨none, some 15, .call { callee := (.builtin .append), args := #[(.tmp 11), (.tmp 14)], argTypes := #[50, 50] }⟩,
        ⟨none, none, .store 50 (.tmp 5) (.tmp 15)⟩])))))
   (.seq (.reg [⟨none, some 16, .load 50 (.tmp 5)⟩,
     ⟨none, some 4, .assign (.tmp 16)⟩])
    (.ret))))
theorem com14 : com Tryz.prog 17 ((Tryz.f14.body).getD .skip) = g14 := by kernel_rfl
theorem enter14 {args : List Value} {h : Heap} {R : Value → Heap → Prop} (hN : args.length ≤ 17) (q : AWC Tryz.prog 17 g14 (RetQ Tryz.prog [.tmp 4] R) (frOf args) h) : ACall Tryz.prog 14 args h R :=
  C_call Tryz.func14 (by kernel_rfl) com14 (by kernel_rfl) (by kernel_rfl) hN q

/-- ( *bindle/archive.Archive).Poisoned -/
noncomputable def g15 : AC :=
 .seq (.reg [⟨none, some 2, .assign (.const (.bool false))⟩])
 (.seq (.reg [⟨none, some 3, .move (.tmp 0)⟩,
   ⟨none, some 4, .call { callee := (.value (.func 23)), args := #[(.tmp 3)], argTypes := #[28] }⟩,
   ⟨none, some 5, .binOp .eql 32 (.tmp 4) (.const (.int .i64 0)) 32⟩,
   ⟨none, some 6, .move (.tmp 5)⟩,
   ⟨some (some 6, true), some 7, .move (.tmp 0)⟩,
   ⟨some (some 6, true), some 8, .nilCheck (.tmp 7)⟩,
   ⟨some (some 6, true), some 9, .fieldAddr 69 (.tmp 8) 1⟩,
   ⟨some (some 6, true), some 10, .load 65 (.tmp 9)⟩,
   ⟨some (some 6, true), some 11, .call { callee := (.value (.func 39)), args := #[(.tmp 10)], argTypes := #[65] }⟩,
   ⟨none, some 12, .pick (.tmp 6) (.tmp 11) (.const (.bool false))⟩,
   ⟨none, some 2, .assign (.tmp 12)⟩])
  (.ret))
theorem com15 : com Tryz.prog 13 ((Tryz.f15.body).getD .skip) = g15 := by kernel_rfl
theorem enter15 {args : List Value} {h : Heap} {R : Value → Heap → Prop} (hN : args.length ≤ 13) (q : AWC Tryz.prog 13 g15 (RetQ Tryz.prog [.tmp 2] R) (frOf args) h) : ACall Tryz.prog 15 args h R :=
  C_call Tryz.func15 (by kernel_rfl) com15 (by kernel_rfl) (by kernel_rfl) hN q

/-- ( *bindle/archive.Archive).End -/
noncomputable def g16 : AC :=
 .seq (.reg [⟨none, some 2, .assign (.const (.int .i64 0))⟩])
 (.seq (.seq (.reg [⟨none, some 3, .move (.tmp 0)⟩,
    ⟨none, some 4, .call { callee := (.value (.func 23)), args := #[(.tmp 3)], argTypes := #[28] }⟩,
    ⟨none, some 5, .binOp .neq 32 (.tmp 4) (.const (.int .i64 0)) 32⟩])
   (.cond (.tmp 5) (.seq (.reg [⟨none, some 2, .assign (.const (.int .i64 0))⟩])
     (.ret))
    (.skip)))
  (.seq (.reg [⟨none, some 6, .move (.tmp 0)⟩,
    ⟨none, some 7, .nilCheck (.tmp 6)⟩,
    ⟨none, some 8, .fieldAddr 69 (.tmp 7) 1⟩,
    ⟨none, some 9, .load 65 (.tmp 8)⟩,
    ⟨none, some 10, .call { callee := (.value (.func 40)), args := #[(.tmp 9)], argTypes := #[65] }⟩,
    ⟨none, some 2, .assign (.tmp 10)⟩])
   (.ret)))
theorem com16 : com Tryz.prog 11 ((Tryz.f16.body).getD .skip) = g16 := by kernel_rfl
theorem enter16 {args : List Value} {h : Heap} {R : Value → Heap → Prop} (hN : args.length ≤ 11) (q : AWC Tryz.prog 11 g16 (RetQ Tryz.prog [.tmp 2] R) (frOf args) h) : ACall Tryz.prog 16 args h R :=
  C_call Tryz.func16 (by kernel_rfl) com16 (by kernel_rfl) (by kernel_rfl) hN q

/-- bindle/bindlelaw28.lives -/
noncomputable def g17 : AC :=
 .seq (.reg [⟨none, some 0, .assign (.const (.bool false))⟩])
 (.seq (.reg [⟨none, some 4, .call { callee := (.value (.func 5)), args := #[], argTypes := #[] }⟩,
   ⟨none, some 3, .move (.tmp 4)⟩,
   ⟨none, some 5, .extract (.tmp 3) 0⟩,
   ⟨none, some 6, .extract (.tmp 3) 1⟩,
   ⟨none, some 1, .assign (.tmp 5)⟩,
   ⟨none, some 2, .assign (.tmp 6)⟩])
  (.seq (.reg [⟨none, some 7, .move (.tmp 1)⟩,
    ⟨none, some 8, .binOp .neq 28 (.tmp 7) (.const (.pointer none)) 28⟩,
    ⟨none, some 9, .move (.tmp 8)⟩,
    ⟨some (some 9, true), some 10, .move (.tmp 1)⟩,
    ⟨some (some 9, true), some 11, .buildSlice 22 3 #[(0, (.const (.int .u8 97))), (1, (.const (.int .u8 98))), (2, (.const (.int .u8 99)))]⟩,
    ⟨some (some 9, true), some 12, .convert 22 22 (.tmp 11)⟩,
    ⟨some (some 9, true), some 13, .call { callee := (.value (.func 25)), args := #[(.tmp 10), (.const (.string { data := #[97] })), (.tmp 12), (.const (.int .i64 0))], argTypes := #[28, 9, 22, 3] }⟩,
    ⟨some (some 9, true), some 14, .binOp .eql 32 (.tmp 13) (.const (.int .i64 0)) 32⟩,
    ⟨none, some 15, .pick (.tmp 9) (.tmp 14) (.const (.bool false))⟩,
    ⟨none, some 16, .move (.tmp 15)⟩,
    ⟨some (some 16, true), some 17, .move (.tmp 1)⟩,
    ⟨some (some 16, true), some 18, .call { callee := (.value (.func 16)), args := #[(.tmp 17)], argTypes := #[28] }⟩,
    ⟨some (some 16, true), some 19, .binOp .eql 3 (.tmp 18) (.const (.int .i64 1050)) 3⟩,
    ⟨none, some 20, .pick (.tmp 16) (.tmp 19) (.const (.bool false))⟩,
    ⟨none, some 0, .assign (.tmp 20)⟩])
   (.ret)))
theorem com17 : com Tryz.prog 21 ((Tryz.f17.body).getD .skip) = g17 := by kernel_rfl
theorem enter17 {args : List Value} {h : Heap} {R : Value → Heap → Prop} (hN : args.length ≤ 21) (q : AWC Tryz.prog 21 g17 (RetQ Tryz.prog [.tmp 0] R) (frOf args) h) : ACall Tryz.prog 17 args h R :=
  C_call Tryz.func17 (by kernel_rfl) com17 (by kernel_rfl) (by kernel_rfl) hN q

/-- ( *bindle/play.Stage).Step -/
noncomputable def g18 : AC :=
 .seq (.reg [⟨none, some 3, .box 27 (.tmp 1)⟩,
  ⟨none, some 4, .alloc 57⟩])
 (.seq (.seq (.reg [⟨none, some 10, .move (.tmp 0)⟩,
    ⟨none, some 11, .binOp .eql 55 (.tmp 10) (.const (.pointer none)) 55⟩])
   (.cond (.tmp 11) (.seq (.reg [⟨none, some 12, .build 57 #[(0, (.const (.int .i64 1)))]⟩,
      ⟨none, none, .store 57 (.tmp 4) (.tmp 12)⟩])
     (.ret))
    (.skip)))
  (.seq (.reg [⟨none, some 14, .move (.tmp 0)⟩,
    ⟨none, some 15, .nilCheck (.tmp 14)⟩,
    ⟨none, some 16, .fieldAddr 99 (.tmp 15) 0⟩,
    ⟨none, some 17, .load 29 (.tmp 16)⟩,
    ⟨none, some 18, .call { callee := (.value (.func 7)), args := #[(.tmp 17)], argTypes := #[29] }⟩,
    ⟨none, some 13, .move (.tmp 18)⟩,
    ⟨none, some 19, .extract (.tmp 13) 0⟩,
    ⟨none, some 20, .extract (.tmp 13) 1⟩,
    ⟨none, some 5, .assign (.tmp 19)⟩,
    ⟨none, some 6, .assign (.tmp 20)⟩])
   (.seq (.reg [⟨none, some 21, .move (.tmp 0)⟩,
     ⟨none, some 22, .load 27 (.tmp 3)⟩,
     ⟨none, some 23, .call { callee := (.value (.func 41)), args := #[(.tmp 21), (.tmp 22)], argTypes := #[55, 27] }⟩,
     ⟨none, some 7, .alloc 57⟩,
     ⟨none, none, .store 57 (.tmp 7) (.tmp 23)⟩])
    (.seq (.reg [⟨none, some 25, .move (.tmp 0)⟩,
      ⟨none, some 26, .nilCheck (.tmp 25)⟩,
      ⟨none, some 27, .fieldAddr 99 (.tmp 26) 0⟩,
      ⟨none, some 28, .load 29 (.tmp 27)⟩,
      ⟨none, some 29, .call { callee := (.value (.func 7)), args := #[(.tmp 28)], argTypes := #[29] }⟩,
      ⟨none, some 24, .move (.tmp 29)⟩,
      ⟨none, some 30, .extract (.tmp 24) 0⟩,
      ⟨none, some 31, .extract (.tmp 24) 1⟩,
      ⟨none, some 8, .assign (.tmp 30)⟩,
      ⟨none, some 9, .assign (.tmp 31)⟩])
     (.seq (.reg [⟨none, some 32, .move (.tmp 9)⟩,
       ⟨none, some 33, .move (.tmp 6)⟩,
       ⟨none, some 34, .binOp .gtr 3 (.tmp 32) (.tmp 33) 3⟩,
       ⟨none, some 35, .fieldAddr 57 (.tmp 7) 5⟩,
       ⟨none, none, .store 4 (.tmp 35) (.tmp 34)⟩])
      (.seq (.reg [⟨none, some 36, .move (.tmp 0)⟩,
        ⟨none, some 37, .nilCheck (.tmp 36)⟩,
        ⟨none, some 38, .fieldAddr 99 (.tmp 37) 2⟩,
        ⟨none, some 39, .load 28 (.tmp 38)⟩,
        ⟨none, some 40, .binOp .neq 28 (.tmp 39) (.const (.pointer none)) 28⟩,
        ⟨none, some 41, .move (.tmp 40)⟩,
        ⟨some (some 41, true), some 42, .move (.tmp 0)⟩,
        ⟨some (some 41, true), some 43, .nilCheck (.tmp 42)⟩,
        ⟨some (some 41, true), some 44, .fieldAddr 99 (.tmp 43) 2⟩,
        ⟨some (some 41, true), some 45, .load 28 (.tmp 44)⟩,
        ⟨some (some 41, true), some 46, .call { callee := (.value (.func 15)), args := #[(.tmp 45)], argTypes := #[28] }⟩,
        ⟨none, some 47, .pick (.tmp 41) (.tmp 46) (.const (.bool false))⟩,
        ⟨none, some 48, .fieldAddr 57 (.tmp 7) 6⟩,
        ⟨none, none, .store 4 (.tmp 48) (.tmp 47)⟩])
       (.seq (.reg [⟨none, some 49, .load 57 (.tmp 7)⟩,
         ⟨none, none, .store 57 (.tmp 4) (.tmp 49)⟩])
        (.ret))))))))
theorem com18 : com Tryz.prog 50 ((Tryz.f18.body).getD .skip) = g18 := by kernel_rfl
theorem enter18 {args : List Value} {h : Heap} {R : Value → Heap → Prop} (hN : args.length ≤ 50) (q : AWC Tryz.prog 50 g18 (RetQ Tryz.prog [.cell 4 57] R) (frOf args) h) : ACall Tryz.prog 18 args h R :=
  C_call Tryz.func18 (by kernel_rfl) com18 (by kernel_rfl) (by kernel_rfl) hN q

/-- bindle/bindleref25.Alike -/
noncomputable def g19 : AC :=
 .seq (.reg [⟨none, some 2, .box 60 (.tmp 0)⟩,
  ⟨none, some 3, .box 60 (.tmp 1)⟩,
  ⟨none, some 4, .assign (.const (.bool false))⟩])
 (.seq (.reg [⟨none, some 5, .fieldAddr 60 (.tmp 2) 0⟩,
   ⟨none, some 6, .load 32 (.tmp 5)⟩,
   ⟨none, some 7, .fieldAddr 60 (.tmp 3) 0⟩,
   ⟨none, some 8, .load 32 (.tmp 7)⟩,
   ⟨none, some 9, .binOp .eql 32 (.tmp 6) (.tmp 8) 32⟩,
   ⟨none, some 10, .move (.tmp 9)⟩,
   ⟨some (some 10, true), some 11, .fieldAddr 60 (.tmp 2) 1⟩,
   ⟨some (some 10, true), some 12, .load 22 (.tmp 11)⟩,
   ⟨some (some 10, true), some 13, .convert 22 9 (.tmp 12)⟩,
   ⟨some (some 10, true), some 14, .fieldAddr 60 (.tmp 3) 1⟩,
   ⟨some (some 10, true), some 15, .load 22 (.tmp 14)⟩,
   ⟨some (some 10, true), some 16, .convert 22 9 (.tmp 15)⟩,
   ⟨some (some 10, true), some 17, .binOp .eql 9 (.tmp 13) (.tmp 16) 9⟩,
   ⟨none, some 18, .pick (.tmp 10) (.tmp 17) (.const (.bool false))⟩,
   ⟨none, some 19, .move (.tmp 18)⟩,
   ⟨some (some 19, true), some 20, .fieldAddr 60 (.tmp 2) 2⟩,
   ⟨some (some 19, true), some 21, .load 3 (.tmp 20)⟩,
   ⟨some (some 19, true), some 22, .fieldAddr 60 (.tmp 3) 2⟩,
   ⟨some (some 19, true), some 23, .load 3 (.tmp 22)⟩,
   ⟨some (some 19, true), some 24, .binOp .eql 3 (.tmp 21) (.tmp 23) 3⟩,
   ⟨none, some 25, .pick (.tmp 19) (.tmp 24) (.const (.bool false))⟩,
   ⟨none, some 26, .move (.tmp 25)⟩,
   ⟨some (some 26, true), some 27, .fieldAddr 60 (.tmp 2) 3⟩,
   ⟨some (some 26, true), some 28, .load 50 (.tmp 27)⟩,
   ⟨some (some 26, true), some 29, .fieldAddr 60 (.tmp 3) 3⟩,
   ⟨some (some 26, true), some 30, .load 50 (.tmp 29)⟩,
   ⟨some (some 26, true), some 31, .call { callee := (.value (.func 42)), args := #[(.tmp 28), (.tmp 30)], argTypes := #[50, 50] }⟩,
   ⟨none, some 32, .pick (.tmp 26) (.tmp 31) (.const (.bool false))⟩,
   ⟨none, some 33, .move (.tmp 32)⟩,
   ⟨some (some 33, true), some 34, .fieldAddr 60 (.tmp 2) 4⟩,
   ⟨some (some 33, true), some 35, .load 44 (.tmp 34)⟩,
   ⟨some (some 33, true), some 36, .fieldAddr 60 (.tmp 3) 4⟩,
   ⟨some (some 33, true), some 37, .load 44 (.tmp 36)⟩,
   ⟨some (some 33, true), some 38, .call { callee := (.value (.func 43)), args := #[(.tmp 35), (.tmp 37)], argTypes := #[44, 44] }⟩,
   ⟨none, some 39, .pick (.tmp 33) (.tmp 38) (.const (.bool false))⟩,
   ⟨none, some 40, .move (.tmp 39)⟩,
   ⟨some (some 40, true), some 41, .fieldAddr 60 (.tmp 2) 5⟩,
   ⟨some (some 40, true), some 42, .load 4 (.tmp 41)⟩,
   ⟨some (some 40, true), some 43, .fieldAddr 60 (.tmp 3) 5⟩,
   ⟨some (some 40, true), some 44, .load 4 (.tmp 43)⟩,
   ⟨some (some 40, true), some 45, .binOp .eql 4 (.tmp 42) (.tmp 44) 4⟩,
   ⟨none, some 46, .pick (.tmp 40) (.tmp 45) (.const (.bool false))⟩,
   ⟨none, some 47, .move (.tmp 46)⟩,
   ⟨some (some 47, true), some 48, .fieldAddr 60 (.tmp 2) 6⟩,
   ⟨some (some 47, true), some 49, .load 4 (.tmp 48)⟩,
   ⟨some (some 47, true), some 50, .fieldAddr 60 (.tmp 3) 6⟩,
   ⟨some (some 47, true), some 51, .load 4 (.tmp 50)⟩,
   ⟨some (some 47, true), some 52, .binOp .eql 4 (.tmp 49) (.tmp 51) 4⟩,
   ⟨none, some 53, .pick (.tmp 47) (.tmp 52) (.const (.bool false))⟩,
   ⟨none, some 4, .assign (.tmp 53)⟩])
  (.ret))
theorem com19 : com Tryz.prog 54 ((Tryz.f19.body).getD .skip) = g19 := by kernel_rfl
theorem enter19 {args : List Value} {h : Heap} {R : Value → Heap → Prop} (hN : args.length ≤ 54) (q : AWC Tryz.prog 54 g19 (RetQ Tryz.prog [.tmp 4] R) (frOf args) h) : ACall Tryz.prog 19 args h R :=
  C_call Tryz.func19 (by kernel_rfl) com19 (by kernel_rfl) (by kernel_rfl) hN q

/-- ( *bindle/play.Stage).FS -/
noncomputable def g20 : AC :=
 .seq (.reg [⟨none, some 2, .assign (.const (.pointer none))⟩])
 (.seq (.seq (.reg [⟨none, some 3, .move (.tmp 0)⟩,
    ⟨none, some 4, .binOp .eql 55 (.tmp 3) (.const (.pointer none)) 55⟩])
   (.cond (.tmp 4) (.seq (.reg [⟨none, some 2, .assign (.const (.pointer none))⟩])
     (.ret))
    (.skip)))
  (.seq (.reg [⟨none, some 5, .move (.tmp 0)⟩,
    ⟨none, some 6, .nilCheck (.tmp 5)⟩,
    ⟨none, some 7, .fieldAddr 99 (.tmp 6) 0⟩,
    ⟨none, some 8, .load 29 (.tmp 7)⟩,
    ⟨none, some 2, .assign (.tmp 8)⟩])
   (.ret)))
theorem com20 : com Tryz.prog 9 ((Tryz.f20.body).getD .skip) = g20 := by kernel_rfl
theorem enter20 {args : List Value} {h : Heap} {R : Value → Heap → Prop} (hN : args.length ≤ 9) (q : AWC Tryz.prog 9 g20 (RetQ Tryz.prog [.tmp 2] R) (frOf args) h) : ACall Tryz.prog 20 args h R :=
  C_call Tryz.func20 (by kernel_rfl) com20 (by kernel_rfl) (by kernel_rfl) hN q

/-- bindle/bindlelaw32.lives -/
noncomputable def g21 : AC :=
 .seq (.reg [⟨none, some 0, .assign (.const (.bool false))⟩])
 (.seq (.reg [⟨none, some 3, .build 27 #[(0, (.const (.int .i64 1)))]⟩,
   ⟨none, some 4, .build 27 #[(0, (.const (.int .i64 2)))]⟩,
   ⟨none, some 5, .build 27 #[(0, (.const (.int .i64 3))), (1, (.const (.string { data := #[97] })))]⟩,
   ⟨none, some 6, .build 27 #[(0, (.const (.int .i64 10)))]⟩,
   ⟨none, some 7, .buildSlice 102 4 #[(0, (.tmp 3)), (1, (.tmp 4)), (2, (.tmp 5)), (3, (.tmp 6))]⟩,
   ⟨none, some 1, .assign (.tmp 7)⟩])
  (.seq (.reg [⟨none, some 8, .move (.tmp 1)⟩,
    ⟨none, some 9, .call { callee := (.value (.func 44)), args := #[(.const (.int .i64 60)), (.tmp 8)], argTypes := #[3, 102] }⟩,
    ⟨none, some 2, .assign (.tmp 9)⟩])
   (.seq (.reg [⟨none, some 10, .move (.tmp 2)⟩,
     ⟨none, some 11, .call { callee := (.builtin .len), args := #[(.tmp 10)], argTypes := #[103] }⟩,
     ⟨none, some 12, .binOp .eql 3 (.tmp 11) (.const (.int .i64 4)) 3⟩,
     ⟨none, some 13, .move (.tmp 12)⟩,
     ⟨some (some 13, true), some 14, .move (.tmp 2)⟩,
     ⟨some (some 13, true), some 15, .indexAddr 103 (.tmp 14) (.const (.int .i64 0))⟩,
     ⟨some (some 13, true), some 16, .fieldAddr 57 (.tmp 15) 0⟩,
     ⟨some (some 13, true), some 17, .load 32 (.tmp 16)⟩,
     ⟨some (some 13, true), some 18, .binOp .eql 32 (.tmp 17) (.const (.int .i64 0)) 32⟩,
     ⟨none, some 19, .pick (.tmp 13) (.tmp 18) (.const (.bool false))⟩,
     ⟨none, some 20, .move (.tmp 19)⟩,
     ⟨some (some 20, true), some 21, .move (.tmp 2)⟩,
     ⟨some (some 20, true), some 22, .indexAddr 103 (.tmp 21) (.const (.int .i64 1))⟩,
     ⟨some (some 20, true), some 23, .fieldAddr 57 (.tmp 22) 0⟩,
     ⟨some (some 20, true), some 24, .load 32 (.tmp 23)⟩,
     ⟨some (some 20, true), some 25, .binOp .eql 32 (.tmp 24) (.const (.int .i64 0)) 32⟩,
     ⟨none, some 26, .pick (.tmp 20) (.tmp 25) (.const (.bool false))⟩,
     ⟨none, some 27, .move (.tmp 26)⟩,
     ⟨some (some 27, true), some 28, .move (.tmp 2)⟩,
     ⟨some (some 27, true), some 29, .indexAddr 103 (.tmp 28) (.const (.int .i64 2))⟩,
     ⟨some (some 27, true), some 30, .fieldAddr 57 (.tmp 29) 0⟩,
     ⟨some (some 27, true), some 31, .load 32 (.tmp 30)⟩,
     ⟨some (some 27, true), some 32, .binOp .eql 32 (.tmp 31) (.const (.int .i64 0)) 32⟩,
     ⟨none, some 33, .pick (.tmp 27) (.tmp 32) (.const (.bool false))⟩,
     ⟨none, some 34, .move (.tmp 33)⟩,
     ⟨some (some 34, true), some 35, .move (.tmp 2)⟩,
     ⟨some (some 34, true), some 36, .indexAddr 103 (.tmp 35) (.const (.int .i64 3))⟩,
     ⟨some (some 34, true), some 37, .fieldAddr 57 (.tmp 36) 3⟩,
     ⟨some (some 34, true), some 38, .load 50 (.tmp 37)⟩,
     ⟨some (some 34, true), some 39, .call { callee := (.builtin .len), args := #[(.tmp 38)], argTypes := #[50] }⟩,
     ⟨some (some 34, true), some 40, .binOp .eql 3 (.tmp 39) (.const (.int .i64 1)) 3⟩,
     ⟨none, some 41, .pick (.tmp 34) (.tmp 40) (.const (.bool false))⟩,
     ⟨none, some 0, .assign (.tmp 41)⟩])
    (.ret))))
theorem com21 : com Tryz.prog 42 ((Tryz.f21.body).getD .skip) = g21 := by kernel_rfl
theorem enter21 {args : List Value} {h : Heap} {R : Value → Heap → Prop} (hN : args.length ≤ 42) (q : AWC Tryz.prog 42 g21 (RetQ Tryz.prog [.tmp 0] R) (frOf args) h) : ACall Tryz.prog 21 args h R :=
  C_call Tryz.func21 (by kernel_rfl) com21 (by kernel_rfl) (by kernel_rfl) hN q

/-- bindle/crashfs.New -/
noncomputable def g22 : AC :=
 .seq (.reg [⟨none, some 2, .assign (.const (.pointer none))⟩])
 (.seq (.reg [⟨none, some 3, .move (.tmp 0)⟩,
   ⟨none, some 4, .call { callee := (.builtin .min), args := #[(.const (.int .i64 65536)), (.tmp 3)], argTypes := #[3, 3] }⟩,
   ⟨none, some 5, .call { callee := (.builtin .max), args := #[(.const (.int .i64 0)), (.tmp 4)], argTypes := #[3, 3] }⟩,
   ⟨none, some 6, .build 77 #[(2, (.tmp 5))]⟩,
   ⟨none, some 7, .box 77 (.tmp 6)⟩,
   ⟨none, some 2, .assign (.tmp 7)⟩])
  (.ret))
theorem com22 : com Tryz.prog 8 ((Tryz.f22.body).getD .skip) = g22 := by kernel_rfl
theorem enter22 {args : List Value} {h : Heap} {R : Value → Heap → Prop} (hN : args.length ≤ 8) (q : AWC Tryz.prog 8 g22 (RetQ Tryz.prog [.tmp 2] R) (frOf args) h) : ACall Tryz.prog 22 args h R :=
  C_call Tryz.func22 (by kernel_rfl) com22 (by kernel_rfl) (by kernel_rfl) hN q

/-- ( *bindle/archive.Archive).there -/
noncomputable def g23 : AC :=
 .seq (.reg [⟨none, some 2, .assign (.const (.int .i64 0))⟩])
 (.seq (.block 0 (.seq (.reg [⟨none, some 4, .move (.tmp 0)⟩,
     ⟨none, some 5, .binOp .eql 28 (.tmp 4) (.const (.pointer none)) 28⟩,
     ⟨none, some 3, .assign (.tmp 5)⟩])
    (.cond (.tmp 3) (.seq (.reg [⟨none, some 2, .assign (.const (.int .i64 1))⟩])
      (.ret))
     (.seq (.reg [⟨none, some 7, .move (.tmp 0)⟩,
       ⟨none, some 8, .nilCheck (.tmp 7)⟩,
       ⟨none, some 9, .fieldAddr 69 (.tmp 8) 4⟩,
       ⟨none, some 10, .load 4 (.tmp 9)⟩,
       ⟨none, some 11, .unOp .not 4 (.tmp 10)⟩,
       ⟨none, some 6, .assign (.tmp 11)⟩])
      (.cond (.tmp 6) (.seq (.reg [⟨none, some 2, .assign (.const (.int .i64 12))⟩])
        (.ret))
       (.skip))))))
  (.seq (.reg [⟨none, some 2, .assign (.const (.int .i64 0))⟩])
   (.ret)))
theorem com23 : com Tryz.prog 12 ((Tryz.f23.body).getD .skip) = g23 := by kernel_rfl
theorem enter23 {args : List Value} {h : Heap} {R : Value → Heap → Prop} (hN : args.length ≤ 12) (q : AWC Tryz.prog 12 g23 (RetQ Tryz.prog [.tmp 2] R) (frOf args) h) : ACall Tryz.prog 23 args h R :=
  C_call Tryz.func23 (by kernel_rfl) com23 (by kernel_rfl) (by kernel_rfl) hN q

/-- ( *bindle/archive.Archive).Sync -/
noncomputable def g24 : AC :=
 .seq (.reg [⟨none, some 2, .assign (.const (.int .i64 0))⟩])
 (.seq (.seq (.reg [⟨none, some 4, .move (.tmp 0)⟩,
    ⟨none, some 5, .call { callee := (.value (.func 45)), args := #[(.tmp 4)], argTypes := #[28] }⟩,
    ⟨none, some 3, .assign (.tmp 5)⟩])
   (.seq (.reg [⟨none, some 6, .move (.tmp 3)⟩,
     ⟨none, some 7, .binOp .neq 32 (.tmp 6) (.const (.int .i64 0)) 32⟩])
    (.cond (.tmp 7) (.seq (.reg [⟨none, some 8, .move (.tmp 3)⟩,
       ⟨none, some 2, .assign (.tmp 8)⟩])
      (.ret))
     (.skip))))
  (.seq (.draw [⟨⟨none, some 9, .move (.tmp 0)⟩, []⟩,
      ⟨⟨none, some 10, .nilCheck (.tmp 9)⟩, []⟩,
      ⟨⟨none, some 11, .fieldAddr 69 (.tmp 10) 1⟩, []⟩,
      ⟨⟨none, some 12, .load 65 (.tmp 11)⟩, []⟩,
      ⟨⟨none, some 13, .move (.tmp 0)⟩, []⟩,
      ⟨⟨none, some 14, .nilCheck (.tmp 13)⟩, []⟩,
      ⟨⟨none, some 15, .fieldAddr 69 (.tmp 14) 2⟩, []⟩,
      ⟨⟨none, some 16, .load 66 (.tmp 15)⟩, []⟩,
      ⟨⟨none, some 17, .call { callee := (.value (.func 47)), args := #[(.tmp 16)], argTypes := #[66] }⟩, [⟨none, some 12, .load 65 (.tmp 11)⟩]⟩,
      ⟨⟨none, some 18, .call { callee := (.value (.func 46)), args := #[(.tmp 12), (.tmp 17)], argTypes := #[65, 91] }⟩, []⟩,
      ⟨⟨none, some 2, .assign (.tmp 18)⟩, []⟩])
   (.ret)))
theorem com24 : com Tryz.prog 19 ((Tryz.f24.body).getD .skip) = g24 := by kernel_rfl
theorem enter24 {args : List Value} {h : Heap} {R : Value → Heap → Prop} (hN : args.length ≤ 19) (q : AWC Tryz.prog 19 g24 (RetQ Tryz.prog [.tmp 2] R) (frOf args) h) : ACall Tryz.prog 24 args h R :=
  C_call Tryz.func24 (by kernel_rfl) com24 (by kernel_rfl) (by kernel_rfl) hN q

/-- ( *bindle/archive.Archive).Put -/
noncomputable def g25 : AC :=
 .seq (.reg [⟨none, some 8, .assign (.const (.int .i64 0))⟩])
 (.seq (.seq (.reg [⟨none, some 13, .move (.tmp 0)⟩,
    ⟨none, some 14, .call { callee := (.value (.func 45)), args := #[(.tmp 13)], argTypes := #[28] }⟩,
    ⟨none, some 9, .assign (.tmp 14)⟩])
   (.seq (.reg [⟨none, some 15, .move (.tmp 9)⟩,
     ⟨none, some 16, .binOp .neq 32 (.tmp 15) (.const (.int .i64 0)) 32⟩])
    (.cond (.tmp 16) (.seq (.reg [⟨none, some 17, .move (.tmp 9)⟩,
       ⟨none, some 8, .assign (.tmp 17)⟩])
      (.ret))
     (.skip))))
  (.seq (.reg [⟨none, some 19, .move (.tmp 0)⟩,
    ⟨none, some 20, .nilCheck (.tmp 19)⟩,
    ⟨none, some 21, .fieldAddr 69 (.tmp 20) 0⟩,
    ⟨none, some 22, .move (.tmp 1)⟩,
    ⟨none, some 23, .move (.tmp 2)⟩,
    ⟨none, some 24, .move (.tmp 3)⟩,
    ⟨none, some 25, .call { callee := (.value (.func 48)), args := #[(.tmp 21), (.tmp 22), (.tmp 23), (.tmp 24)], argTypes := #[94, 9, 22, 3] }⟩,
    ⟨none, some 18, .move (.tmp 25)⟩,
    ⟨none, some 26, .extract (.tmp 18) 0⟩,
    ⟨none, some 27, .extract (.tmp 18) 1⟩,
    ⟨none, some 10, .assign (.tmp 26)⟩,
    ⟨none, some 11, .assign (.tmp 27)⟩])
   (.seq (.block 0 (.seq (.reg [⟨none, some 29, .move (.tmp 11)⟩,
       ⟨none, some 30, .binOp .neq 32 (.tmp 29) (.const (.int .i64 0)) 32⟩,
       ⟨none, some 28, .assign (.tmp 30)⟩])
      (.cond (.tmp 28) (.seq (.reg [⟨none, some 31, .move (.tmp 11)⟩,
         ⟨none, some 8, .assign (.tmp 31)⟩])
        (.ret))
       (.seq (.reg [⟨none, some 33, .move (.tmp 0)⟩,
         ⟨none, some 34, .nilCheck (.tmp 33)⟩,
         ⟨none, some 35, .fieldAddr 69 (.tmp 34) 2⟩,
         ⟨none, some 36, .load 66 (.tmp 35)⟩,
         ⟨none, some 37, .move (.tmp 1)⟩,
         ⟨none, some 38, .call { callee := (.value (.func 49)), args := #[(.tmp 36), (.tmp 37)], argTypes := #[66, 9] }⟩,
         ⟨none, some 39, .unOp .not 4 (.tmp 38)⟩,
         ⟨none, some 32, .assign (.tmp 39)⟩])
        (.cond (.tmp 32) (.seq (.reg [⟨none, some 8, .assign (.const (.int .i64 14))⟩])
          (.ret))
         (.skip))))))
    (.seq (.reg [⟨none, some 40, .move (.tmp 0)⟩,
      ⟨none, some 41, .nilCheck (.tmp 40)⟩,
      ⟨none, some 42, .fieldAddr 69 (.tmp 41) 1⟩,
      ⟨none, some 43, .load 65 (.tmp 42)⟩,
      ⟨none, some 44, .call { callee := (.value (.func 40)), args := #[(.tmp 43)], argTypes := #[65] }⟩,
      ⟨none, some 12, .assign (.tmp 44)⟩])
     (.seq (.seq (.reg [⟨none, some 45, .move (.tmp 0)⟩,
        ⟨none, some 46, .move (.tmp 10)⟩,
        ⟨none, some 47, .move (.tmp 0)⟩,
        ⟨none, some 48, .move (.tmp 1)⟩,
        ⟨none, some 49, .call { callee := (.value (.func 51)), args := #[(.tmp 47), (.tmp 48)], argTypes := #[28, 9] }⟩,
        ⟨none, some 50, .call { callee := (.value (.func 50)), args := #[(.tmp 45), (.tmp 46), (.tmp 49)], argTypes := #[28, 22, 3] }⟩,
        ⟨none, some 11, .assign (.tmp 50)⟩])
       (.seq (.reg [⟨none, some 51, .move (.tmp 11)⟩,
         ⟨none, some 52, .binOp .neq 32 (.tmp 51) (.const (.int .i64 0)) 32⟩])
        (.cond (.tmp 52) (.seq (.reg [⟨none, some 53, .move (.tmp 11)⟩,
           ⟨none, some 8, .assign (.tmp 53)⟩])
          (.ret))
         (.skip))))
      (.seq (.draw [⟨⟨none, some 54, .move (.tmp 0)⟩, []⟩,
      ⟨⟨none, some 55, .nilCheck (.tmp 54)⟩, []⟩,
      ⟨⟨none, some 56, .fieldAddr 69 (.tmp 55) 2⟩, []⟩,
      ⟨⟨none, some 57, .load 66 (.tmp 56)⟩, []⟩,
      ⟨⟨none, some 58, .move (.tmp 0)⟩, []⟩,
      ⟨⟨none, some 59, .nilCheck (.tmp 58)⟩, []⟩,
      ⟨⟨none, some 60, .fieldAddr 69 (.tmp 59) 0⟩, []⟩,
      ⟨⟨none, some 61, .move (.tmp 10)⟩, []⟩,
      ⟨⟨none, some 62, .move (.tmp 12)⟩, []⟩,
      ⟨⟨none, some 63, .call { callee := (.value (.func 53)), args := #[(.tmp 60), (.tmp 61), (.tmp 62)], argTypes := #[94, 22, 3] }⟩, [⟨none, some 57, .load 66 (.tmp 56)⟩]⟩,
      ⟨⟨none, some 64, .call { callee := (.value (.func 52)), args := #[(.tmp 57), (.tmp 63)], argTypes := #[66, 41] }⟩, []⟩,
      ⟨⟨none, some 8, .assign (.tmp 64)⟩, []⟩])
       (.ret)))))))
theorem com25 : com Tryz.prog 65 ((Tryz.f25.body).getD .skip) = g25 := by kernel_rfl
theorem enter25 {args : List Value} {h : Heap} {R : Value → Heap → Prop} (hN : args.length ≤ 65) (q : AWC Tryz.prog 65 g25 (RetQ Tryz.prog [.tmp 8] R) (frOf args) h) : ACall Tryz.prog 25 args h R :=
  C_call Tryz.func25 (by kernel_rfl) com25 (by kernel_rfl) (by kernel_rfl) hN q

/-- ( *bindle/archive.Archive).Begin -/
noncomputable def g26 : AC :=
 .seq (.reg [⟨none, some 4, .assign (.const (.int .i64 0))⟩])
 (.seq (.seq (.reg [⟨none, some 9, .move (.tmp 0)⟩,
    ⟨none, some 10, .call { callee := (.value (.func 45)), args := #[(.tmp 9)], argTypes := #[28] }⟩,
    ⟨none, some 5, .assign (.tmp 10)⟩])
   (.seq (.reg [⟨none, some 11, .move (.tmp 5)⟩,
     ⟨none, some 12, .binOp .neq 32 (.tmp 11) (.const (.int .i64 0)) 32⟩])
    (.cond (.tmp 12) (.seq (.reg [⟨none, some 13, .move (.tmp 5)⟩,
       ⟨none, some 4, .assign (.tmp 13)⟩])
      (.ret))
     (.skip))))
  (.seq (.block 0 (.seq (.reg [⟨none, some 15, .move (.tmp 1)⟩,
      ⟨none, some 16, .call { callee := (.value (.func 54)), args := #[(.tmp 15)], argTypes := #[9] }⟩,
      ⟨none, some 17, .unOp .not 4 (.tmp 16)⟩,
      ⟨none, some 14, .assign (.tmp 17)⟩])
     (.cond (.tmp 14) (.seq (.reg [⟨none, some 4, .assign (.const (.int .i64 6))⟩])
       (.ret))
      (.seq (.reg [⟨none, some 19, .move (.tmp 0)⟩,
        ⟨none, some 20, .nilCheck (.tmp 19)⟩,
        ⟨none, some 21, .fieldAddr 69 (.tmp 20) 2⟩,
        ⟨none, some 22, .load 66 (.tmp 21)⟩,
        ⟨none, some 23, .move (.tmp 1)⟩,
        ⟨none, some 24, .call { callee := (.value (.func 49)), args := #[(.tmp 22), (.tmp 23)], argTypes := #[66, 9] }⟩,
        ⟨none, some 25, .unOp .not 4 (.tmp 24)⟩,
        ⟨none, some 18, .assign (.tmp 25)⟩])
       (.cond (.tmp 18) (.seq (.reg [⟨none, some 4, .assign (.const (.int .i64 14))⟩])
         (.ret))
        (.skip))))))
   (.seq (.reg [⟨none, some 27, .move (.tmp 0)⟩,
     ⟨none, some 28, .nilCheck (.tmp 27)⟩,
     ⟨none, some 29, .fieldAddr 69 (.tmp 28) 0⟩,
     ⟨none, some 30, .move (.tmp 1)⟩,
     ⟨none, some 31, .build 115 #[(0, (.const (.int .i64 2))), (1, (.tmp 30))]⟩,
     ⟨none, some 32, .call { callee := (.value (.func 55)), args := #[(.tmp 29), (.tmp 31)], argTypes := #[94, 115] }⟩,
     ⟨none, some 26, .move (.tmp 32)⟩,
     ⟨none, some 33, .extract (.tmp 26) 0⟩,
     ⟨none, some 34, .extract (.tmp 26) 1⟩,
     ⟨none, some 6, .assign (.tmp 33)⟩,
     ⟨none, some 7, .assign (.tmp 34)⟩])
    (.seq (.seq (.draw [⟨⟨none, some 35, .move (.tmp 0)⟩, []⟩,
      ⟨⟨none, some 36, .nilCheck (.tmp 35)⟩, []⟩,
      ⟨⟨none, some 37, .fieldAddr 69 (.tmp 36) 1⟩, []⟩,
      ⟨⟨none, some 38, .load 65 (.tmp 37)⟩, []⟩,
      ⟨⟨none, some 39, .move (.tmp 6)⟩, []⟩,
      ⟨⟨none, some 40, .move (.tmp 0)⟩, []⟩,
      ⟨⟨none, some 41, .move (.tmp 1)⟩, []⟩,
      ⟨⟨none, some 42, .call { callee := (.value (.func 51)), args := #[(.tmp 40), (.tmp 41)], argTypes := #[28, 9] }⟩, [⟨none, some 38, .load 65 (.tmp 37)⟩]⟩,
      ⟨⟨none, some 43, .binOp .add 3 (.tmp 42) (.const (.int .i64 22)) 3⟩, []⟩,
      ⟨⟨none, some 44, .call { callee := (.value (.func 56)), args := #[(.tmp 38), (.const (.int .i64 0)), (.tmp 39), (.tmp 43)], argTypes := #[65, 3, 22, 3] }⟩, []⟩,
      ⟨⟨none, some 8, .assign (.tmp 44)⟩, []⟩])
      (.seq (.reg [⟨none, some 45, .move (.tmp 8)⟩,
        ⟨none, some 46, .binOp .neq 32 (.tmp 45) (.const (.int .i64 0)) 32⟩])
       (.cond (.tmp 46) (.seq (.reg [⟨none, some 47, .move (.tmp 8)⟩,
          ⟨none, some 4, .assign (.tmp 47)⟩])
         (.ret))
        (.skip))))
     (.seq (.reg [⟨none, some 48, .move (.tmp 0)⟩,
       ⟨none, some 49, .move (.tmp 1)⟩,
       ⟨none, some 50, .move (.tmp 6)⟩,
       ⟨none, some 51, .call { callee := (.builtin .len), args := #[(.tmp 50)], argTypes := #[22] }⟩,
       ⟨none, some 52, .build 118 #[(0, (.tmp 49)), (2, (.tmp 51)), (3, (.const (.int .u32 4294967295)))]⟩,
       ⟨none, some 53, .box 118 (.tmp 52)⟩,
       ⟨none, some 54, .nilCheck (.tmp 48)⟩,
       ⟨none, some 55, .fieldAddr 69 (.tmp 54) 3⟩,
       ⟨none, none, .store 67 (.tmp 55) (.tmp 53)⟩])
      (.seq (.reg [⟨none, some 4, .assign (.const (.int .i64 0))⟩])
       (.ret)))))))
theorem com26 : com Tryz.prog 56 ((Tryz.f26.body).getD .skip) = g26 := by kernel_rfl
theorem enter26 {args : List Value} {h : Heap} {R : Value → Heap → Prop} (hN : args.length ≤ 56) (q : AWC Tryz.prog 56 g26 (RetQ Tryz.prog [.tmp 4] R) (frOf args) h) : ACall Tryz.prog 26 args h R :=
  C_call Tryz.func26 (by kernel_rfl) com26 (by kernel_rfl) (by kernel_rfl) hN q

/-- ( *bindle/archive.Archive).Write -/
noncomputable def g27 : AC :=
 .seq (.reg [⟨none, some 4, .assign (.const (.int .i64 0))⟩])
 (.seq (.seq (.reg [⟨none, some 9, .move (.tmp 0)⟩,
    ⟨none, some 10, .call { callee := (.value (.func 57)), args := #[(.tmp 9)], argTypes := #[28] }⟩,
    ⟨none, some 5, .assign (.tmp 10)⟩])
   (.seq (.reg [⟨none, some 11, .move (.tmp 5)⟩,
     ⟨none, some 12, .binOp .neq 32 (.tmp 11) (.const (.int .i64 0)) 32⟩])
    (.cond (.tmp 12) (.seq (.reg [⟨none, some 13, .move (.tmp 5)⟩,
       ⟨none, some 4, .assign (.tmp 13)⟩])
      (.ret))
     (.skip))))
  (.seq (.reg [⟨none, some 14, .move (.tmp 0)⟩,
    ⟨none, some 15, .nilCheck (.tmp 14)⟩,
    ⟨none, some 16, .fieldAddr 69 (.tmp 15) 3⟩,
    ⟨none, some 17, .load 67 (.tmp 16)⟩,
    ⟨none, some 6, .assign (.tmp 17)⟩])
   (.seq (.block 0 (.seq (.reg [⟨none, some 19, .move (.tmp 1)⟩,
       ⟨none, some 20, .call { callee := (.builtin .len), args := #[(.tmp 19)], argTypes := #[22] }⟩,
       ⟨none, some 21, .move (.tmp 6)⟩,
       ⟨none, some 22, .nilCheck (.tmp 21)⟩,
       ⟨none, some 23, .fieldAddr 118 (.tmp 22) 1⟩,
       ⟨none, some 24, .load 3 (.tmp 23)⟩,
       ⟨none, some 25, .binOp .sub 3 (.const (.int .i64 65536)) (.tmp 24) 3⟩,
       ⟨none, some 26, .binOp .gtr 3 (.tmp 20) (.tmp 25) 3⟩,
       ⟨none, some 18, .assign (.tmp 26)⟩])
      (.cond (.tmp 18) (.seq (.reg [⟨none, some 4, .assign (.const (.int .i64 5))⟩])
        (.ret))
       (.seq (.reg [⟨none, some 28, .move (.tmp 1)⟩,
         ⟨none, some 29, .call { callee := (.builtin .len), args := #[(.tmp 28)], argTypes := #[22] }⟩,
         ⟨none, some 30, .binOp .eql 3 (.tmp 29) (.const (.int .i64 0)) 3⟩,
         ⟨none, some 27, .assign (.tmp 30)⟩])
        (.cond (.tmp 27) (.seq (.reg [⟨none, some 4, .assign (.const (.int .i64 0))⟩])
          (.ret))
         (.skip))))))
    (.seq (.reg [⟨none, some 31, .move (.tmp 1)⟩,
      ⟨none, some 32, .call { callee := (.value (.func 58)), args := #[(.tmp 31)], argTypes := #[22] }⟩,
      ⟨none, some 7, .assign (.tmp 32)⟩])
     (.seq (.seq (.draw [⟨⟨none, some 33, .move (.tmp 0)⟩, []⟩,
      ⟨⟨none, some 34, .nilCheck (.tmp 33)⟩, []⟩,
      ⟨⟨none, some 35, .fieldAddr 69 (.tmp 34) 1⟩, []⟩,
      ⟨⟨none, some 36, .load 65 (.tmp 35)⟩, []⟩,
      ⟨⟨none, some 37, .move (.tmp 6)⟩, []⟩,
      ⟨⟨none, some 38, .nilCheck (.tmp 37)⟩, []⟩,
      ⟨⟨none, some 39, .fieldAddr 118 (.tmp 38) 2⟩, []⟩,
      ⟨⟨none, some 40, .load 3 (.tmp 39)⟩, []⟩,
      ⟨⟨none, some 41, .move (.tmp 7)⟩, []⟩,
      ⟨⟨none, some 42, .move (.tmp 0)⟩, []⟩,
      ⟨⟨none, some 43, .move (.tmp 6)⟩, []⟩,
      ⟨⟨none, some 44, .nilCheck (.tmp 43)⟩, []⟩,
      ⟨⟨none, some 45, .fieldAddr 118 (.tmp 44) 0⟩, []⟩,
      ⟨⟨none, some 46, .load 9 (.tmp 45)⟩, []⟩,
      ⟨⟨none, some 47, .call { callee := (.value (.func 51)), args := #[(.tmp 42), (.tmp 46)], argTypes := #[28, 9] }⟩, [⟨none, some 36, .load 65 (.tmp 35)⟩, ⟨none, some 40, .load 3 (.tmp 39)⟩]⟩,
      ⟨⟨none, some 48, .binOp .add 3 (.tmp 47) (.const (.int .i64 22)) 3⟩, []⟩,
      ⟨⟨none, some 49, .call { callee := (.value (.func 56)), args := #[(.tmp 36), (.tmp 40), (.tmp 41), (.tmp 48)], argTypes := #[65, 3, 22, 3] }⟩, []⟩,
      ⟨⟨none, some 8, .assign (.tmp 49)⟩, []⟩])
       (.seq (.reg [⟨none, some 50, .move (.tmp 8)⟩,
         ⟨none, some 51, .binOp .neq 32 (.tmp 50) (.const (.int .i64 0)) 32⟩])
        (.cond (.tmp 51) (.seq (.reg [⟨none, some 52, .move (.tmp 8)⟩,
           ⟨none, some 4, .assign (.tmp 52)⟩])
          (.ret))
         (.skip))))
      (.seq (.reg [⟨none, some 53, .move (.tmp 6)⟩,
        ⟨none, some 54, .nilCheck (.tmp 53)⟩,
        ⟨none, some 55, .fieldAddr 118 (.tmp 54) 1⟩,
        ⟨none, some 56, .load 3 (.tmp 55)⟩,
        ⟨none, some 57, .move (.tmp 1)⟩,
        ⟨none, some 58, .call { callee := (.builtin .len), args := #[(.tmp 57)], argTypes := #[22] }⟩,
        ⟨none, some 59, .binOp .add 3 (.tmp 56) (.tmp 58) 3⟩,
        ⟨none, some 60, .nilCheck (.tmp 53)⟩,
        ⟨none, some 61, .fieldAddr 118 (.tmp 60) 1⟩,
        ⟨none, none, .store 3 (.tmp 61) (.tmp 59)⟩])
       (.seq (.reg [⟨none, some 62, .move (.tmp 6)⟩,
         ⟨none, some 63, .nilCheck (.tmp 62)⟩,
         ⟨none, some 64, .fieldAddr 118 (.tmp 63) 2⟩,
         ⟨none, some 65, .load 3 (.tmp 64)⟩,
         ⟨none, some 66, .move (.tmp 7)⟩,
         ⟨none, some 67, .call { callee := (.builtin .len), args := #[(.tmp 66)], argTypes := #[22] }⟩,
         ⟨none, some 68, .binOp .add 3 (.tmp 65) (.tmp 67) 3⟩,
         ⟨none, some 69, .nilCheck (.tmp 62)⟩,
         ⟨none, some 70, .fieldAddr 118 (.tmp 69) 2⟩,
         ⟨none, none, .store 3 (.tmp 70) (.tmp 68)⟩])
        (.seq (.reg [⟨none, some 71, .move (.tmp 6)⟩,
          ⟨none, some 72, .move (.tmp 0)⟩,
          ⟨none, some 73, .nilCheck (.tmp 72)⟩,
          ⟨none, some 74, .fieldAddr 69 (.tmp 73) 0⟩,
          ⟨none, some 75, .move (.tmp 6)⟩,
          ⟨none, some 76, .nilCheck (.tmp 75)⟩,
          ⟨none, some 77, .fieldAddr 118 (.tmp 76) 3⟩,
          ⟨none, some 78, .load 39 (.tmp 77)⟩,
          ⟨none, some 79, .move (.tmp 7)⟩,
          ⟨none, some 80, .call { callee := (.value (.func 59)), args := #[(.tmp 74), (.tmp 78), (.tmp 79)], argTypes := #[64, 39, 22] }⟩,
          ⟨none, some 81, .nilCheck (.tmp 71)⟩,
          ⟨none, some 82, .fieldAddr 118 (.tmp 81) 3⟩,
          ⟨none, none, .store 39 (.tmp 82) (.tmp 80)⟩])
         (.seq (.reg [⟨none, some 4, .assign (.const (.int .i64 0))⟩])
          (.ret))))))))))
theorem com27 : com Tryz.prog 83 ((Tryz.f27.body).getD .skip) = g27 := by kernel_rfl
theorem enter27 {args : List Value} {h : Heap} {R : Value → Heap → Prop} (hN : args.length ≤ 83) (q : AWC Tryz.prog 83 g27 (RetQ Tryz.prog [.tmp 4] R) (frOf args) h) : ACall Tryz.prog 27 args h R :=
  C_call Tryz.func27 (by kernel_rfl) com27 (by kernel_rfl) (by kernel_rfl) hN q

/-- ( *bindle/archive.Archive).Finish -/
noncomputable def g28 : AC :=
 .seq (.reg [⟨none, some 2, .assign (.const (.int .i64 0))⟩])
 (.seq (.seq (.reg [⟨none, some 12, .move (.tmp 0)⟩,
    ⟨none, some 13, .call { callee := (.value (.func 57)), args := #[(.tmp 12)], argTypes := #[28] }⟩,
    ⟨none, some 3, .assign (.tmp 13)⟩])
   (.seq (.reg [⟨none, some 14, .move (.tmp 3)⟩,
     ⟨none, some 15, .binOp .neq 32 (.tmp 14) (.const (.int .i64 0)) 32⟩])
    (.cond (.tmp 15) (.seq (.reg [⟨none, some 16, .move (.tmp 3)⟩,
       ⟨none, some 2, .assign (.tmp 16)⟩])
      (.ret))
     (.skip))))
  (.seq (.reg [⟨none, some 17, .move (.tmp 0)⟩,
    ⟨none, some 18, .nilCheck (.tmp 17)⟩,
    ⟨none, some 19, .fieldAddr 69 (.tmp 18) 3⟩,
    ⟨none, some 20, .load 67 (.tmp 19)⟩,
    ⟨none, some 4, .assign (.tmp 20)⟩])
   (.seq (.reg [⟨none, some 21, .buildSlice 22 2 #[(0, (.const (.int .u8 0))), (1, (.const (.int .u8 0)))]⟩,
     ⟨none, some 5, .assign (.tmp 21)⟩])
    (.seq (.reg [⟨none, some 22, .move (.tmp 4)⟩,
      ⟨none, some 23, .nilCheck (.tmp 22)⟩,
      ⟨none, some 24, .fieldAddr 118 (.tmp 23) 0⟩,
      ⟨none, some 25, .load 9 (.tmp 24)⟩,
      ⟨none, some 26, .call { callee := (.value (.func 60)), args := #[(.tmp 25)], argTypes := #[9] }⟩,
      ⟨none, some 6, .assign (.tmp 26)⟩])
     (.seq (.draw [⟨⟨none, some 27, .move (.tmp 4)⟩, []⟩,
      ⟨⟨none, some 28, .nilCheck (.tmp 27)⟩, []⟩,
      ⟨⟨none, some 29, .fieldAddr 118 (.tmp 28) 1⟩, []⟩,
      ⟨⟨none, some 30, .load 3 (.tmp 29)⟩, []⟩,
      ⟨⟨none, some 31, .move (.tmp 4)⟩, []⟩,
      ⟨⟨none, some 32, .nilCheck (.tmp 31)⟩, []⟩,
      ⟨⟨none, some 33, .fieldAddr 118 (.tmp 32) 2⟩, []⟩,
      ⟨⟨none, some 34, .load 3 (.tmp 33)⟩, []⟩,
      ⟨⟨none, some 35, .move (.tmp 5)⟩, []⟩,
      ⟨⟨none, some 36, .call { callee := (.builtin .len), args := #[(.tmp 35)], argTypes := #[22] }⟩, []⟩,
      ⟨⟨none, some 37, .binOp .add 3 (.tmp 34) (.tmp 36) 3⟩, []⟩,
      ⟨⟨none, some 38, .move (.tmp 6)⟩, []⟩,
      ⟨⟨none, some 39, .binOp .sub 3 (.tmp 37) (.tmp 38) 3⟩, []⟩,
      ⟨⟨none, some 40, .move (.tmp 0)⟩, []⟩,
      ⟨⟨none, some 41, .nilCheck (.tmp 40)⟩, []⟩,
      ⟨⟨none, some 42, .fieldAddr 69 (.tmp 41) 0⟩, []⟩,
      ⟨⟨none, some 43, .move (.tmp 4)⟩, []⟩,
      ⟨⟨none, some 44, .nilCheck (.tmp 43)⟩, []⟩,
      ⟨⟨none, some 45, .fieldAddr 118 (.tmp 44) 3⟩, []⟩,
      ⟨⟨none, some 46, .load 39 (.tmp 45)⟩, []⟩,
      ⟨⟨none, some 47, .move (.tmp 5)⟩, []⟩,
      ⟨⟨none, some 48, .call { callee := (.value (.func 59)), args := #[(.tmp 42), (.tmp 46), (.tmp 47)], argTypes := #[64, 39, 22] }⟩, [⟨none, some 30, .load 3 (.tmp 29)⟩, ⟨none, some 34, .load 3 (.tmp 33)⟩]⟩,
      ⟨⟨none, some 49, .unOp .xor 39 (.tmp 48)⟩, []⟩,
      ⟨⟨none, some 50, .build 122 #[(0, (.tmp 30)), (1, (.tmp 39)), (2, (.tmp 49))]⟩, []⟩,
      ⟨⟨none, some 7, .alloc 122⟩, []⟩,
      ⟨⟨none, none, .store 122 (.tmp 7) (.tmp 50)⟩, []⟩])
      (.seq (.reg [⟨none, some 52, .move (.tmp 0)⟩,
        ⟨none, some 53, .nilCheck (.tmp 52)⟩,
        ⟨none, some 54, .fieldAddr 69 (.tmp 53) 0⟩,
        ⟨none, some 55, .load 122 (.tmp 7)⟩,
        ⟨none, some 56, .call { callee := (.value (.func 61)), args := #[(.tmp 54), (.tmp 55)], argTypes := #[94, 122] }⟩,
        ⟨none, some 51, .move (.tmp 56)⟩,
        ⟨none, some 57, .extract (.tmp 51) 0⟩,
        ⟨none, some 58, .extract (.tmp 51) 1⟩,
        ⟨none, some 8, .assign (.tmp 57)⟩,
        ⟨none, some 9, .assign (.tmp 58)⟩])
       (.seq (.seq (.draw [⟨⟨none, some 59, .move (.tmp 0)⟩, []⟩,
      ⟨⟨none, some 60, .nilCheck (.tmp 59)⟩, []⟩,
      ⟨⟨none, some 61, .fieldAddr 69 (.tmp 60) 1⟩, []⟩,
      ⟨⟨none, some 62, .load 65 (.tmp 61)⟩, []⟩,
      ⟨⟨none, some 63, .move (.tmp 4)⟩, []⟩,
      ⟨⟨none, some 64, .nilCheck (.tmp 63)⟩, []⟩,
      ⟨⟨none, some 65, .fieldAddr 118 (.tmp 64) 2⟩, []⟩,
      ⟨⟨none, some 66, .load 3 (.tmp 65)⟩, []⟩,
      ⟨⟨none, some 67, .move (.tmp 5)⟩, []⟩,
      ⟨⟨none, some 68, .move (.tmp 8)⟩, []⟩,
      ⟨⟨none, some 70, .move (.tmp 0)⟩, []⟩,
      ⟨⟨none, some 71, .move (.tmp 4)⟩, []⟩,
      ⟨⟨none, some 72, .nilCheck (.tmp 71)⟩, []⟩,
      ⟨⟨none, some 73, .fieldAddr 118 (.tmp 72) 0⟩, []⟩,
      ⟨⟨none, some 74, .load 9 (.tmp 73)⟩, []⟩,
      ⟨⟨none, some 69, .call { callee := (.builtin .append), args := #[(.tmp 67), (.tmp 68)], argTypes := #[22, 22] }⟩, [⟨none, some 62, .load 65 (.tmp 61)⟩, ⟨none, some 66, .load 3 (.tmp 65)⟩, ⟨none, some 74, .load 9 (.tmp 73)⟩]⟩,
      ⟨⟨none, some 75, .call { callee := (.value (.func 51)), args := #[(.tmp 70), (.tmp 74)], argTypes := #[28, 9] }⟩, [⟨none, some 62, .load 65 (.tmp 61)⟩, ⟨none, some 66, .load 3 (.tmp 65)⟩]⟩,
      ⟨⟨none, some 76, .call { callee := (.value (.func 56)), args := #[(.tmp 62), (.tmp 66), (.tmp 69), (.tmp 75)], argTypes := #[65, 3, 22, 3] }⟩, []⟩,
      ⟨⟨none, some 10, .assign (.tmp 76)⟩, []⟩])
         (.seq (.reg [⟨none, some 77, .move (.tmp 10)⟩,
           ⟨none, some 78, .binOp .neq 32 (.tmp 77) (.const (.int .i64 0)) 32⟩])
          (.cond (.tmp 78) (.seq (.reg [⟨none, some 79, .move (.tmp 10)⟩,
             ⟨none, some 2, .assign (.tmp 79)⟩])
            (.ret))
           (.skip))))
        (.seq (.reg [⟨none, some 80, .move (.tmp 0)⟩,
          ⟨none, some 81, .nilCheck (.tmp 80)⟩,
          ⟨none, some 82, .fieldAddr 69 (.tmp 81) 1⟩,
          ⟨none, some 83, .load 65 (.tmp 82)⟩,
          ⟨none, some 84, .call { callee := (.value (.func 40)), args := #[(.tmp 83)], argTypes := #[65] }⟩,
          ⟨none, some 11, .assign (.tmp 84)⟩])
         (.seq (.reg [⟨none, some 85, .move (.tmp 0)⟩,
           ⟨none, some 86, .nilCheck (.tmp 85)⟩,
           ⟨none, some 87, .fieldAddr 69 (.tmp 86) 1⟩,
           ⟨none, some 88, .load 65 (.tmp 87)⟩,
           ⟨none, some 89, .move (.tmp 4)⟩,
           ⟨none, some 90, .nilCheck (.tmp 89)⟩,
           ⟨none, some 91, .fieldAddr 118 (.tmp 90) 2⟩,
           ⟨none, some 92, .load 3 (.tmp 91)⟩,
           ⟨none, some 93, .binOp .add 3 (.tmp 92) (.const (.int .i64 22)) 3⟩,
           ⟨none, some 94, .call { callee := (.value (.func 62)), args := #[(.tmp 88), (.tmp 93)], argTypes := #[65, 3] }⟩])
          (.seq (.reg [⟨none, some 95, .move (.tmp 0)⟩,
            ⟨none, some 96, .nilCheck (.tmp 95)⟩,
            ⟨none, some 97, .fieldAddr 69 (.tmp 96) 3⟩,
            ⟨none, none, .store 67 (.tmp 97) (.const (.pointer none))⟩])
           (.seq (.reg [⟨none, some 98, .move (.tmp 0)⟩,
             ⟨none, some 99, .nilCheck (.tmp 98)⟩,
             ⟨none, some 100, .fieldAddr 69 (.tmp 99) 2⟩,
             ⟨none, some 101, .load 66 (.tmp 100)⟩,
             ⟨none, some 102, .move (.tmp 4)⟩,
             ⟨none, some 103, .nilCheck (.tmp 102)⟩,
             ⟨none, some 104, .fieldAddr 118 (.tmp 103) 0⟩,
             ⟨none, some 105, .load 9 (.tmp 104)⟩,
             ⟨none, some 106, .move (.tmp 11)⟩,
             ⟨none, some 107, .move (.tmp 11)⟩,
             ⟨none, some 108, .move (.tmp 6)⟩,
             ⟨none, some 109, .binOp .add 3 (.tmp 107) (.tmp 108) 3⟩,
             ⟨none, some 110, .fieldAddr 122 (.tmp 7) 1⟩,
             ⟨none, some 111, .load 3 (.tmp 110)⟩,
             ⟨none, some 112, .fieldAddr 122 (.tmp 7) 0⟩,
             ⟨none, some 113, .load 3 (.tmp 112)⟩,
             ⟨none, some 114, .fieldAddr 122 (.tmp 7) 2⟩,
             ⟨none, some 115, .load 39 (.tmp 114)⟩,
             ⟨none, some 116, .build 41 #[(0, (.tmp 105)), (1, (.tmp 106)), (2, (.tmp 109)), (3, (.tmp 111)), (4, (.tmp 113)), (5, (.tmp 115)), (6, (.const (.int .i64 2)))]⟩,
             ⟨none, some 117, .call { callee := (.value (.func 52)), args := #[(.tmp 101), (.tmp 116)], argTypes := #[66, 41] }⟩,
             ⟨none, some 2, .assign (.tmp 117)⟩])
            (.ret))))))))))))
theorem com28 : com Tryz.prog 118 ((Tryz.f28.body).getD .skip) = g28 := by kernel_rfl
theorem enter28 {args : List Value} {h : Heap} {R : Value → Heap → Prop} (hN : args.length ≤ 118) (q : AWC Tryz.prog 118 g28 (RetQ Tryz.prog [.tmp 2] R) (frOf args) h) : ACall Tryz.prog 28 args h R :=
  C_call Tryz.func28 (by kernel_rfl) com28 (by kernel_rfl) (by kernel_rfl) hN q

/-- ( *bindle/archive.Archive).Abort -/
noncomputable def g29 : AC :=
 .seq (.reg [⟨none, some 2, .assign (.const (.int .i64 0))⟩])
 (.seq (.reg [⟨none, some 4, .move (.tmp 0)⟩,
   ⟨none, some 5, .call { callee := (.value (.func 57)), args := #[(.tmp 4)], argTypes := #[28] }⟩,
   ⟨none, some 3, .assign (.tmp 5)⟩])
  (.seq (.seq (.reg [⟨none, some 6, .move (.tmp 3)⟩,
     ⟨none, some 7, .binOp .eql 32 (.tmp 6) (.const (.int .i64 0)) 32⟩])
    (.cond (.tmp 7) (.reg [⟨none, some 8, .move (.tmp 0)⟩,
      ⟨none, some 9, .nilCheck (.tmp 8)⟩,
      ⟨none, some 10, .fieldAddr 69 (.tmp 9) 3⟩,
      ⟨none, none, .store 67 (.tmp 10) (.const (.pointer none))⟩])
     (.skip)))
   (.seq (.reg [⟨none, some 11, .move (.tmp 3)⟩,
     ⟨none, some 2, .assign (.tmp 11)⟩])
    (.ret))))
theorem com29 : com Tryz.prog 12 ((Tryz.f29.body).getD .skip) = g29 := by kernel_rfl
theorem enter29 {args : List Value} {h : Heap} {R : Value → Heap → Prop} (hN : args.length ≤ 12) (q : AWC Tryz.prog 12 g29 (RetQ Tryz.prog [.tmp 2] R) (frOf args) h) : ACall Tryz.prog 29 args h R :=
  C_call Tryz.func29 (by kernel_rfl) com29 (by kernel_rfl) (by kernel_rfl) hN q

/-- ( *bindle/archive.Archive).Delete -/
noncomputable def g30 : AC :=
 .seq (.reg [⟨none, some 4, .assign (.const (.int .i64 0))⟩])
 (.seq (.seq (.reg [⟨none, some 11, .move (.tmp 0)⟩,
    ⟨none, some 12, .call { callee := (.value (.func 45)), args := #[(.tmp 11)], argTypes := #[28] }⟩,
    ⟨none, some 5, .assign (.tmp 12)⟩])
   (.seq (.reg [⟨none, some 13, .move (.tmp 5)⟩,
     ⟨none, some 14, .binOp .neq 32 (.tmp 13) (.const (.int .i64 0)) 32⟩])
    (.cond (.tmp 14) (.seq (.reg [⟨none, some 15, .move (.tmp 5)⟩,
       ⟨none, some 4, .assign (.tmp 15)⟩])
      (.ret))
     (.skip))))
  (.seq (.seq (.reg [⟨none, some 17, .move (.tmp 0)⟩,
     ⟨none, some 18, .nilCheck (.tmp 17)⟩,
     ⟨none, some 19, .fieldAddr 69 (.tmp 18) 2⟩,
     ⟨none, some 20, .load 66 (.tmp 19)⟩,
     ⟨none, some 21, .move (.tmp 1)⟩,
     ⟨none, some 22, .call { callee := (.value (.func 33)), args := #[(.tmp 20), (.tmp 21)], argTypes := #[66, 9] }⟩,
     ⟨none, some 16, .move (.tmp 22)⟩,
     ⟨none, some 23, .extract (.tmp 16) 0⟩,
     ⟨none, some 24, .extract (.tmp 16) 1⟩,
     ⟨none, some 6, .alloc 41⟩,
     ⟨none, none, .store 41 (.tmp 6) (.tmp 23)⟩,
     ⟨none, some 7, .assign (.tmp 24)⟩])
    (.seq (.reg [⟨none, some 25, .move (.tmp 7)⟩,
      ⟨none, some 26, .unOp .not 4 (.tmp 25)⟩])
     (.cond (.tmp 26) (.seq (.reg [⟨none, some 4, .assign (.const (.int .i64 7))⟩])
       (.ret))
      (.skip))))
   (.seq (.reg [⟨none, some 28, .move (.tmp 0)⟩,
     ⟨none, some 29, .nilCheck (.tmp 28)⟩,
     ⟨none, some 30, .fieldAddr 69 (.tmp 29) 0⟩,
     ⟨none, some 31, .move (.tmp 1)⟩,
     ⟨none, some 32, .call { callee := (.value (.func 63)), args := #[(.tmp 30), (.tmp 31)], argTypes := #[94, 9] }⟩,
     ⟨none, some 27, .move (.tmp 32)⟩,
     ⟨none, some 33, .extract (.tmp 27) 0⟩,
     ⟨none, some 34, .extract (.tmp 27) 1⟩,
     ⟨none, some 8, .assign (.tmp 33)⟩,
     ⟨none, some 9, .assign (.tmp 34)⟩])
    (.seq (.seq (.reg [⟨none, some 35, .move (.tmp 0)⟩,
       ⟨none, some 36, .move (.tmp 8)⟩,
       ⟨none, some 37, .move (.tmp 0)⟩,
       ⟨none, some 38, .nilCheck (.tmp 37)⟩,
       ⟨none, some 39, .fieldAddr 69 (.tmp 38) 2⟩,
       ⟨none, some 40, .load 66 (.tmp 39)⟩,
       ⟨none, some 41, .call { callee := (.value (.func 64)), args := #[(.tmp 40)], argTypes := #[66] }⟩,
       ⟨none, some 42, .binOp .sub 3 (.tmp 41) (.const (.int .i64 18)) 3⟩,
       ⟨none, some 43, .move (.tmp 1)⟩,
       ⟨none, some 44, .call { callee := (.builtin .len), args := #[(.tmp 43)], argTypes := #[9] }⟩,
       ⟨none, some 45, .binOp .sub 3 (.tmp 42) (.tmp 44) 3⟩,
       ⟨none, some 46, .call { callee := (.value (.func 50)), args := #[(.tmp 35), (.tmp 36), (.tmp 45)], argTypes := #[28, 22, 3] }⟩,
       ⟨none, some 10, .assign (.tmp 46)⟩])
      (.seq (.reg [⟨none, some 47, .move (.tmp 10)⟩,
        ⟨none, some 48, .binOp .neq 32 (.tmp 47) (.const (.int .i64 0)) 32⟩])
       (.cond (.tmp 48) (.seq (.reg [⟨none, some 49, .move (.tmp 10)⟩,
          ⟨none, some 4, .assign (.tmp 49)⟩])
         (.ret))
        (.skip))))
     (.seq (.reg [⟨none, some 50, .move (.tmp 0)⟩,
       ⟨none, some 51, .nilCheck (.tmp 50)⟩,
       ⟨none, some 52, .fieldAddr 69 (.tmp 51) 2⟩,
       ⟨none, some 53, .load 66 (.tmp 52)⟩,
       ⟨none, some 54, .move (.tmp 1)⟩,
       ⟨none, some 55, .call { callee := (.value (.func 65)), args := #[(.tmp 53), (.tmp 54)], argTypes := #[66, 9] }⟩])
      (.seq (.reg [⟨none, some 4, .assign (.const (.int .i64 0))⟩])
       (.ret)))))))
theorem com30 : com Tryz.prog 56 ((Tryz.f30.body).getD .skip) = g30 := by kernel_rfl
theorem enter30 {args : List Value} {h : Heap} {R : Value → Heap → Prop} (hN : args.length ≤ 56) (q : AWC Tryz.prog 56 g30 (RetQ Tryz.prog [.tmp 4] R) (frOf args) h) : ACall Tryz.prog 30 args h R :=
  C_call Tryz.func30 (by kernel_rfl) com30 (by kernel_rfl) (by kernel_rfl) hN q

/-- ( *bindle/archive.Archive).Vacuum -/
noncomputable def g31 : AC :=
 .seq (.reg [⟨none, some 4, .assign (.const (.int .i64 0))⟩])
 (.seq (.seq (.reg [⟨none, some 14, .move (.tmp 0)⟩,
    ⟨none, some 15, .call { callee := (.value (.func 45)), args := #[(.tmp 14)], argTypes := #[28] }⟩,
    ⟨none, some 5, .assign (.tmp 15)⟩])
   (.seq (.reg [⟨none, some 16, .move (.tmp 5)⟩,
     ⟨none, some 17, .binOp .neq 32 (.tmp 16) (.const (.int .i64 0)) 32⟩])
    (.cond (.tmp 17) (.seq (.reg [⟨none, some 18, .move (.tmp 5)⟩,
       ⟨none, some 4, .assign (.tmp 18)⟩])
      (.ret))
     (.skip))))
  (.seq (.reg [⟨none, some 20, .move (.tmp 0)⟩,
    ⟨none, some 21, .call { callee := (.value (.func 11)), args := #[(.tmp 20)], argTypes := #[28] }⟩,
    ⟨none, some 19, .move (.tmp 21)⟩,
    ⟨none, some 22, .extract (.tmp 19) 0⟩,
    ⟨none, some 23, .extract (.tmp 19) 1⟩,
    ⟨none, some 6, .assign (.tmp 22)⟩,
    ⟨none, some 7, .assign (.tmp 23)⟩])
   (.seq (.seq (.reg [⟨none, some 24, .move (.tmp 7)⟩,
      ⟨none, some 25, .binOp .neq 32 (.tmp 24) (.const (.int .i64 0)) 32⟩])
     (.cond (.tmp 25) (.seq (.reg [⟨none, some 26, .move (.tmp 7)⟩,
        ⟨none, some 4, .assign (.tmp 26)⟩])
       (.ret))
      (.skip)))
    (.seq (.reg [⟨none, some 8, .assign (.const (.slice none 0 0))⟩])
     (.seq (.reg [⟨none, some 9, .assign (.const (.slice none 0 0))⟩])
      (.seq (.seq (.reg [⟨none, some 27, .move (.tmp 6)⟩,
         ⟨none, some 28, .call { callee := (.builtin .len), args := #[(.tmp 27)], argTypes := #[44] }⟩,
         ⟨none, some 29, .move (.const (.int .i64 0))⟩])
        (.block 0 (.loop (.seq (.reg [⟨none, some 30, .binOp .lss 3 (.tmp 29) (.tmp 28) 3⟩])
           (.seq (.cond (.tmp 30) (.skip)
             (.exit 0))
            (.seq (.block 1 (.seq (.reg [⟨none, some 31, .indexAddr 44 (.tmp 27) (.tmp 29)⟩,
                ⟨none, some 32, .load 89 (.tmp 31)⟩,
                ⟨none, some 11, .alloc 89⟩,
                ⟨none, none, .store 89 (.tmp 11) (.tmp 32)⟩])
               (.seq (.reg [⟨none, some 34, .move (.tmp 0)⟩,
                 ⟨none, some 35, .nilCheck (.tmp 34)⟩,
                 ⟨none, some 36, .fieldAddr 69 (.tmp 35) 0⟩,
                 ⟨none, some 37, .fieldAddr 89 (.tmp 11) 0⟩,
                 ⟨none, some 38, .load 9 (.tmp 37)⟩,
                 ⟨none, some 39, .fieldAddr 89 (.tmp 11) 1⟩,
                 ⟨none, some 40, .load 22 (.tmp 39)⟩,
                 ⟨none, some 41, .move (.tmp 1)⟩,
                 ⟨none, some 42, .call { callee := (.value (.func 48)), args := #[(.tmp 36), (.tmp 38), (.tmp 40), (.tmp 41)], argTypes := #[94, 9, 22, 3] }⟩,
                 ⟨none, some 33, .move (.tmp 42)⟩,
                 ⟨none, some 43, .extract (.tmp 33) 0⟩,
                 ⟨none, some 44, .extract (.tmp 33) 1⟩,
                 ⟨none, some 12, .assign (.tmp 43)⟩,
                 ⟨none, some 13, .assign (.tmp 44)⟩])
                (.seq (.reg [⟨none, some 45, .move (.tmp 9)⟩,
                  ⟨none, some 46, .move (.tmp 0)⟩,
                  ⟨none, some 47, .nilCheck (.tmp 46)⟩,
                  ⟨none, some 48, .fieldAddr 69 (.tmp 47) 0⟩,
                  ⟨none, some 49, .move (.tmp 12)⟩,
                  ⟨none, some 50, .move (.tmp 8)⟩,
                  ⟨none, some 51, .call { callee := (.builtin .len), args := #[(.tmp 50)], argTypes := #[22] }⟩,
                  ⟨none, some 52, .binOp .add 3 (.const (.int .i64 1024)) (.tmp 51) 3⟩,
                  ⟨none, some 53, .call { callee := (.value (.func 53)), args := #[(.tmp 48), (.tmp 49), (.tmp 52)], argTypes := #[94, 22, 3] }⟩,
                  ⟨none, some 54, .buildSlice 91 1 #[(0, (.tmp 53))]⟩,
                  ⟨none, some 55, .call { callee := (.builtin .append), args := #[(.tmp 45), (.tmp 54)], argTypes := #[91, 91] }⟩,
                  ⟨none, some 9, .assign (.tmp 55)⟩])
                 (.reg [⟨none, some 56, .move (.tmp 8)⟩,
                  ⟨none, some 57, .move (.tmp 12)⟩,
                  ⟨none, some 58, .call { callee := (.builtin .append), args := #[(.tmp 56), (.tmp 57)], argTypes := #[22, 22] }⟩,
                  ⟨none, some 8, .assign (.tmp 58)⟩])))))
             (.reg [⟨none, some 59, .binOp .add 3 (.tmp 29) (.const (.int .i64 1)) 3⟩,
              ⟨none, some 29, .move (.tmp 59)⟩])))))))
       (.seq (.seq (.reg [⟨none, some 60, .move (.tmp 0)⟩,
          ⟨none, some 61, .nilCheck (.tmp 60)⟩,
          ⟨none, some 62, .fieldAddr 69 (.tmp 61) 1⟩,
          ⟨none, some 63, .load 65 (.tmp 62)⟩,
          ⟨none, some 64, .move (.tmp 8)⟩,
          ⟨none, some 65, .move (.tmp 9)⟩,
          ⟨none, some 66, .call { callee := (.value (.func 66)), args := #[(.tmp 63), (.tmp 64), (.tmp 65)], argTypes := #[65, 22, 91] }⟩,
          ⟨none, some 7, .assign (.tmp 66)⟩])
         (.seq (.reg [⟨none, some 67, .move (.tmp 7)⟩,
           ⟨none, some 68, .binOp .neq 32 (.tmp 67) (.const (.int .i64 0)) 32⟩])
          (.cond (.tmp 68) (.seq (.reg [⟨none, some 69, .move (.tmp 7)⟩,
             ⟨none, some 4, .assign (.tmp 69)⟩])
            (.ret))
           (.skip))))
        (.seq (.reg [⟨none, some 71, .move (.tmp 0)⟩,
          ⟨none, some 72, .move (.tmp 9)⟩,
          ⟨none, some 73, .call { callee := (.value (.func 37)), args := #[(.tmp 72)], argTypes := #[91] }⟩,
          ⟨none, some 70, .move (.tmp 73)⟩,
          ⟨none, some 74, .extract (.tmp 70) 0⟩,
          ⟨none, some 75, .extract (.tmp 70) 1⟩,
          ⟨none, some 76, .nilCheck (.tmp 71)⟩,
          ⟨none, some 77, .fieldAddr 69 (.tmp 76) 2⟩,
          ⟨none, none, .store 66 (.tmp 77) (.tmp 74)⟩,
          ⟨none, some 7, .assign (.tmp 75)⟩])
         (.seq (.reg [⟨none, some 78, .move (.tmp 7)⟩,
           ⟨none, some 4, .assign (.tmp 78)⟩])
          (.ret))))))))))
theorem com31 : com Tryz.prog 79 ((Tryz.f31.body).getD .skip) = g31 := by kernel_rfl
theorem enter31 {args : List Value} {h : Heap} {R : Value → Heap → Prop} (hN : args.length ≤ 79) (q : AWC Tryz.prog 79 g31 (RetQ Tryz.prog [.tmp 4] R) (frOf args) h) : ACall Tryz.prog 31 args h R :=
  C_call Tryz.func31 (by kernel_rfl) com31 (by kernel_rfl) (by kernel_rfl) hN q

end Go.Proofs.Fx
