/- The code of this seat's functions without what a walk does not ask for, and that it is that. Written by program. -/
import Derived.Test.YtodmfjhjaegoeaaGreatDoorAmComp
import Derived.Test.YtodmfjhjaegoeaaGreatDoorProg
import Derived.KernelRfl
set_option maxRecDepth 20000
set_option linter.unusedVariables false
namespace Go.Proofs.Fx
open Go Go.Am

/-- bindle/commit.lay -/
noncomputable def g83 : AC :=
 .seq (.reg [⟨none, some 6, .assign (.const (.int .i64 0))⟩,
  ⟨none, some 7, .assign (.const (.bool false))⟩,
  ⟨none, some 8, .assign (.const (.int .i64 0))⟩])
 (.seq (.seq (.reg [⟨none, some 10, .move (.tmp 0)⟩,
    ⟨none, some 11, .move (.tmp 1)⟩,
    ⟨none, some 12, .binOp .add 9 (.tmp 11) (.const (.string { data := #[46, 116, 109, 112] })) 9⟩,
    ⟨none, some 13, .call { callee := (.value (.func 74)), args := #[(.tmp 10), (.tmp 12)], argTypes := #[29, 9] }⟩,
    ⟨none, some 9, .move (.tmp 13)⟩,
    ⟨none, some 14, .extract (.tmp 9) 0⟩,
    ⟨none, some 15, .extract (.tmp 9) 1⟩,
    ⟨none, some 8, .assign (.tmp 15)⟩])
   (.seq (.reg [⟨none, some 16, .move (.tmp 8)⟩,
     ⟨none, some 17, .binOp .eql 32 (.tmp 16) (.const (.int .i64 0)) 32⟩])
    (.cond (.tmp 17) (.seq (.reg [⟨none, some 18, .move (.tmp 0)⟩,
       ⟨none, some 19, .move (.tmp 1)⟩,
       ⟨none, some 20, .binOp .add 9 (.tmp 19) (.const (.string { data := #[46, 116, 109, 112] })) 9⟩,
       ⟨none, some 21, .call { callee := (.value (.func 128)), args := #[(.tmp 18), (.tmp 20)], argTypes := #[29, 9] }⟩,
       ⟨none, some 8, .assign (.tmp 21)⟩])
      (.seq (.reg [⟨none, some 22, .move (.tmp 8)⟩,
        ⟨none, some 23, .binOp .neq 32 (.tmp 22) (.const (.int .i64 0)) 32⟩])
       (.cond (.tmp 23) (.seq (.reg [⟨none, some 24, .move (.tmp 8)⟩,
          ⟨none, some 6, .assign (.const (.int .i64 0))⟩,
          ⟨none, some 7, .assign (.const (.bool false))⟩,
          ⟨none, some 8, .assign (.tmp 24)⟩])
         (.ret))
        (.skip))))
     (.skip))))
  (.seq (.seq (.reg [⟨none, some 26, .move (.tmp 0)⟩,
     ⟨none, some 27, .move (.tmp 1)⟩,
     ⟨none, some 28, .binOp .add 9 (.tmp 27) (.const (.string { data := #[46, 116, 109, 112] })) 9⟩,
     ⟨none, some 29, .call { callee := (.value (.func 129)), args := #[(.tmp 26), (.tmp 28)], argTypes := #[29, 9] }⟩,
     ⟨none, some 25, .move (.tmp 29)⟩,
     ⟨none, some 30, .extract (.tmp 25) 0⟩,
     ⟨none, some 31, .extract (.tmp 25) 1⟩,
     ⟨none, some 6, .assign (.tmp 30)⟩,
     ⟨none, some 8, .assign (.tmp 31)⟩])
    (.seq (.reg [⟨none, some 32, .move (.tmp 8)⟩,
      ⟨none, some 33, .binOp .neq 32 (.tmp 32) (.const (.int .i64 0)) 32⟩])
     (.cond (.tmp 33) (.seq (.reg [⟨none, some 34, .move (.tmp 8)⟩,
        ⟨none, some 6, .assign (.const (.int .i64 0))⟩,
        ⟨none, some 7, .assign (.const (.bool false))⟩,
        ⟨none, some 8, .assign (.tmp 34)⟩])
       (.ret))
      (.skip))))
   (.seq (.seq (.reg [⟨none, some 35, .move (.tmp 0)⟩,
      ⟨none, some 36, .move (.tmp 6)⟩,
      ⟨none, some 37, .move (.tmp 1)⟩,
      ⟨none, some 38, .move (.tmp 2)⟩,
      ⟨none, some 39, .call { callee := (.value (.func 130)), args := #[(.tmp 35), (.tmp 36), (.tmp 37), (.tmp 38)], argTypes := #[29, 3, 9, 22] }⟩,
      ⟨none, some 8, .assign (.tmp 39)⟩])
     (.seq (.reg [⟨none, some 40, .move (.tmp 8)⟩,
       ⟨none, some 41, .binOp .neq 32 (.tmp 40) (.const (.int .i64 0)) 32⟩])
      (.cond (.tmp 41) (.seq (.seq (.reg [⟨none, some 42, .move (.tmp 0)⟩,
          ⟨none, some 43, .move (.tmp 1)⟩,
          ⟨none, some 44, .binOp .add 9 (.tmp 43) (.const (.string { data := #[46, 116, 109, 112] })) 9⟩,
          ⟨none, some 45, .call { callee := (.value (.func 128)), args := #[(.tmp 42), (.tmp 44)], argTypes := #[29, 9] }⟩,
          ⟨none, some 46, .binOp .eql 32 (.tmp 45) (.const (.int .i64 0)) 32⟩])
         (.cond (.tmp 46) (.reg [⟨none, some 47, .move (.tmp 0)⟩,
           ⟨none, some 48, .call { callee := (.value (.func 76)), args := #[(.tmp 47)], argTypes := #[29] }⟩])
          (.skip)))
        (.seq (.reg [⟨none, some 49, .move (.tmp 8)⟩,
          ⟨none, some 6, .assign (.const (.int .i64 0))⟩,
          ⟨none, some 7, .assign (.const (.bool false))⟩,
          ⟨none, some 8, .assign (.tmp 49)⟩])
         (.ret)))
       (.skip))))
    (.seq (.reg [⟨none, some 50, .move (.tmp 6)⟩,
      ⟨none, some 51, .move (.tmp 0)⟩,
      ⟨none, some 52, .call { callee := (.value (.func 76)), args := #[(.tmp 51)], argTypes := #[29] }⟩,
      ⟨none, some 6, .assign (.tmp 50)⟩,
      ⟨none, some 7, .assign (.const (.bool true))⟩,
      ⟨none, some 8, .assign (.tmp 52)⟩])
     (.ret)))))
theorem com83 : com Tryz.prog 53 ((Tryz.f83.body).getD .skip) = g83 := by kernel_rfl
theorem enter83 {args : List Value} {h : Heap} {R : Value → Heap → Prop} (hN : args.length ≤ 53) (q : AWC Tryz.prog 53 g83 (RetQ Tryz.prog [.tmp 6, .tmp 7, .tmp 8] R) (frOf args) h) : ACall Tryz.prog 83 args h R :=
  C_call Tryz.func83 (by kernel_rfl) com83 (by kernel_rfl) (by kernel_rfl) hN q

/-- ( *bindle/play.Stage).outer -/
noncomputable def g84 : AC :=
 .seq (.reg [⟨none, some 3, .box 27 (.tmp 1)⟩,
  ⟨none, some 4, .alloc 57⟩,
  ⟨none, some 5, .assign (.const (.bool false))⟩])
 (.seq (.seq (.reg [⟨none, some 10, .fieldAddr 27 (.tmp 3) 0⟩,
    ⟨none, some 11, .load 3 (.tmp 10)⟩])
   (.block 0 (.seq (.reg [⟨none, some 23, .binOp .eql 3 (.tmp 11) (.const (.int .i64 1)) 3⟩,
      ⟨none, some 22, .assign (.tmp 23)⟩])
     (.cond (.tmp 22) (.seq (.reg [⟨none, some 24, .move (.tmp 0)⟩,
        ⟨none, some 25, .nilCheck (.tmp 24)⟩,
        ⟨none, some 26, .fieldAddr 99 (.tmp 25) 0⟩,
        ⟨none, some 27, .load 29 (.tmp 26)⟩,
        ⟨none, some 28, .move (.tmp 0)⟩,
        ⟨none, some 29, .nilCheck (.tmp 28)⟩,
        ⟨none, some 30, .fieldAddr 99 (.tmp 29) 1⟩,
        ⟨none, some 31, .load 9 (.tmp 30)⟩,
        ⟨none, some 32, .call { callee := (.value (.func 13)), args := #[(.tmp 27), (.tmp 31)], argTypes := #[29, 9] }⟩,
        ⟨none, some 33, .build 57 #[(0, (.tmp 32))]⟩,
        ⟨none, none, .store 57 (.tmp 4) (.tmp 33)⟩,
        ⟨none, some 5, .assign (.const (.bool true))⟩])
       (.ret))
      (.seq (.reg [⟨none, some 35, .binOp .eql 3 (.tmp 11) (.const (.int .i64 2)) 3⟩,
        ⟨none, some 34, .assign (.tmp 35)⟩])
       (.cond (.tmp 34) (.seq (.reg [⟨none, some 36, .move (.tmp 0)⟩,
          ⟨none, some 37, .call { callee := (.value (.func 131)), args := #[(.tmp 36)], argTypes := #[55] }⟩,
          ⟨none, none, .store 57 (.tmp 4) (.tmp 37)⟩,
          ⟨none, some 5, .assign (.const (.bool true))⟩])
         (.ret))
        (.seq (.reg [⟨none, some 39, .binOp .eql 3 (.tmp 11) (.const (.int .i64 15)) 3⟩,
          ⟨none, some 38, .assign (.tmp 39)⟩])
         (.cond (.tmp 38) (.seq (.reg [⟨none, some 40, .call { callee := (.value (.func 35)), args := #[], argTypes := #[] }⟩,
            ⟨none, some 6, .alloc 64⟩,
            ⟨none, none, .store 64 (.tmp 6) (.tmp 40)⟩])
           (.seq (.draw [⟨⟨none, some 42, .move (.tmp 0)⟩, []⟩,
      ⟨⟨none, some 43, .nilCheck (.tmp 42)⟩, []⟩,
      ⟨⟨none, some 44, .fieldAddr 99 (.tmp 43) 0⟩, []⟩,
      ⟨⟨none, some 45, .load 29 (.tmp 44)⟩, []⟩,
      ⟨⟨none, some 46, .move (.tmp 0)⟩, []⟩,
      ⟨⟨none, some 47, .nilCheck (.tmp 46)⟩, []⟩,
      ⟨⟨none, some 48, .fieldAddr 99 (.tmp 47) 1⟩, []⟩,
      ⟨⟨none, some 49, .load 9 (.tmp 48)⟩, []⟩,
      ⟨⟨none, some 50, .call { callee := (.value (.func 132)), args := #[(.tmp 45), (.tmp 6), (.tmp 49)], argTypes := #[29, 94, 9] }⟩, []⟩,
      ⟨⟨none, some 41, .move (.tmp 50)⟩, []⟩,
      ⟨⟨none, some 51, .extract (.tmp 41) 0⟩, []⟩,
      ⟨⟨none, some 52, .extract (.tmp 41) 1⟩, []⟩,
      ⟨⟨none, some 7, .alloc 200⟩, []⟩,
      ⟨⟨none, none, .store 200 (.tmp 7) (.tmp 51)⟩, []⟩,
      ⟨⟨none, some 8, .assign (.tmp 52)⟩, []⟩])
            (.seq (.reg [⟨none, some 53, .move (.tmp 8)⟩,
              ⟨none, some 54, .fieldAddr 200 (.tmp 7) 2⟩,
              ⟨none, some 55, .load 44 (.tmp 54)⟩,
              ⟨none, some 56, .build 57 #[(0, (.tmp 53)), (4, (.tmp 55))]⟩,
              ⟨none, none, .store 57 (.tmp 4) (.tmp 56)⟩,
              ⟨none, some 5, .assign (.const (.bool true))⟩])
             (.ret))))
          (.seq (.seq (.reg [⟨none, some 58, .binOp .eql 3 (.tmp 11) (.const (.int .i64 16)) 3⟩,
             ⟨none, some 57, .assign (.tmp 58)⟩])
            (.cond (.tmp 57) (.skip)
             (.reg [⟨none, some 59, .binOp .eql 3 (.tmp 11) (.const (.int .i64 17)) 3⟩,
              ⟨none, some 57, .assign (.tmp 59)⟩])))
           (.cond (.tmp 57) (.reg [⟨none, some 60, .move (.tmp 0)⟩,
             ⟨none, some 61, .load 27 (.tmp 3)⟩,
             ⟨none, some 62, .call { callee := (.value (.func 133)), args := #[(.tmp 60), (.tmp 61)], argTypes := #[55, 27] }⟩])
            (.seq (.reg [⟨none, some 64, .binOp .eql 3 (.tmp 11) (.const (.int .i64 18)) 3⟩,
              ⟨none, some 63, .assign (.tmp 64)⟩])
             (.cond (.tmp 63) (.seq (.reg [⟨none, some 65, .move (.tmp 0)⟩,
                ⟨none, some 66, .nilCheck (.tmp 65)⟩,
                ⟨none, some 67, .fieldAddr 99 (.tmp 66) 0⟩,
                ⟨none, some 68, .load 29 (.tmp 67)⟩,
                ⟨none, some 69, .fieldAddr 27 (.tmp 3) 4⟩,
                ⟨none, some 70, .load 25 (.tmp 69)⟩,
                ⟨none, some 71, .call { callee := (.value (.func 134)), args := #[(.tmp 68), (.tmp 70)], argTypes := #[29, 25] }⟩])
               (.reg [⟨none, some 72, .move (.tmp 0)⟩,
                ⟨none, some 73, .nilCheck (.tmp 72)⟩,
                ⟨none, some 74, .fieldAddr 99 (.tmp 73) 2⟩,
                ⟨none, none, .store 28 (.tmp 74) (.const (.pointer none))⟩]))
              (.seq (.reg [⟨none, some 12, .fieldAddr 27 (.tmp 3) 0⟩,
                ⟨none, some 13, .load 3 (.tmp 12)⟩,
                ⟨none, some 14, .binOp .lss 3 (.tmp 13) (.const (.int .i64 1)) 3⟩,
                ⟨none, some 15, .move (.tmp 14)⟩,
                ⟨some (some 15, false), some 16, .fieldAddr 27 (.tmp 3) 0⟩,
                ⟨some (some 15, false), some 17, .load 3 (.tmp 16)⟩,
                ⟨some (some 15, false), some 18, .binOp .gtr 3 (.tmp 17) (.const (.int .i64 18)) 3⟩,
                ⟨none, some 19, .pick (.tmp 15) (.const (.bool true)) (.tmp 18)⟩,
                ⟨none, some 9, .assign (.tmp 19)⟩])
               (.seq (.reg [⟨none, some 20, .build 57 #[(0, (.const (.int .i64 1)))]⟩,
                 ⟨none, some 21, .move (.tmp 9)⟩,
                 ⟨none, none, .store 57 (.tmp 4) (.tmp 20)⟩,
                 ⟨none, some 5, .assign (.tmp 21)⟩])
                (.ret)))))))))))))))
  (.seq (.reg [⟨none, some 75, .build 57 #[]⟩,
    ⟨none, none, .store 57 (.tmp 4) (.tmp 75)⟩,
    ⟨none, some 5, .assign (.const (.bool true))⟩])
   (.ret)))
theorem com84 : com Tryz.prog 76 ((Tryz.f84.body).getD .skip) = g84 := by kernel_rfl
theorem enter84 {args : List Value} {h : Heap} {R : Value → Heap → Prop} (hN : args.length ≤ 76) (q : AWC Tryz.prog 76 g84 (RetQ Tryz.prog [.cell 4 57, .tmp 5] R) (frOf args) h) : ACall Tryz.prog 84 args h R :=
  C_call Tryz.func84 (by kernel_rfl) com84 (by kernel_rfl) (by kernel_rfl) hN q

/-- ( *bindle/play.Stage).look -/
noncomputable def g85 : AC :=
 .seq (.reg [⟨none, some 3, .box 27 (.tmp 1)⟩,
  ⟨none, some 4, .alloc 57⟩])
 (.seq (.seq (.reg [⟨none, some 9, .fieldAddr 27 (.tmp 3) 0⟩,
    ⟨none, some 10, .load 3 (.tmp 9)⟩])
   (.block 0 (.seq (.reg [⟨none, some 12, .binOp .eql 3 (.tmp 10) (.const (.int .i64 8)) 3⟩,
      ⟨none, some 11, .assign (.tmp 12)⟩])
     (.cond (.tmp 11) (.seq (.reg [⟨none, some 14, .move (.tmp 0)⟩,
        ⟨none, some 15, .nilCheck (.tmp 14)⟩,
        ⟨none, some 16, .fieldAddr 99 (.tmp 15) 2⟩,
        ⟨none, some 17, .load 28 (.tmp 16)⟩,
        ⟨none, some 18, .fieldAddr 27 (.tmp 3) 1⟩,
        ⟨none, some 19, .load 9 (.tmp 18)⟩,
        ⟨none, some 20, .call { callee := (.value (.func 9)), args := #[(.tmp 17), (.tmp 19)], argTypes := #[28, 9] }⟩,
        ⟨none, some 13, .move (.tmp 20)⟩,
        ⟨none, some 21, .extract (.tmp 13) 0⟩,
        ⟨none, some 22, .extract (.tmp 13) 1⟩,
        ⟨none, some 5, .assign (.tmp 21)⟩,
        ⟨none, some 6, .assign (.tmp 22)⟩])
       (.seq (.reg [⟨none, some 23, .move (.tmp 6)⟩,
         ⟨none, some 24, .move (.tmp 5)⟩,
         ⟨none, some 25, .build 57 #[(0, (.tmp 23)), (1, (.tmp 24))]⟩,
         ⟨none, none, .store 57 (.tmp 4) (.tmp 25)⟩])
        (.ret)))
      (.seq (.reg [⟨none, some 27, .binOp .eql 3 (.tmp 10) (.const (.int .i64 9)) 3⟩,
        ⟨none, some 26, .assign (.tmp 27)⟩])
       (.cond (.tmp 26) (.seq (.draw [⟨⟨none, some 29, .move (.tmp 0)⟩, []⟩,
      ⟨⟨none, some 30, .nilCheck (.tmp 29)⟩, []⟩,
      ⟨⟨none, some 31, .fieldAddr 99 (.tmp 30) 2⟩, []⟩,
      ⟨⟨none, some 32, .load 28 (.tmp 31)⟩, []⟩,
      ⟨⟨none, some 33, .fieldAddr 27 (.tmp 3) 1⟩, []⟩,
      ⟨⟨none, some 34, .load 9 (.tmp 33)⟩, []⟩,
      ⟨⟨none, some 35, .call { callee := (.value (.func 10)), args := #[(.tmp 32), (.tmp 34)], argTypes := #[28, 9] }⟩, []⟩,
      ⟨⟨none, some 28, .move (.tmp 35)⟩, []⟩,
      ⟨⟨none, some 36, .extract (.tmp 28) 0⟩, []⟩,
      ⟨⟨none, some 37, .extract (.tmp 28) 1⟩, []⟩,
      ⟨⟨none, some 7, .alloc 41⟩, []⟩,
      ⟨⟨none, none, .store 41 (.tmp 7) (.tmp 36)⟩, []⟩,
      ⟨⟨none, some 8, .assign (.tmp 37)⟩, []⟩])
         (.seq (.reg [⟨none, some 38, .move (.tmp 8)⟩,
           ⟨none, some 39, .fieldAddr 41 (.tmp 7) 4⟩,
           ⟨none, some 40, .load 3 (.tmp 39)⟩,
           ⟨none, some 41, .build 57 #[(0, (.tmp 38)), (2, (.tmp 40))]⟩,
           ⟨none, none, .store 57 (.tmp 4) (.tmp 41)⟩])
          (.ret)))
        (.skip)))))))
  (.seq (.reg [⟨none, some 42, .move (.tmp 0)⟩,
    ⟨none, some 43, .nilCheck (.tmp 42)⟩,
    ⟨none, some 44, .fieldAddr 99 (.tmp 43) 2⟩,
    ⟨none, some 45, .load 28 (.tmp 44)⟩,
    ⟨none, some 46, .fieldAddr 27 (.tmp 3) 1⟩,
    ⟨none, some 47, .load 9 (.tmp 46)⟩,
    ⟨none, some 48, .call { callee := (.value (.func 14)), args := #[(.tmp 45), (.tmp 47)], argTypes := #[28, 9] }⟩,
    ⟨none, some 49, .build 57 #[(3, (.tmp 48))]⟩,
    ⟨none, none, .store 57 (.tmp 4) (.tmp 49)⟩])
   (.ret)))
theorem com85 : com Tryz.prog 50 ((Tryz.f85.body).getD .skip) = g85 := by kernel_rfl
theorem enter85 {args : List Value} {h : Heap} {R : Value → Heap → Prop} (hN : args.length ≤ 50) (q : AWC Tryz.prog 50 g85 (RetQ Tryz.prog [.cell 4 57] R) (frOf args) h) : ACall Tryz.prog 85 args h R :=
  C_call Tryz.func85 (by kernel_rfl) com85 (by kernel_rfl) (by kernel_rfl) hN q

/-- ( *bindle/play.Stage).change -/
noncomputable def g86 : AC :=
 .seq (.reg [⟨none, some 3, .box 27 (.tmp 1)⟩,
  ⟨none, some 4, .assign (.const (.int .i64 0))⟩])
 (.seq (.seq (.reg [⟨none, some 6, .fieldAddr 27 (.tmp 3) 0⟩,
    ⟨none, some 7, .load 3 (.tmp 6)⟩])
   (.block 0 (.seq (.reg [⟨none, some 9, .binOp .eql 3 (.tmp 7) (.const (.int .i64 3)) 3⟩,
      ⟨none, some 8, .assign (.tmp 9)⟩])
     (.cond (.tmp 8) (.seq (.reg [⟨none, some 10, .move (.tmp 0)⟩,
        ⟨none, some 11, .nilCheck (.tmp 10)⟩,
        ⟨none, some 12, .fieldAddr 99 (.tmp 11) 2⟩,
        ⟨none, some 13, .load 28 (.tmp 12)⟩,
        ⟨none, some 14, .fieldAddr 27 (.tmp 3) 1⟩,
        ⟨none, some 15, .load 9 (.tmp 14)⟩,
        ⟨none, some 16, .fieldAddr 27 (.tmp 3) 2⟩,
        ⟨none, some 17, .load 22 (.tmp 16)⟩,
        ⟨none, some 18, .fieldAddr 27 (.tmp 3) 3⟩,
        ⟨none, some 19, .load 3 (.tmp 18)⟩,
        ⟨none, some 20, .call { callee := (.value (.func 25)), args := #[(.tmp 13), (.tmp 15), (.tmp 17), (.tmp 19)], argTypes := #[28, 9, 22, 3] }⟩,
        ⟨none, some 4, .assign (.tmp 20)⟩])
       (.ret))
      (.seq (.reg [⟨none, some 22, .binOp .eql 3 (.tmp 7) (.const (.int .i64 4)) 3⟩,
        ⟨none, some 21, .assign (.tmp 22)⟩])
       (.cond (.tmp 21) (.seq (.reg [⟨none, some 23, .move (.tmp 0)⟩,
          ⟨none, some 24, .nilCheck (.tmp 23)⟩,
          ⟨none, some 25, .fieldAddr 99 (.tmp 24) 2⟩,
          ⟨none, some 26, .load 28 (.tmp 25)⟩,
          ⟨none, some 27, .fieldAddr 27 (.tmp 3) 1⟩,
          ⟨none, some 28, .load 9 (.tmp 27)⟩,
          ⟨none, some 29, .call { callee := (.value (.func 26)), args := #[(.tmp 26), (.tmp 28)], argTypes := #[28, 9] }⟩,
          ⟨none, some 4, .assign (.tmp 29)⟩])
         (.ret))
        (.seq (.reg [⟨none, some 31, .binOp .eql 3 (.tmp 7) (.const (.int .i64 5)) 3⟩,
          ⟨none, some 30, .assign (.tmp 31)⟩])
         (.cond (.tmp 30) (.seq (.reg [⟨none, some 32, .move (.tmp 0)⟩,
            ⟨none, some 33, .nilCheck (.tmp 32)⟩,
            ⟨none, some 34, .fieldAddr 99 (.tmp 33) 2⟩,
            ⟨none, some 35, .load 28 (.tmp 34)⟩,
            ⟨none, some 36, .fieldAddr 27 (.tmp 3) 2⟩,
            ⟨none, some 37, .load 22 (.tmp 36)⟩,
            ⟨none, some 38, .call { callee := (.value (.func 27)), args := #[(.tmp 35), (.tmp 37)], argTypes := #[28, 22] }⟩,
            ⟨none, some 4, .assign (.tmp 38)⟩])
           (.ret))
          (.seq (.reg [⟨none, some 40, .binOp .eql 3 (.tmp 7) (.const (.int .i64 6)) 3⟩,
            ⟨none, some 39, .assign (.tmp 40)⟩])
           (.cond (.tmp 39) (.seq (.reg [⟨none, some 41, .move (.tmp 0)⟩,
              ⟨none, some 42, .nilCheck (.tmp 41)⟩,
              ⟨none, some 43, .fieldAddr 99 (.tmp 42) 2⟩,
              ⟨none, some 44, .load 28 (.tmp 43)⟩,
              ⟨none, some 45, .call { callee := (.value (.func 28)), args := #[(.tmp 44)], argTypes := #[28] }⟩,
              ⟨none, some 4, .assign (.tmp 45)⟩])
             (.ret))
            (.seq (.reg [⟨none, some 47, .binOp .eql 3 (.tmp 7) (.const (.int .i64 7)) 3⟩,
              ⟨none, some 46, .assign (.tmp 47)⟩])
             (.cond (.tmp 46) (.seq (.reg [⟨none, some 48, .move (.tmp 0)⟩,
                ⟨none, some 49, .nilCheck (.tmp 48)⟩,
                ⟨none, some 50, .fieldAddr 99 (.tmp 49) 2⟩,
                ⟨none, some 51, .load 28 (.tmp 50)⟩,
                ⟨none, some 52, .call { callee := (.value (.func 29)), args := #[(.tmp 51)], argTypes := #[28] }⟩,
                ⟨none, some 4, .assign (.tmp 52)⟩])
               (.ret))
              (.seq (.reg [⟨none, some 54, .binOp .eql 3 (.tmp 7) (.const (.int .i64 11)) 3⟩,
                ⟨none, some 53, .assign (.tmp 54)⟩])
               (.cond (.tmp 53) (.seq (.reg [⟨none, some 55, .move (.tmp 0)⟩,
                  ⟨none, some 56, .nilCheck (.tmp 55)⟩,
                  ⟨none, some 57, .fieldAddr 99 (.tmp 56) 2⟩,
                  ⟨none, some 58, .load 28 (.tmp 57)⟩,
                  ⟨none, some 59, .fieldAddr 27 (.tmp 3) 1⟩,
                  ⟨none, some 60, .load 9 (.tmp 59)⟩,
                  ⟨none, some 61, .call { callee := (.value (.func 30)), args := #[(.tmp 58), (.tmp 60)], argTypes := #[28, 9] }⟩,
                  ⟨none, some 4, .assign (.tmp 61)⟩])
                 (.ret))
                (.seq (.reg [⟨none, some 63, .binOp .eql 3 (.tmp 7) (.const (.int .i64 12)) 3⟩,
                  ⟨none, some 62, .assign (.tmp 63)⟩])
                 (.cond (.tmp 62) (.seq (.reg [⟨none, some 64, .move (.tmp 0)⟩,
                    ⟨none, some 65, .nilCheck (.tmp 64)⟩,
                    ⟨none, some 66, .fieldAddr 99 (.tmp 65) 2⟩,
                    ⟨none, some 67, .load 28 (.tmp 66)⟩,
                    ⟨none, some 68, .call { callee := (.value (.func 24)), args := #[(.tmp 67)], argTypes := #[28] }⟩,
                    ⟨none, some 4, .assign (.tmp 68)⟩])
                   (.ret))
                  (.seq (.reg [⟨none, some 70, .binOp .eql 3 (.tmp 7) (.const (.int .i64 13)) 3⟩,
                    ⟨none, some 69, .assign (.tmp 70)⟩])
                   (.cond (.tmp 69) (.seq (.reg [⟨none, some 71, .move (.tmp 0)⟩,
                      ⟨none, some 72, .nilCheck (.tmp 71)⟩,
                      ⟨none, some 73, .fieldAddr 99 (.tmp 72) 2⟩,
                      ⟨none, some 74, .load 28 (.tmp 73)⟩,
                      ⟨none, some 75, .fieldAddr 27 (.tmp 3) 3⟩,
                      ⟨none, some 76, .load 3 (.tmp 75)⟩,
                      ⟨none, some 77, .call { callee := (.value (.func 31)), args := #[(.tmp 74), (.tmp 76)], argTypes := #[28, 3] }⟩,
                      ⟨none, some 4, .assign (.tmp 77)⟩])
                     (.ret))
                    (.skip)))))))))))))))))))
  (.seq (.reg [⟨none, some 78, .move (.tmp 0)⟩,
    ⟨none, some 79, .nilCheck (.tmp 78)⟩,
    ⟨none, some 80, .fieldAddr 99 (.tmp 79) 2⟩,
    ⟨none, some 81, .load 28 (.tmp 80)⟩,
    ⟨none, some 82, .call { callee := (.value (.func 6)), args := #[(.tmp 81)], argTypes := #[28] }⟩,
    ⟨none, some 5, .assign (.tmp 82)⟩])
   (.seq (.seq (.reg [⟨none, some 83, .move (.tmp 5)⟩,
      ⟨none, some 84, .binOp .neq 32 (.tmp 83) (.const (.int .i64 8)) 32⟩])
     (.cond (.tmp 84) (.reg [⟨none, some 85, .move (.tmp 0)⟩,
       ⟨none, some 86, .nilCheck (.tmp 85)⟩,
       ⟨none, some 87, .fieldAddr 99 (.tmp 86) 2⟩,
       ⟨none, none, .store 28 (.tmp 87) (.const (.pointer none))⟩])
      (.skip)))
    (.seq (.reg [⟨none, some 88, .move (.tmp 5)⟩,
      ⟨none, some 4, .assign (.tmp 88)⟩])
     (.ret)))))
theorem com86 : com Tryz.prog 89 ((Tryz.f86.body).getD .skip) = g86 := by kernel_rfl
theorem enter86 {args : List Value} {h : Heap} {R : Value → Heap → Prop} (hN : args.length ≤ 89) (q : AWC Tryz.prog 89 g86 (RetQ Tryz.prog [.tmp 4] R) (frOf args) h) : ACall Tryz.prog 86 args h R :=
  C_call Tryz.func86 (by kernel_rfl) com86 (by kernel_rfl) (by kernel_rfl) hN q

/-- bindle/play.Each -/
noncomputable def g87 : AC :=
 .seq (.reg [⟨none, some 2, .box 3 (.tmp 0)⟩,
  ⟨none, some 3, .box 102 (.tmp 1)⟩,
  ⟨none, some 4, .assign (.const .nilFunc)⟩])
 (.seq (.reg [⟨none, some 5, .makeFunc (.func 135) #[] #[(.tmp 2), (.tmp 3)]⟩,
   ⟨none, some 4, .assign (.tmp 5)⟩])
  (.ret))
theorem com87 : com Tryz.prog 6 ((Tryz.f87.body).getD .skip) = g87 := by kernel_rfl
theorem enter87 {args : List Value} {h : Heap} {R : Value → Heap → Prop} (hN : args.length ≤ 6) (q : AWC Tryz.prog 6 g87 (RetQ Tryz.prog [.tmp 4] R) (frOf args) h) : ACall Tryz.prog 87 args h R :=
  C_call Tryz.func87 (by kernel_rfl) com87 (by kernel_rfl) (by kernel_rfl) hN q

/-- bindle/foot.Write -/
noncomputable def g88 : AC :=
 .seq (.reg [⟨none, some 4, .assign (.const (.slice none 0 0))⟩,
  ⟨none, some 5, .assign (.const (.int .i64 0))⟩])
 (.seq (.reg [⟨none, some 10, .move (.tmp 1)⟩,
   ⟨none, some 11, .call { callee := (.value (.func 137)), args := #[(.tmp 10)], argTypes := #[91] }⟩,
   ⟨none, some 9, .move (.tmp 11)⟩,
   ⟨none, some 12, .extract (.tmp 9) 0⟩,
   ⟨none, some 13, .extract (.tmp 9) 1⟩,
   ⟨none, some 6, .assign (.tmp 12)⟩,
   ⟨none, some 7, .assign (.tmp 13)⟩])
  (.seq (.seq (.reg [⟨none, some 14, .move (.tmp 7)⟩,
     ⟨none, some 15, .binOp .neq 32 (.tmp 14) (.const (.int .i64 0)) 32⟩])
    (.cond (.tmp 15) (.seq (.reg [⟨none, some 16, .move (.tmp 7)⟩,
       ⟨none, some 4, .assign (.const (.slice none 0 0))⟩,
       ⟨none, some 5, .assign (.tmp 16)⟩])
      (.ret))
     (.skip)))
   (.seq (.reg [⟨none, some 18, .move (.tmp 0)⟩,
     ⟨none, some 19, .move (.tmp 1)⟩,
     ⟨none, some 20, .call { callee := (.builtin .len), args := #[(.tmp 19)], argTypes := #[91] }⟩,
     ⟨none, some 21, .move (.tmp 6)⟩,
     ⟨none, some 22, .call { callee := (.builtin .len), args := #[(.tmp 21)], argTypes := #[22] }⟩,
     ⟨none, some 23, .move (.tmp 0)⟩,
     ⟨none, some 24, .move (.tmp 6)⟩,
     ⟨none, some 25, .call { callee := (.value (.func 68)), args := #[(.tmp 23), (.tmp 24)], argTypes := #[94, 22] }⟩,
     ⟨none, some 26, .build 210 #[(0, (.tmp 20)), (1, (.tmp 22)), (2, (.tmp 25))]⟩,
     ⟨none, some 27, .call { callee := (.value (.func 138)), args := #[(.tmp 18), (.tmp 26)], argTypes := #[94, 210] }⟩,
     ⟨none, some 17, .move (.tmp 27)⟩,
     ⟨none, some 28, .extract (.tmp 17) 0⟩,
     ⟨none, some 29, .extract (.tmp 17) 1⟩,
     ⟨none, some 8, .assign (.tmp 28)⟩,
     ⟨none, some 7, .assign (.tmp 29)⟩])
    (.seq (.seq (.reg [⟨none, some 30, .move (.tmp 7)⟩,
       ⟨none, some 31, .binOp .neq 32 (.tmp 30) (.const (.int .i64 0)) 32⟩])
      (.cond (.tmp 31) (.seq (.reg [⟨none, some 32, .move (.tmp 7)⟩,
         ⟨none, some 4, .assign (.const (.slice none 0 0))⟩,
         ⟨none, some 5, .assign (.tmp 32)⟩])
        (.ret))
       (.skip)))
     (.seq (.reg [⟨none, some 33, .move (.tmp 6)⟩,
       ⟨none, some 34, .move (.tmp 8)⟩,
       ⟨none, some 35, .call { callee := (.builtin .append), args := #[(.tmp 33), (.tmp 34)], argTypes := #[22, 22] }⟩,
       ⟨none, some 4, .assign (.tmp 35)⟩,
       ⟨none, some 5, .assign (.const (.int .i64 0))⟩])
      (.ret))))))
theorem com88 : com Tryz.prog 36 ((Tryz.f88.body).getD .skip) = g88 := by kernel_rfl
theorem enter88 {args : List Value} {h : Heap} {R : Value → Heap → Prop} (hN : args.length ≤ 36) (q : AWC Tryz.prog 36 g88 (RetQ Tryz.prog [.tmp 4, .tmp 5] R) (frOf args) h) : ACall Tryz.prog 88 args h R :=
  C_call Tryz.func88 (by kernel_rfl) com88 (by kernel_rfl) (by kernel_rfl) hN q

/-- ( *bindle/commit.Store).left -/
noncomputable def g89 : AC :=
 .seq (.reg [⟨none, some 2, .assign (.const (.bool false))⟩])
 (.seq (.seq (.reg [⟨none, some 3, .move (.tmp 0)⟩,
    ⟨none, some 4, .nilCheck (.tmp 3)⟩,
    ⟨none, some 5, .fieldAddr 145 (.tmp 4) 5⟩,
    ⟨none, some 6, .fieldAddr 141 (.tmp 5) 3⟩,
    ⟨none, some 7, .load 4 (.tmp 6)⟩])
   (.cond (.tmp 7) (.seq (.reg [⟨none, some 8, .move (.tmp 0)⟩,
      ⟨none, some 9, .nilCheck (.tmp 8)⟩,
      ⟨none, some 10, .fieldAddr 145 (.tmp 9) 5⟩,
      ⟨none, some 11, .fieldAddr 141 (.tmp 10) 0⟩,
      ⟨none, some 12, .load 3 (.tmp 11)⟩,
      ⟨none, some 13, .binOp .leq 3 (.tmp 12) (.const (.int .i64 2147483645)) 3⟩,
      ⟨none, some 2, .assign (.tmp 13)⟩])
     (.ret))
    (.skip)))
  (.seq (.reg [⟨none, some 14, .move (.tmp 0)⟩,
    ⟨none, some 15, .nilCheck (.tmp 14)⟩,
    ⟨none, some 16, .fieldAddr 145 (.tmp 15) 5⟩,
    ⟨none, some 17, .fieldAddr 141 (.tmp 16) 0⟩,
    ⟨none, some 18, .load 3 (.tmp 17)⟩,
    ⟨none, some 19, .binOp .leq 3 (.tmp 18) (.const (.int .i64 2147483646)) 3⟩,
    ⟨none, some 2, .assign (.tmp 19)⟩])
   (.ret)))
theorem com89 : com Tryz.prog 20 ((Tryz.f89.body).getD .skip) = g89 := by kernel_rfl
theorem enter89 {args : List Value} {h : Heap} {R : Value → Heap → Prop} (hN : args.length ≤ 20) (q : AWC Tryz.prog 20 g89 (RetQ Tryz.prog [.tmp 2] R) (frOf args) h) : ACall Tryz.prog 89 args h R :=
  C_call Tryz.func89 (by kernel_rfl) com89 (by kernel_rfl) (by kernel_rfl) hN q

/-- bindle/space.Fits -/
noncomputable def g90 : AC :=
 .seq (.reg [⟨none, some 6, .assign (.const (.bool false))⟩])
 (.seq (.reg [⟨none, some 7, .assign (.const (.int .i64 2097152))⟩])
  (.seq (.seq (.reg [⟨none, some 10, .move (.tmp 0)⟩,
     ⟨none, some 11, .move (.tmp 1)⟩,
     ⟨none, some 12, .move (.tmp 2)⟩,
     ⟨none, some 13, .build 211 #[(0, (.tmp 10)), (1, (.tmp 11)), (2, (.tmp 12))]⟩,
     ⟨none, some 14, .move (.const (.int .i64 0))⟩])
    (.block 0 (.loop (.seq (.reg [⟨none, some 15, .binOp .lss 3 (.tmp 14) (.const (.int .i64 3)) 3⟩])
       (.seq (.cond (.tmp 15) (.skip)
         (.exit 0))
        (.seq (.block 1 (.seq (.reg [⟨none, some 16, .index 211 (.tmp 13) (.tmp 14)⟩,
            ⟨none, some 9, .assign (.tmp 16)⟩])
           (.seq (.seq (.reg [⟨none, some 17, .move (.tmp 9)⟩,
              ⟨none, some 18, .binOp .lss 3 (.tmp 17) (.const (.int .i64 0)) 3⟩,
              ⟨none, some 19, .move (.tmp 18)⟩,
              ⟨some (some 19, false), some 20, .move (.tmp 9)⟩,
              ⟨some (some 19, false), some 21, .move (.tmp 7)⟩,
              ⟨some (some 19, false), some 22, .binOp .gtr 3 (.tmp 20) (.tmp 21) 3⟩,
              ⟨none, some 23, .pick (.tmp 19) (.const (.bool true)) (.tmp 22)⟩])
             (.cond (.tmp 23) (.seq (.reg [⟨none, some 6, .assign (.const (.bool false))⟩])
               (.ret))
              (.skip)))
            (.reg [⟨none, some 24, .move (.tmp 7)⟩,
             ⟨none, some 25, .move (.tmp 9)⟩,
             ⟨none, some 26, .binOp .sub 3 (.tmp 24) (.tmp 25) 3⟩,
             ⟨none, some 7, .assign (.tmp 26)⟩]))))
         (.reg [⟨none, some 27, .binOp .add 3 (.tmp 14) (.const (.int .i64 1)) 3⟩,
          ⟨none, some 14, .move (.tmp 27)⟩])))))))
   (.seq (.reg [⟨none, some 6, .assign (.const (.bool true))⟩])
    (.ret))))
theorem com90 : com Tryz.prog 28 ((Tryz.f90.body).getD .skip) = g90 := by kernel_rfl
theorem enter90 {args : List Value} {h : Heap} {R : Value → Heap → Prop} (hN : args.length ≤ 28) (q : AWC Tryz.prog 28 g90 (RetQ Tryz.prog [.tmp 6] R) (frOf args) h) : ACall Tryz.prog 90 args h R :=
  C_call Tryz.func90 (by kernel_rfl) com90 (by kernel_rfl) (by kernel_rfl) hN q

/-- ( *bindle/crashfs.FS).Write -/
noncomputable def g91 : AC :=
 .seq (.reg [⟨none, some 8, .assign (.const (.int .i64 0))⟩])
 (.seq (.seq (.reg [⟨none, some 13, .move (.tmp 0)⟩,
    ⟨none, some 14, .call { callee := (.value (.func 119)), args := #[(.tmp 13)], argTypes := #[29] }⟩,
    ⟨none, some 9, .assign (.tmp 14)⟩])
   (.seq (.reg [⟨none, some 15, .move (.tmp 9)⟩,
     ⟨none, some 16, .binOp .neq 32 (.tmp 15) (.const (.int .i64 0)) 32⟩])
    (.cond (.tmp 16) (.seq (.reg [⟨none, some 17, .move (.tmp 9)⟩,
       ⟨none, some 8, .assign (.tmp 17)⟩])
      (.ret))
     (.skip))))
  (.seq (.reg [⟨none, some 18, .move (.tmp 0)⟩,
    ⟨none, some 19, .move (.tmp 1)⟩,
    ⟨none, some 20, .call { callee := (.value (.func 120)), args := #[(.tmp 18), (.tmp 19)], argTypes := #[29, 3] }⟩,
    ⟨none, some 10, .assign (.tmp 20)⟩])
   (.seq (.reg [⟨none, some 22, .move (.tmp 10)⟩,
     ⟨none, some 23, .move (.tmp 2)⟩,
     ⟨none, some 24, .move (.tmp 3)⟩,
     ⟨none, some 25, .call { callee := (.builtin .len), args := #[(.tmp 24)], argTypes := #[22] }⟩,
     ⟨none, some 26, .call { callee := (.value (.func 139)), args := #[(.tmp 22), (.tmp 23), (.tmp 25)], argTypes := #[190, 3, 3] }⟩,
     ⟨none, some 21, .move (.tmp 26)⟩,
     ⟨none, some 27, .extract (.tmp 21) 0⟩,
     ⟨none, some 28, .extract (.tmp 21) 1⟩,
     ⟨none, some 11, .assign (.tmp 27)⟩,
     ⟨none, some 12, .assign (.tmp 28)⟩])
    (.seq (.block 0 (.seq (.reg [⟨none, some 30, .move (.tmp 12)⟩,
        ⟨none, some 31, .unOp .not 4 (.tmp 30)⟩,
        ⟨none, some 29, .assign (.tmp 31)⟩])
       (.cond (.tmp 29) (.seq (.reg [⟨none, some 8, .assign (.const (.int .i64 1))⟩])
         (.ret))
        (.seq (.draw [⟨⟨none, some 33, .move (.tmp 11)⟩, []⟩,
      ⟨⟨none, some 34, .move (.tmp 10)⟩, []⟩,
      ⟨⟨none, some 35, .call { callee := (.value (.func 124)), args := #[(.tmp 34)], argTypes := #[190] }⟩, []⟩,
      ⟨⟨none, some 36, .binOp .gtr 3 (.tmp 33) (.tmp 35) 3⟩, []⟩,
      ⟨⟨none, some 37, .move (.tmp 36)⟩, []⟩,
      ⟨⟨some (some 37, true), some 38, .move (.tmp 11)⟩, []⟩,
      ⟨⟨some (some 37, true), some 39, .move (.tmp 10)⟩, []⟩,
      ⟨⟨some (some 37, true), some 42, .move (.tmp 0)⟩, []⟩,
      ⟨⟨some (some 37, true), some 43, .nilCheck (.tmp 42)⟩, []⟩,
      ⟨⟨some (some 37, true), some 44, .fieldAddr 77 (.tmp 43) 2⟩, []⟩,
      ⟨⟨some (some 37, true), some 45, .load 3 (.tmp 44)⟩, []⟩,
      ⟨⟨some (some 37, true), some 46, .move (.tmp 0)⟩, []⟩,
      ⟨⟨some (some 37, true), some 40, .call { callee := (.value (.func 124)), args := #[(.tmp 39)], argTypes := #[190] }⟩, [⟨some (some 37, true), some 45, .load 3 (.tmp 44)⟩]⟩,
      ⟨⟨some (some 37, true), some 41, .binOp .sub 3 (.tmp 38) (.tmp 40) 3⟩, []⟩,
      ⟨⟨some (some 37, true), some 47, .call { callee := (.value (.func 140)), args := #[(.tmp 46)], argTypes := #[29] }⟩, [⟨some (some 37, true), some 45, .load 3 (.tmp 44)⟩]⟩,
      ⟨⟨some (some 37, true), some 48, .binOp .sub 3 (.tmp 45) (.tmp 47) 3⟩, []⟩,
      ⟨⟨some (some 37, true), some 49, .binOp .gtr 3 (.tmp 41) (.tmp 48) 3⟩, []⟩,
      ⟨⟨none, some 50, .pick (.tmp 37) (.tmp 49) (.const (.bool false))⟩, []⟩,
      ⟨⟨none, some 32, .assign (.tmp 50)⟩, []⟩])
         (.cond (.tmp 32) (.seq (.reg [⟨none, some 51, .move (.tmp 0)⟩,
            ⟨none, some 52, .nilCheck (.tmp 51)⟩,
            ⟨none, some 53, .fieldAddr 77 (.tmp 52) 4⟩,
            ⟨none, some 54, .load 3 (.tmp 53)⟩,
            ⟨none, some 55, .binOp .add 3 (.tmp 54) (.const (.int .i64 1)) 3⟩,
            ⟨none, some 56, .nilCheck (.tmp 51)⟩,
            ⟨none, some 57, .fieldAddr 77 (.tmp 56) 4⟩,
            ⟨none, none, .store 3 (.tmp 57) (.tmp 55)⟩])
           (.seq (.reg [⟨none, some 8, .assign (.const (.int .i64 9))⟩])
            (.ret)))
          (.skip))))))
     (.seq (.reg [⟨none, some 58, .move (.tmp 10)⟩,
       ⟨none, some 59, .move (.tmp 2)⟩,
       ⟨none, some 60, .move (.tmp 3)⟩,
       ⟨none, some 61, .call { callee := (.value (.func 141)), args := #[(.tmp 58), (.tmp 59), (.tmp 60)], argTypes := #[190, 3, 22] }⟩,
       ⟨none, some 8, .assign (.tmp 61)⟩])
      (.ret))))))
theorem com91 : com Tryz.prog 62 ((Tryz.f91.body).getD .skip) = g91 := by kernel_rfl
theorem enter91 {args : List Value} {h : Heap} {R : Value → Heap → Prop} (hN : args.length ≤ 62) (q : AWC Tryz.prog 62 g91 (RetQ Tryz.prog [.tmp 8] R) (frOf args) h) : ACall Tryz.prog 91 args h R :=
  C_call Tryz.func91 (by kernel_rfl) com91 (by kernel_rfl) (by kernel_rfl) hN q

/-- ( *bindle/commit.Store).put -/
noncomputable def g93 : AC :=
 .seq (.reg [⟨none, some 3, .box 141 (.tmp 1)⟩,
  ⟨none, some 4, .assign (.const (.int .i64 0))⟩])
 (.seq (.reg [⟨none, some 9, .move (.tmp 0)⟩,
   ⟨none, some 10, .nilCheck (.tmp 9)⟩,
   ⟨none, some 11, .fieldAddr 145 (.tmp 10) 1⟩,
   ⟨none, some 12, .load 94 (.tmp 11)⟩,
   ⟨none, some 13, .load 141 (.tmp 3)⟩,
   ⟨none, some 14, .call { callee := (.value (.func 127)), args := #[(.tmp 12), (.tmp 13)], argTypes := #[94, 141] }⟩,
   ⟨none, some 8, .move (.tmp 14)⟩,
   ⟨none, some 15, .extract (.tmp 8) 0⟩,
   ⟨none, some 16, .extract (.tmp 8) 1⟩,
   ⟨none, some 5, .assign (.tmp 15)⟩,
   ⟨none, some 6, .assign (.tmp 16)⟩])
  (.seq (.draw [⟨⟨none, some 17, .move (.tmp 0)⟩, []⟩,
      ⟨⟨none, some 18, .nilCheck (.tmp 17)⟩, []⟩,
      ⟨⟨none, some 19, .fieldAddr 145 (.tmp 18) 0⟩, []⟩,
      ⟨⟨none, some 20, .load 29 (.tmp 19)⟩, []⟩,
      ⟨⟨none, some 21, .move (.tmp 0)⟩, []⟩,
      ⟨⟨none, some 22, .nilCheck (.tmp 21)⟩, []⟩,
      ⟨⟨none, some 23, .fieldAddr 145 (.tmp 22) 3⟩, []⟩,
      ⟨⟨none, some 24, .load 3 (.tmp 23)⟩, []⟩,
      ⟨⟨none, some 25, .fieldAddr 141 (.tmp 3) 0⟩, []⟩,
      ⟨⟨none, some 26, .load 3 (.tmp 25)⟩, []⟩,
      ⟨⟨none, some 28, .move (.tmp 5)⟩, []⟩,
      ⟨⟨none, some 27, .call { callee := (.value (.func 143)), args := #[(.tmp 26)], argTypes := #[3] }⟩, [⟨none, some 20, .load 29 (.tmp 19)⟩, ⟨none, some 24, .load 3 (.tmp 23)⟩]⟩,
      ⟨⟨none, some 29, .call { callee := (.value (.func 91)), args := #[(.tmp 20), (.tmp 24), (.tmp 27), (.tmp 28)], argTypes := #[29, 3, 3, 22] }⟩, []⟩,
      ⟨⟨none, some 7, .assign (.tmp 29)⟩, []⟩])
   (.seq (.seq (.reg [⟨none, some 30, .move (.tmp 7)⟩,
      ⟨none, some 31, .binOp .eql 32 (.tmp 30) (.const (.int .i64 0)) 32⟩])
     (.cond (.tmp 31) (.reg [⟨none, some 32, .move (.tmp 0)⟩,
       ⟨none, some 33, .nilCheck (.tmp 32)⟩,
       ⟨none, some 34, .fieldAddr 145 (.tmp 33) 0⟩,
       ⟨none, some 35, .load 29 (.tmp 34)⟩,
       ⟨none, some 36, .move (.tmp 0)⟩,
       ⟨none, some 37, .nilCheck (.tmp 36)⟩,
       ⟨none, some 38, .fieldAddr 145 (.tmp 37) 3⟩,
       ⟨none, some 39, .load 3 (.tmp 38)⟩,
       ⟨none, some 40, .call { callee := (.value (.func 75)), args := #[(.tmp 35), (.tmp 39)], argTypes := #[29, 3] }⟩,
       ⟨none, some 7, .assign (.tmp 40)⟩])
      (.skip)))
    (.seq (.seq (.reg [⟨none, some 41, .move (.tmp 7)⟩,
       ⟨none, some 42, .binOp .eql 32 (.tmp 41) (.const (.int .i64 0)) 32⟩])
      (.cond (.tmp 42) (.reg [⟨none, some 43, .move (.tmp 0)⟩,
        ⟨none, some 44, .load 141 (.tmp 3)⟩,
        ⟨none, some 45, .nilCheck (.tmp 43)⟩,
        ⟨none, some 46, .fieldAddr 145 (.tmp 45) 5⟩,
        ⟨none, none, .store 141 (.tmp 46) (.tmp 44)⟩])
       (.skip)))
     (.seq (.reg [⟨none, some 47, .move (.tmp 7)⟩,
       ⟨none, some 4, .assign (.tmp 47)⟩])
      (.ret))))))
theorem com93 : com Tryz.prog 48 ((Tryz.f93.body).getD .skip) = g93 := by kernel_rfl
theorem enter93 {args : List Value} {h : Heap} {R : Value → Heap → Prop} (hN : args.length ≤ 48) (q : AWC Tryz.prog 48 g93 (RetQ Tryz.prog [.tmp 4] R) (frOf args) h) : ACall Tryz.prog 93 args h R :=
  C_call Tryz.func93 (by kernel_rfl) com93 (by kernel_rfl) (by kernel_rfl) hN q

/-- bindle/codec.Pack -/
noncomputable def g94 : AC :=
 .seq (.reg [⟨none, some 4, .assign (.const (.int .i64 0))⟩,
  ⟨none, some 5, .assign (.const (.slice none 0 0))⟩,
  ⟨none, some 6, .assign (.const (.int .i64 0))⟩])
 (.seq (.seq (.reg [⟨none, some 8, .move (.tmp 0)⟩,
    ⟨none, some 9, .call { callee := (.builtin .len), args := #[(.tmp 8)], argTypes := #[22] }⟩,
    ⟨none, some 10, .call { callee := (.value (.func 110)), args := #[(.tmp 9)], argTypes := #[3] }⟩,
    ⟨none, some 11, .unOp .not 4 (.tmp 10)⟩])
   (.cond (.tmp 11) (.seq (.reg [⟨none, some 4, .assign (.const (.int .i64 0))⟩,
      ⟨none, some 5, .assign (.const (.slice none 0 0))⟩,
      ⟨none, some 6, .assign (.const (.int .i64 5))⟩])
     (.ret))
    (.skip)))
  (.seq (.seq (.reg [⟨none, some 12, .move (.tmp 1)⟩,
     ⟨none, some 13, .binOp .geq 3 (.tmp 12) (.const (.int .i64 0)) 3⟩])
    (.cond (.tmp 13) (.seq (.reg [⟨none, some 7, .alloc 217⟩])
      (.seq (.reg [⟨none, some 14, .move (.tmp 0)⟩,
        ⟨none, some 15, .move (.tmp 1)⟩,
        ⟨none, some 16, .call { callee := (.value (.func 145)), args := #[(.tmp 14), (.tmp 15)], argTypes := #[22, 3] }⟩,
        ⟨none, some 17, .call { callee := (.value (.func 144)), args := #[(.tmp 7), (.tmp 16)], argTypes := #[219, 220] }⟩])
       (.seq (.reg [⟨none, some 18, .call { callee := (.value (.func 146)), args := #[(.tmp 7)], argTypes := #[217] }⟩,
         ⟨none, some 19, .binOp .add 3 (.tmp 18) (.const (.int .i64 7)) 3⟩,
         ⟨none, some 20, .binOp .quo 3 (.tmp 19) (.const (.int .i64 8)) 3⟩,
         ⟨none, some 21, .move (.tmp 0)⟩,
         ⟨none, some 22, .call { callee := (.builtin .len), args := #[(.tmp 21)], argTypes := #[22] }⟩,
         ⟨none, some 23, .binOp .lss 3 (.tmp 20) (.tmp 22) 3⟩])
        (.cond (.tmp 23) (.seq (.reg [⟨none, some 24, .call { callee := (.value (.func 147)), args := #[(.tmp 7)], argTypes := #[217] }⟩,
           ⟨none, some 4, .assign (.const (.int .i64 1))⟩,
           ⟨none, some 5, .assign (.tmp 24)⟩,
           ⟨none, some 6, .assign (.const (.int .i64 0))⟩])
          (.ret))
         (.skip)))))
     (.skip)))
   (.seq (.reg [⟨none, some 25, .buildSlice 22 0 #[]⟩,
     ⟨none, some 26, .move (.tmp 0)⟩,
     ⟨none, some 27, .call { callee := (.builtin .append), args := #[(.tmp 25), (.tmp 26)], argTypes := #[22, 22] }⟩,
     ⟨none, some 4, .assign (.const (.int .i64 0))⟩,
     ⟨none, some 5, .assign (.tmp 27)⟩,
     ⟨none, some 6, .assign (.const (.int .i64 0))⟩])
    (.ret))))
theorem com94 : com Tryz.prog 28 ((Tryz.f94.body).getD .skip) = g94 := by kernel_rfl
theorem enter94 {args : List Value} {h : Heap} {R : Value → Heap → Prop} (hN : args.length ≤ 28) (q : AWC Tryz.prog 28 g94 (RetQ Tryz.prog [.tmp 4, .tmp 5, .tmp 6] R) (frOf args) h) : ACall Tryz.prog 94 args h R :=
  C_call Tryz.func94 (by kernel_rfl) com94 (by kernel_rfl) (by kernel_rfl) hN q

/-- bindle/entry.Right -/
noncomputable def g95 : AC :=
 .seq (.reg [⟨none, some 1, .box 41 (.tmp 0)⟩,
  ⟨none, some 2, .assign (.const (.bool false))⟩])
 (.seq (.draw [⟨⟨none, some 4, .fieldAddr 41 (.tmp 1) 1⟩, []⟩,
      ⟨⟨none, some 5, .load 3 (.tmp 4)⟩, []⟩,
      ⟨⟨none, some 6, .call { callee := (.value (.func 148)), args := #[(.tmp 5), (.const (.int .i64 1024)), (.const (.int .i64 1073741824))], argTypes := #[3, 3, 3] }⟩, []⟩,
      ⟨⟨none, some 7, .move (.tmp 6)⟩, []⟩,
      ⟨⟨some (some 7, true), some 8, .fieldAddr 41 (.tmp 1) 2⟩, []⟩,
      ⟨⟨some (some 7, true), some 9, .load 3 (.tmp 8)⟩, []⟩,
      ⟨⟨some (some 7, true), some 10, .fieldAddr 41 (.tmp 1) 1⟩, []⟩,
      ⟨⟨some (some 7, true), some 11, .load 3 (.tmp 10)⟩, []⟩,
      ⟨⟨some (some 7, true), some 12, .fieldAddr 41 (.tmp 1) 0⟩, []⟩,
      ⟨⟨some (some 7, true), some 13, .load 9 (.tmp 12)⟩, []⟩,
      ⟨⟨some (some 7, true), some 14, .call { callee := (.value (.func 60)), args := #[(.tmp 13)], argTypes := #[9] }⟩, [⟨some (some 7, true), some 9, .load 3 (.tmp 8)⟩, ⟨some (some 7, true), some 11, .load 3 (.tmp 10)⟩]⟩,
      ⟨⟨some (some 7, true), some 15, .binOp .add 3 (.tmp 11) (.tmp 14) 3⟩, []⟩,
      ⟨⟨some (some 7, true), some 16, .binOp .eql 3 (.tmp 9) (.tmp 15) 3⟩, []⟩,
      ⟨⟨none, some 17, .pick (.tmp 7) (.tmp 16) (.const (.bool false))⟩, []⟩,
      ⟨⟨none, some 3, .assign (.tmp 17)⟩, []⟩])
  (.seq (.reg [⟨none, some 18, .move (.tmp 3)⟩,
    ⟨none, some 19, .move (.tmp 18)⟩,
    ⟨some (some 19, true), some 20, .fieldAddr 41 (.tmp 1) 0⟩,
    ⟨some (some 19, true), some 21, .load 9 (.tmp 20)⟩,
    ⟨some (some 19, true), some 22, .call { callee := (.value (.func 54)), args := #[(.tmp 21)], argTypes := #[9] }⟩,
    ⟨none, some 23, .pick (.tmp 19) (.tmp 22) (.const (.bool false))⟩,
    ⟨none, some 24, .move (.tmp 23)⟩,
    ⟨some (some 24, true), some 25, .fieldAddr 41 (.tmp 1) 6⟩,
    ⟨some (some 24, true), some 26, .load 3 (.tmp 25)⟩,
    ⟨some (some 24, true), some 27, .call { callee := (.value (.func 148)), args := #[(.tmp 26), (.const (.int .i64 0)), (.const (.int .i64 2))], argTypes := #[3, 3, 3] }⟩,
    ⟨none, some 28, .pick (.tmp 24) (.tmp 27) (.const (.bool false))⟩,
    ⟨none, some 29, .move (.tmp 28)⟩,
    ⟨some (some 29, true), some 30, .fieldAddr 41 (.tmp 1) 3⟩,
    ⟨some (some 29, true), some 31, .load 3 (.tmp 30)⟩,
    ⟨some (some 29, true), some 32, .call { callee := (.value (.func 148)), args := #[(.tmp 31), (.const (.int .i64 0)), (.const (.int .i64 262144))], argTypes := #[3, 3, 3] }⟩,
    ⟨none, some 33, .pick (.tmp 29) (.tmp 32) (.const (.bool false))⟩,
    ⟨none, some 34, .move (.tmp 33)⟩,
    ⟨some (some 34, true), some 35, .fieldAddr 41 (.tmp 1) 4⟩,
    ⟨some (some 34, true), some 36, .load 3 (.tmp 35)⟩,
    ⟨some (some 34, true), some 37, .call { callee := (.value (.func 148)), args := #[(.tmp 36), (.const (.int .i64 0)), (.const (.int .i64 65536))], argTypes := #[3, 3, 3] }⟩,
    ⟨none, some 38, .pick (.tmp 34) (.tmp 37) (.const (.bool false))⟩,
    ⟨none, some 2, .assign (.tmp 38)⟩])
   (.ret)))
theorem com95 : com Tryz.prog 39 ((Tryz.f95.body).getD .skip) = g95 := by kernel_rfl
theorem enter95 {args : List Value} {h : Heap} {R : Value → Heap → Prop} (hN : args.length ≤ 39) (q : AWC Tryz.prog 39 g95 (RetQ Tryz.prog [.tmp 2] R) (frOf args) h) : ACall Tryz.prog 95 args h R :=
  C_call Tryz.func95 (by kernel_rfl) com95 (by kernel_rfl) (by kernel_rfl) hN q

/-- slices.Insert[[]bindle/api.Member,bindle/api.Member] -/
noncomputable def g96 : AC :=
 .seq (.reg [⟨none, some 6, .assign (.const (.slice none 0 0))⟩])
 (.seq (.reg [⟨none, some 10, .move (.tmp 0)⟩,
   ⟨none, some 11, .move (.tmp 1)⟩,
   ⟨none, some 12, .slice 91 (.tmp 10) (some (.tmp 11)) none none⟩])
  (.seq (.reg [⟨none, some 13, .move (.tmp 2)⟩,
    ⟨none, some 14, .call { callee := (.builtin .len), args := #[(.tmp 13)], argTypes := #[91] }⟩,
    ⟨none, some 7, .assign (.tmp 14)⟩])
   (.seq (.seq (.reg [⟨none, some 15, .move (.tmp 7)⟩,
      ⟨none, some 16, .binOp .eql 3 (.tmp 15) (.const (.int .i64 0)) 3⟩])
     (.cond (.tmp 16) (.seq (.reg [⟨none, some 17, .move (.tmp 0)⟩,
        ⟨none, some 6, .assign (.tmp 17)⟩])
       (.ret))
      (.skip)))
    (.seq (.reg [⟨none, some 18, .move (.tmp 0)⟩,
      ⟨none, some 19, .call { callee := (.builtin .len), args := #[(.tmp 18)], argTypes := #[91] }⟩,
      ⟨none, some 8, .assign (.tmp 19)⟩])
     (.seq (.seq (.reg [⟨none, some 20, .move (.tmp 1)⟩,
        ⟨none, some 21, .move (.tmp 8)⟩,
        ⟨none, some 22, .binOp .eql 3 (.tmp 20) (.tmp 21) 3⟩])
       (.cond (.tmp 22) (.seq (.reg [⟨none, some 23, .move (.tmp 0)⟩,
          ⟨none, some 24, .move (.tmp 2)⟩,
          ⟨none, some 25, .call { callee := (.builtin .append), args := #[(.tmp 23), (.tmp 24)], argTypes := #[91, 91] }⟩,
          ⟨none, some 6, .assign (.tmp 25)⟩])
         (.ret))
        (.skip)))
      (.seq (.seq (.reg [⟨none, some 26, .move (.tmp 8)⟩,
         ⟨none, some 27, .move (.tmp 7)⟩,
         ⟨none, some 28, .binOp .add 3 (.tmp 26) (.tmp 27) 3⟩,
         ⟨none, some 29, .move (.tmp 0)⟩,
         ⟨none, some 30, .call { callee := (.builtin .cap), args := #[(.tmp 29)], argTypes := #[91] }⟩,
         ⟨none, some 31, .binOp .gtr 3 (.tmp 28) (.tmp 30) 3⟩])
        (.cond (.tmp 31) (.seq (.reg [⟨none, some 32, .move (.tmp 0)⟩,
           ⟨none, some 33, .move (.tmp 1)⟩,
           ⟨none, some 34, .slice 91 (.tmp 32) none (some (.tmp 33)) none⟩,
           ⟨none, some 35, .move (.tmp 8)⟩,
           ⟨none, some 36, .move (.tmp 7)⟩,
           ⟨none, some 37, .binOp .add 3 (.tmp 35) (.tmp 36) 3⟩,
           ⟨none, some 38, .move (.tmp 1)⟩,
           ⟨none, some 39, .binOp .sub 3 (.tmp 37) (.tmp 38) 3⟩,
           ⟨none, some 40, .call { callee := (.builtin .append), args := #[(.tmp 34), (.tmp 39)], argTypes := #[91, 3] }⟩,
           ⟨none, some 9, .assign (.tmp 40)⟩])
          (.seq (.reg [⟨none, some 41, .move (.tmp 9)⟩,
            ⟨none, some 42, .move (.tmp 1)⟩,
            ⟨none, some 43, .slice 91 (.tmp 41) (some (.tmp 42)) none none⟩,
            ⟨none, some 44, .move (.tmp 2)⟩,
            ⟨none, some 45, .call { callee := (.builtin .copy), args := #[(.tmp 43), (.tmp 44)], argTypes := #[91, 91] }⟩])
           (.seq (.reg [⟨none, some 46, .move (.tmp 9)⟩,
             ⟨none, some 47, .move (.tmp 1)⟩,
             ⟨none, some 48, .move (.tmp 7)⟩,
             ⟨none, some 49, .binOp .add 3 (.tmp 47) (.tmp 48) 3⟩,
             ⟨none, some 50, .slice 91 (.tmp 46) (some (.tmp 49)) none none⟩,
             ⟨none, some 51, .move (.tmp 0)⟩,
             ⟨none, some 52, .move (.tmp 1)⟩,
             ⟨none, some 53, .slice 91 (.tmp 51) (some (.tmp 52)) none none⟩,
             ⟨none, some 54, .call { callee := (.builtin .copy), args := #[(.tmp 50), (.tmp 53)], argTypes := #[91, 91] }⟩])
            (.seq (.reg [⟨none, some 55, .move (.tmp 9)⟩,
              ⟨none, some 6, .assign (.tmp 55)⟩])
             (.ret)))))
         (.skip)))
       (.seq (.reg [⟨none, some 56, .move (.tmp 0)⟩,
         ⟨none, some 57, .move (.tmp 8)⟩,
         ⟨none, some 58, .move (.tmp 7)⟩,
         ⟨none, some 59, .binOp .add 3 (.tmp 57) (.tmp 58) 3⟩,
         ⟨none, some 60, .slice 91 (.tmp 56) none (some (.tmp 59)) none⟩,
         ⟨none, some 0, .assign (.tmp 60)⟩])
        (.seq (.seq (.reg [⟨none, some 61, .move (.tmp 2)⟩,
           ⟨none, some 62, .move (.tmp 0)⟩,
           ⟨none, some 63, .move (.tmp 1)⟩,
           ⟨none, some 64, .move (.tmp 7)⟩,
           ⟨none, some 65, .binOp .add 3 (.tmp 63) (.tmp 64) 3⟩,
           ⟨none, some 66, .slice 91 (.tmp 62) (some (.tmp 65)) none none⟩,
           ⟨none, some 67, .call { callee := (.value (.func 149)), args := #[(.tmp 61), (.tmp 66)], argTypes := #[91, 91] }⟩,
           ⟨none, some 68, .unOp .not 4 (.tmp 67)⟩])
          (.cond (.tmp 68) (.seq (.reg [⟨none, some 69, .move (.tmp 0)⟩,
             ⟨none, some 70, .move (.tmp 1)⟩,
             ⟨none, some 71, .move (.tmp 7)⟩,
             ⟨none, some 72, .binOp .add 3 (.tmp 70) (.tmp 71) 3⟩,
             ⟨none, some 73, .slice 91 (.tmp 69) (some (.tmp 72)) none none⟩,
             ⟨none, some 74, .move (.tmp 0)⟩,
             ⟨none, some 75, .move (.tmp 1)⟩,
             ⟨none, some 76, .slice 91 (.tmp 74) (some (.tmp 75)) none none⟩,
             ⟨none, some 77, .call { callee := (.builtin .copy), args := #[(.tmp 73), (.tmp 76)], argTypes := #[91, 91] }⟩])
            (.seq (.reg [⟨none, some 78, .move (.tmp 0)⟩,
              ⟨none, some 79, .move (.tmp 1)⟩,
              ⟨none, some 80, .slice 91 (.tmp 78) (some (.tmp 79)) none none⟩,
              ⟨none, some 81, .move (.tmp 2)⟩,
              ⟨none, some 82, .call { callee := (.builtin .copy), args := #[(.tmp 80), (.tmp 81)], argTypes := #[91, 91] }⟩])
             (.seq (.reg [⟨none, some 83, .move (.tmp 0)⟩,
               ⟨none, some 6, .assign (.tmp 83)⟩])
              (.ret))))
           (.skip)))
         (.seq (.reg [⟨none, some 84, .move (.tmp 0)⟩,
           ⟨none, some 85, .move (.tmp 8)⟩,
           ⟨none, some 86, .slice 91 (.tmp 84) (some (.tmp 85)) none none⟩,
           ⟨none, some 87, .move (.tmp 2)⟩,
           ⟨none, some 88, .call { callee := (.builtin .copy), args := #[(.tmp 86), (.tmp 87)], argTypes := #[91, 91] }⟩])
          (.seq (.reg [⟨none, some 89, .move (.tmp 0)⟩,
            ⟨none, some 90, .move (.tmp 1)⟩,
            ⟨none, some 91, .slice 91 (.tmp 89) (some (.tmp 90)) none none⟩,
            ⟨none, some 92, .move (.tmp 7)⟩,
            ⟨none, some 93, .call { callee := (.value (.func 150)), args := #[(.tmp 91), (.tmp 92)], argTypes := #[91, 3] }⟩])
           (.seq (.reg [⟨none, some 94, .move (.tmp 0)⟩,
             ⟨none, some 6, .assign (.tmp 94)⟩])
            (.ret))))))))))))
theorem com96 : com Tryz.prog 95 ((Tryz.f96.body).getD .skip) = g96 := by kernel_rfl
theorem enter96 {args : List Value} {h : Heap} {R : Value → Heap → Prop} (hN : args.length ≤ 95) (q : AWC Tryz.prog 95 g96 (RetQ Tryz.prog [.tmp 6] R) (frOf args) h) : ACall Tryz.prog 96 args h R :=
  C_call Tryz.func96 (by kernel_rfl) com96 (by kernel_rfl) (by kernel_rfl) hN q

/-- bindle/record.Take -/
noncomputable def g97 : AC :=
 .seq (.reg [⟨none, some 6, .alloc 167⟩,
  ⟨none, some 7, .assign (.const (.int .i64 0))⟩])
 (.seq (.seq (.reg [⟨none, some 12, .move (.tmp 1)⟩,
    ⟨none, some 13, .move (.tmp 2)⟩,
    ⟨none, some 14, .call { callee := (.value (.func 151)), args := #[(.tmp 12), (.tmp 13)], argTypes := #[22, 3] }⟩])
   (.cond (.tmp 14) (.seq (.reg [⟨none, some 15, .move (.tmp 0)⟩,
      ⟨none, some 16, .move (.tmp 1)⟩,
      ⟨none, some 17, .move (.tmp 2)⟩,
      ⟨none, some 18, .call { callee := (.value (.func 152)), args := #[(.tmp 15), (.tmp 16), (.tmp 17)], argTypes := #[94, 22, 3] }⟩,
      ⟨none, some 19, .extract (.tmp 18) 0⟩,
      ⟨none, some 20, .extract (.tmp 18) 1⟩,
      ⟨none, none, .store 167 (.tmp 6) (.tmp 19)⟩,
      ⟨none, some 7, .assign (.tmp 20)⟩])
     (.ret))
    (.skip)))
  (.seq (.reg [⟨none, some 22, .move (.tmp 0)⟩,
    ⟨none, some 23, .move (.tmp 1)⟩,
    ⟨none, some 24, .move (.tmp 2)⟩,
    ⟨none, some 25, .call { callee := (.value (.func 153)), args := #[(.tmp 22), (.tmp 23), (.tmp 24)], argTypes := #[94, 22, 3] }⟩,
    ⟨none, some 21, .move (.tmp 25)⟩,
    ⟨none, some 26, .extract (.tmp 21) 0⟩,
    ⟨none, some 27, .extract (.tmp 21) 1⟩,
    ⟨none, some 28, .extract (.tmp 21) 2⟩,
    ⟨none, some 8, .alloc 115⟩,
    ⟨none, none, .store 115 (.tmp 8) (.tmp 26)⟩,
    ⟨none, some 9, .assign (.tmp 27)⟩,
    ⟨none, some 10, .assign (.tmp 28)⟩])
   (.seq (.seq (.reg [⟨none, some 29, .move (.tmp 10)⟩,
      ⟨none, some 30, .binOp .neq 32 (.tmp 29) (.const (.int .i64 0)) 32⟩])
     (.cond (.tmp 30) (.seq (.reg [⟨none, some 31, .build 167 #[]⟩,
        ⟨none, some 32, .move (.tmp 10)⟩,
        ⟨none, none, .store 167 (.tmp 6) (.tmp 31)⟩,
        ⟨none, some 7, .assign (.tmp 32)⟩])
       (.ret))
      (.skip)))
    (.seq (.reg [⟨none, some 33, .fieldAddr 115 (.tmp 8) 1⟩,
      ⟨none, some 34, .load 9 (.tmp 33)⟩,
      ⟨none, some 35, .move (.tmp 2)⟩,
      ⟨none, some 36, .move (.tmp 9)⟩,
      ⟨none, some 37, .fieldAddr 115 (.tmp 8) 3⟩,
      ⟨none, some 38, .load 3 (.tmp 37)⟩,
      ⟨none, some 39, .fieldAddr 115 (.tmp 8) 2⟩,
      ⟨none, some 40, .load 3 (.tmp 39)⟩,
      ⟨none, some 41, .fieldAddr 115 (.tmp 8) 4⟩,
      ⟨none, some 42, .load 39 (.tmp 41)⟩,
      ⟨none, some 43, .fieldAddr 115 (.tmp 8) 0⟩,
      ⟨none, some 44, .load 3 (.tmp 43)⟩,
      ⟨none, some 45, .build 41 #[(0, (.tmp 34)), (1, (.tmp 35)), (2, (.tmp 36)), (3, (.tmp 38)), (4, (.tmp 40)), (5, (.tmp 42)), (6, (.tmp 44))]⟩,
      ⟨none, some 11, .alloc 41⟩,
      ⟨none, none, .store 41 (.tmp 11) (.tmp 45)⟩])
     (.seq (.block 0 (.seq (.reg [⟨none, some 47, .fieldAddr 115 (.tmp 8) 0⟩,
         ⟨none, some 48, .load 3 (.tmp 47)⟩,
         ⟨none, some 49, .binOp .eql 3 (.tmp 48) (.const (.int .i64 2)) 3⟩,
         ⟨none, some 46, .assign (.tmp 49)⟩])
        (.cond (.tmp 46) (.seq (.reg [⟨none, some 50, .move (.tmp 0)⟩,
           ⟨none, some 51, .move (.tmp 1)⟩,
           ⟨none, some 52, .load 41 (.tmp 11)⟩,
           ⟨none, some 53, .call { callee := (.value (.func 154)), args := #[(.tmp 50), (.tmp 51), (.tmp 52)], argTypes := #[94, 22, 41] }⟩,
           ⟨none, some 54, .extract (.tmp 53) 0⟩,
           ⟨none, some 55, .extract (.tmp 53) 1⟩,
           ⟨none, none, .store 167 (.tmp 6) (.tmp 54)⟩,
           ⟨none, some 7, .assign (.tmp 55)⟩])
          (.ret))
         (.seq (.reg [⟨none, some 57, .fieldAddr 115 (.tmp 8) 3⟩,
           ⟨none, some 58, .load 3 (.tmp 57)⟩,
           ⟨none, some 59, .move (.tmp 1)⟩,
           ⟨none, some 60, .call { callee := (.builtin .len), args := #[(.tmp 59)], argTypes := #[22] }⟩,
           ⟨none, some 61, .move (.tmp 9)⟩,
           ⟨none, some 62, .binOp .sub 3 (.tmp 60) (.tmp 61) 3⟩,
           ⟨none, some 63, .binOp .gtr 3 (.tmp 58) (.tmp 62) 3⟩,
           ⟨none, some 56, .assign (.tmp 63)⟩])
          (.cond (.tmp 56) (.seq (.reg [⟨none, some 64, .build 167 #[]⟩,
             ⟨none, none, .store 167 (.tmp 6) (.tmp 64)⟩,
             ⟨none, some 7, .assign (.const (.int .i64 2))⟩])
            (.ret))
           (.skip))))))
      (.seq (.reg [⟨none, some 65, .load 41 (.tmp 11)⟩,
        ⟨none, some 66, .move (.tmp 9)⟩,
        ⟨none, some 67, .fieldAddr 115 (.tmp 8) 3⟩,
        ⟨none, some 68, .load 3 (.tmp 67)⟩,
        ⟨none, some 69, .binOp .add 3 (.tmp 66) (.tmp 68) 3⟩,
        ⟨none, some 70, .build 167 #[(0, (.const (.int .i64 1))), (1, (.tmp 65)), (2, (.tmp 69))]⟩,
        ⟨none, none, .store 167 (.tmp 6) (.tmp 70)⟩,
        ⟨none, some 7, .assign (.const (.int .i64 0))⟩])
       (.ret)))))))
theorem com97 : com Tryz.prog 71 ((Tryz.f97.body).getD .skip) = g97 := by kernel_rfl
theorem enter97 {args : List Value} {h : Heap} {R : Value → Heap → Prop} (hN : args.length ≤ 71) (q : AWC Tryz.prog 71 g97 (RetQ Tryz.prog [.cell 6 167, .tmp 7] R) (frOf args) h) : ACall Tryz.prog 97 args h R :=
  C_call Tryz.func97 (by kernel_rfl) com97 (by kernel_rfl) (by kernel_rfl) hN q

/-- slices.ContainsFunc[[]string,string] -/
noncomputable def g98 : AC :=
 .seq (.reg [⟨none, some 4, .assign (.const (.bool false))⟩])
 (.seq (.reg [⟨none, some 5, .move (.tmp 0)⟩,
   ⟨none, some 6, .move (.tmp 1)⟩,
   ⟨none, some 7, .call { callee := (.value (.func 155)), args := #[(.tmp 5), (.tmp 6)], argTypes := #[50, 108] }⟩,
   ⟨none, some 8, .binOp .geq 3 (.tmp 7) (.const (.int .i64 0)) 3⟩,
   ⟨none, some 4, .assign (.tmp 8)⟩])
  (.ret))
theorem com98 : com Tryz.prog 9 ((Tryz.f98.body).getD .skip) = g98 := by kernel_rfl
theorem enter98 {args : List Value} {h : Heap} {R : Value → Heap → Prop} (hN : args.length ≤ 9) (q : AWC Tryz.prog 9 g98 (RetQ Tryz.prog [.tmp 4] R) (frOf args) h) : ACall Tryz.prog 98 args h R :=
  C_call Tryz.func98 (by kernel_rfl) com98 (by kernel_rfl) (by kernel_rfl) hN q

/-- strings.Split -/
noncomputable def g99 : AC :=
 .seq (.reg [⟨none, some 4, .assign (.const (.slice none 0 0))⟩])
 (.seq (.reg [⟨none, some 5, .move (.tmp 0)⟩,
   ⟨none, some 6, .move (.tmp 1)⟩,
   ⟨none, some 7, .call { callee := (.value (.func 156)), args := #[(.tmp 5), (.tmp 6), (.const (.int .i64 0)), (.const (.int .i64 (-1)))], argTypes := #[9, 9, 3, 3] }⟩,
   ⟨none, some 4, .assign (.tmp 7)⟩])
  (.ret))
theorem com99 : com Tryz.prog 8 ((Tryz.f99.body).getD .skip) = g99 := by kernel_rfl
theorem enter99 {args : List Value} {h : Heap} {R : Value → Heap → Prop} (hN : args.length ≤ 8) (q : AWC Tryz.prog 8 g99 (RetQ Tryz.prog [.tmp 4] R) (frOf args) h) : ACall Tryz.prog 99 args h R :=
  C_call Tryz.func99 (by kernel_rfl) com99 (by kernel_rfl) (by kernel_rfl) hN q

/-- bindle/member.Right$1 -/
noncomputable def g100 : AC :=
 .seq (.reg [⟨none, some 2, .assign (.const (.bool false))⟩])
 (.seq (.reg [⟨none, some 3, .move (.tmp 0)⟩,
   ⟨none, some 4, .call { callee := (.value (.func 101)), args := #[(.tmp 3)], argTypes := #[9] }⟩,
   ⟨none, some 5, .unOp .not 4 (.tmp 4)⟩,
   ⟨none, some 2, .assign (.tmp 5)⟩])
  (.ret))
theorem com100 : com Tryz.prog 6 ((Tryz.f100.body).getD .skip) = g100 := by kernel_rfl
theorem enter100 {args : List Value} {h : Heap} {R : Value → Heap → Prop} (hN : args.length ≤ 6) (q : AWC Tryz.prog 6 g100 (RetQ Tryz.prog [.tmp 2] R) (frOf args) h) : ACall Tryz.prog 100 args h R :=
  C_call Tryz.func100 (by kernel_rfl) com100 (by kernel_rfl) (by kernel_rfl) hN q

/-- bindle/member.part -/
noncomputable def g101 : AC :=
 .seq (.reg [⟨none, some 2, .assign (.const (.bool false))⟩])
 (.seq (.seq (.reg [⟨none, some 5, .move (.tmp 0)⟩,
    ⟨none, some 6, .range 9 (.tmp 5)⟩])
   (.block 0 (.loop (.seq (.reg [⟨none, some 7, .next (.tmp 6) true⟩,
       ⟨none, some 8, .extract (.tmp 7) 0⟩])
      (.seq (.cond (.tmp 8) (.skip)
        (.exit 0))
       (.block 1 (.seq (.reg [⟨none, some 9, .extract (.tmp 7) 2⟩,
          ⟨none, some 4, .assign (.tmp 9)⟩])
         (.seq (.reg [⟨none, some 10, .move (.tmp 4)⟩,
           ⟨none, some 11, .binOp .lss 21 (.tmp 10) (.const (.int .i32 33)) 21⟩,
           ⟨none, some 12, .move (.tmp 11)⟩,
           ⟨some (some 12, false), some 13, .move (.tmp 4)⟩,
           ⟨some (some 12, false), some 14, .binOp .gtr 21 (.tmp 13) (.const (.int .i32 126)) 21⟩,
           ⟨none, some 15, .pick (.tmp 12) (.const (.bool true)) (.tmp 14)⟩])
          (.cond (.tmp 15) (.seq (.reg [⟨none, some 2, .assign (.const (.bool false))⟩])
            (.ret))
           (.skip))))))))))
  (.seq (.reg [⟨none, some 16, .move (.tmp 0)⟩,
    ⟨none, some 17, .binOp .neq 9 (.tmp 16) (.const (.string { data := #[] })) 9⟩,
    ⟨none, some 18, .move (.tmp 17)⟩,
    ⟨some (some 18, true), some 19, .move (.tmp 0)⟩,
    ⟨some (some 18, true), some 20, .binOp .neq 9 (.tmp 19) (.const (.string { data := #[46] })) 9⟩,
    ⟨none, some 21, .pick (.tmp 18) (.tmp 20) (.const (.bool false))⟩,
    ⟨none, some 22, .move (.tmp 21)⟩,
    ⟨some (some 22, true), some 23, .move (.tmp 0)⟩,
    ⟨some (some 22, true), some 24, .binOp .neq 9 (.tmp 23) (.const (.string { data := #[46, 46] })) 9⟩,
    ⟨none, some 25, .pick (.tmp 22) (.tmp 24) (.const (.bool false))⟩,
    ⟨none, some 2, .assign (.tmp 25)⟩])
   (.ret)))
theorem com101 : com Tryz.prog 26 ((Tryz.f101.body).getD .skip) = g101 := by kernel_rfl
theorem enter101 {args : List Value} {h : Heap} {R : Value → Heap → Prop} (hN : args.length ≤ 26) (q : AWC Tryz.prog 26 g101 (RetQ Tryz.prog [.tmp 2] R) (frOf args) h) : ACall Tryz.prog 101 args h R :=
  C_call Tryz.func101 (by kernel_rfl) com101 (by kernel_rfl) (by kernel_rfl) hN q

/-- bindle/local.Right -/
noncomputable def g102 : AC :=
 .seq (.reg [⟨none, some 1, .box 115 (.tmp 0)⟩,
  ⟨none, some 2, .assign (.const (.bool false))⟩])
 (.seq (.seq (.reg [⟨none, some 3, .fieldAddr 115 (.tmp 1) 1⟩,
    ⟨none, some 4, .load 9 (.tmp 3)⟩,
    ⟨none, some 5, .call { callee := (.value (.func 54)), args := #[(.tmp 4)], argTypes := #[9] }⟩,
    ⟨none, some 6, .unOp .not 4 (.tmp 5)⟩,
    ⟨none, some 7, .move (.tmp 6)⟩,
    ⟨some (some 7, false), some 8, .fieldAddr 115 (.tmp 1) 2⟩,
    ⟨some (some 7, false), some 9, .load 3 (.tmp 8)⟩,
    ⟨some (some 7, false), some 10, .binOp .lss 3 (.tmp 9) (.const (.int .i64 0)) 3⟩,
    ⟨none, some 11, .pick (.tmp 7) (.const (.bool true)) (.tmp 10)⟩,
    ⟨none, some 12, .move (.tmp 11)⟩,
    ⟨some (some 12, false), some 13, .fieldAddr 115 (.tmp 1) 2⟩,
    ⟨some (some 12, false), some 14, .load 3 (.tmp 13)⟩,
    ⟨some (some 12, false), some 15, .binOp .gtr 3 (.tmp 14) (.const (.int .i64 65536)) 3⟩,
    ⟨none, some 16, .pick (.tmp 12) (.const (.bool true)) (.tmp 15)⟩,
    ⟨none, some 17, .move (.tmp 16)⟩,
    ⟨some (some 17, false), some 18, .fieldAddr 115 (.tmp 1) 3⟩,
    ⟨some (some 17, false), some 19, .load 3 (.tmp 18)⟩,
    ⟨some (some 17, false), some 20, .binOp .lss 3 (.tmp 19) (.const (.int .i64 0)) 3⟩,
    ⟨none, some 21, .pick (.tmp 17) (.const (.bool true)) (.tmp 20)⟩])
   (.cond (.tmp 21) (.seq (.reg [⟨none, some 2, .assign (.const (.bool false))⟩])
     (.ret))
    (.skip)))
  (.seq (.seq (.reg [⟨none, some 22, .fieldAddr 115 (.tmp 1) 0⟩,
     ⟨none, some 23, .load 3 (.tmp 22)⟩])
    (.block 0 (.seq (.reg [⟨none, some 25, .binOp .eql 3 (.tmp 23) (.const (.int .i64 0)) 3⟩,
       ⟨none, some 24, .assign (.tmp 25)⟩])
      (.cond (.tmp 24) (.seq (.reg [⟨none, some 26, .fieldAddr 115 (.tmp 1) 3⟩,
         ⟨none, some 27, .load 3 (.tmp 26)⟩,
         ⟨none, some 28, .fieldAddr 115 (.tmp 1) 2⟩,
         ⟨none, some 29, .load 3 (.tmp 28)⟩,
         ⟨none, some 30, .binOp .eql 3 (.tmp 27) (.tmp 29) 3⟩,
         ⟨none, some 2, .assign (.tmp 30)⟩])
        (.ret))
       (.seq (.reg [⟨none, some 32, .binOp .eql 3 (.tmp 23) (.const (.int .i64 1)) 3⟩,
         ⟨none, some 31, .assign (.tmp 32)⟩])
        (.cond (.tmp 31) (.seq (.reg [⟨none, some 33, .fieldAddr 115 (.tmp 1) 3⟩,
           ⟨none, some 34, .load 3 (.tmp 33)⟩,
           ⟨none, some 35, .fieldAddr 115 (.tmp 1) 2⟩,
           ⟨none, some 36, .load 3 (.tmp 35)⟩,
           ⟨none, some 37, .binOp .lss 3 (.tmp 34) (.tmp 36) 3⟩,
           ⟨none, some 2, .assign (.tmp 37)⟩])
          (.ret))
         (.seq (.reg [⟨none, some 39, .binOp .eql 3 (.tmp 23) (.const (.int .i64 2)) 3⟩,
           ⟨none, some 38, .assign (.tmp 39)⟩])
          (.cond (.tmp 38) (.seq (.reg [⟨none, some 40, .fieldAddr 115 (.tmp 1) 2⟩,
             ⟨none, some 41, .load 3 (.tmp 40)⟩,
             ⟨none, some 42, .binOp .eql 3 (.tmp 41) (.const (.int .i64 0)) 3⟩,
             ⟨none, some 43, .move (.tmp 42)⟩,
             ⟨some (some 43, true), some 44, .fieldAddr 115 (.tmp 1) 3⟩,
             ⟨some (some 43, true), some 45, .load 3 (.tmp 44)⟩,
             ⟨some (some 43, true), some 46, .binOp .eql 3 (.tmp 45) (.const (.int .i64 0)) 3⟩,
             ⟨none, some 47, .pick (.tmp 43) (.tmp 46) (.const (.bool false))⟩,
             ⟨none, some 48, .move (.tmp 47)⟩,
             ⟨some (some 48, true), some 49, .fieldAddr 115 (.tmp 1) 4⟩,
             ⟨some (some 48, true), some 50, .load 39 (.tmp 49)⟩,
             ⟨some (some 48, true), some 51, .binOp .eql 39 (.tmp 50) (.const (.int .u32 0)) 39⟩,
             ⟨none, some 52, .pick (.tmp 48) (.tmp 51) (.const (.bool false))⟩,
             ⟨none, some 2, .assign (.tmp 52)⟩])
            (.ret))
           (.skip)))))))))
   (.seq (.reg [⟨none, some 2, .assign (.const (.bool false))⟩])
    (.ret))))
theorem com102 : com Tryz.prog 53 ((Tryz.f102.body).getD .skip) = g102 := by kernel_rfl
theorem enter102 {args : List Value} {h : Heap} {R : Value → Heap → Prop} (hN : args.length ≤ 53) (q : AWC Tryz.prog 53 g102 (RetQ Tryz.prog [.tmp 2] R) (frOf args) h) : ACall Tryz.prog 102 args h R :=
  C_call Tryz.func102 (by kernel_rfl) com102 (by kernel_rfl) (by kernel_rfl) hN q

/-- bindle/field.Put -/
noncomputable def g103 : AC :=
 .seq (.reg [⟨none, some 6, .assign (.const (.slice none 0 0))⟩])
 (.seq (.seq (.reg [⟨none, some 7, .move (.tmp 2)⟩,
    ⟨none, some 8, .call { callee := (.value (.func 157)), args := #[(.tmp 7)], argTypes := #[3] }⟩,
    ⟨none, some 9, .move (.const (.int .i64 0))⟩])
   (.block 0 (.loop (.seq (.reg [⟨none, some 10, .binOp .lss 3 (.tmp 9) (.tmp 8) 3⟩])
      (.seq (.cond (.tmp 10) (.skip)
        (.exit 0))
       (.seq (.block 1 (.seq (.reg [⟨none, some 11, .move (.tmp 0)⟩,
           ⟨none, some 12, .move (.tmp 1)⟩,
           ⟨none, some 13, .convert 39 5 (.tmp 12)⟩,
           ⟨none, some 14, .buildSlice 22 1 #[(0, (.tmp 13))]⟩,
           ⟨none, some 15, .call { callee := (.builtin .append), args := #[(.tmp 11), (.tmp 14)], argTypes := #[22, 22] }⟩,
           ⟨none, some 0, .assign (.tmp 15)⟩])
          (.reg [⟨none, some 16, .move (.tmp 1)⟩,
           ⟨none, some 17, .binOp .shr 39 (.tmp 16) (.const (.int .u64 8)) 179⟩,
           ⟨none, some 1, .assign (.tmp 17)⟩])))
        (.reg [⟨none, some 18, .binOp .add 3 (.tmp 9) (.const (.int .i64 1)) 3⟩,
         ⟨none, some 9, .move (.tmp 18)⟩])))))))
  (.seq (.reg [⟨none, some 19, .move (.tmp 0)⟩,
    ⟨none, some 6, .assign (.tmp 19)⟩])
   (.ret)))
theorem com103 : com Tryz.prog 20 ((Tryz.f103.body).getD .skip) = g103 := by kernel_rfl
theorem enter103 {args : List Value} {h : Heap} {R : Value → Heap → Prop} (hN : args.length ≤ 20) (q : AWC Tryz.prog 20 g103 (RetQ Tryz.prog [.tmp 6] R) (frOf args) h) : ACall Tryz.prog 103 args h R :=
  C_call Tryz.func103 (by kernel_rfl) com103 (by kernel_rfl) (by kernel_rfl) hN q

/-- bindle/slot.Dirty -/
noncomputable def g104 : AC :=
 .seq (.reg [⟨none, some 1, .box 141 (.tmp 0)⟩,
  ⟨none, some 2, .alloc 141⟩,
  ⟨none, some 3, .assign (.const (.bool false))⟩])
 (.seq (.reg [⟨none, some 4, .load 141 (.tmp 1)⟩,
   ⟨none, some 5, .fieldAddr 141 (.tmp 1) 1⟩,
   ⟨none, some 6, .load 3 (.tmp 5)⟩,
   ⟨none, some 7, .build 141 #[(1, (.tmp 6))]⟩,
   ⟨none, some 8, .call { callee := (.value (.func 142)), args := #[(.tmp 4), (.tmp 7)], argTypes := #[141, 141] }⟩,
   ⟨none, some 9, .extract (.tmp 8) 0⟩,
   ⟨none, some 10, .extract (.tmp 8) 1⟩,
   ⟨none, none, .store 141 (.tmp 2) (.tmp 9)⟩,
   ⟨none, some 3, .assign (.tmp 10)⟩])
  (.ret))
theorem com104 : com Tryz.prog 11 ((Tryz.f104.body).getD .skip) = g104 := by kernel_rfl
theorem enter104 {args : List Value} {h : Heap} {R : Value → Heap → Prop} (hN : args.length ≤ 11) (q : AWC Tryz.prog 11 g104 (RetQ Tryz.prog [.cell 2 141, .tmp 3] R) (frOf args) h) : ACall Tryz.prog 104 args h R :=
  C_call Tryz.func104 (by kernel_rfl) com104 (by kernel_rfl) (by kernel_rfl) hN q

/-- bindle/entry.Len -/
noncomputable def g107 : AC :=
 .seq (.reg [⟨none, some 2, .assign (.const (.int .i64 0))⟩])
 (.seq (.reg [⟨none, some 3, .assign (.const (.int .i64 0))⟩])
  (.seq (.seq (.reg [⟨none, some 6, .move (.tmp 0)⟩,
     ⟨none, some 7, .call { callee := (.builtin .len), args := #[(.tmp 6)], argTypes := #[91] }⟩,
     ⟨none, some 8, .move (.const (.int .i64 0))⟩])
    (.block 0 (.loop (.seq (.reg [⟨none, some 9, .binOp .lss 3 (.tmp 8) (.tmp 7) 3⟩])
       (.seq (.cond (.tmp 9) (.skip)
         (.exit 0))
        (.seq (.block 1 (.seq (.reg [⟨none, some 10, .indexAddr 91 (.tmp 6) (.tmp 8)⟩,
            ⟨none, some 11, .load 41 (.tmp 10)⟩,
            ⟨none, some 5, .alloc 41⟩,
            ⟨none, none, .store 41 (.tmp 5) (.tmp 11)⟩])
           (.reg [⟨none, some 12, .move (.tmp 3)⟩,
            ⟨none, some 13, .fieldAddr 41 (.tmp 5) 0⟩,
            ⟨none, some 14, .load 9 (.tmp 13)⟩,
            ⟨none, some 15, .call { callee := (.builtin .len), args := #[(.tmp 14)], argTypes := #[9] }⟩,
            ⟨none, some 16, .binOp .add 3 (.const (.int .i64 18)) (.tmp 15) 3⟩,
            ⟨none, some 17, .binOp .add 3 (.tmp 12) (.tmp 16) 3⟩,
            ⟨none, some 3, .assign (.tmp 17)⟩])))
         (.reg [⟨none, some 18, .binOp .add 3 (.tmp 8) (.const (.int .i64 1)) 3⟩,
          ⟨none, some 8, .move (.tmp 18)⟩])))))))
   (.seq (.reg [⟨none, some 19, .move (.tmp 3)⟩,
     ⟨none, some 2, .assign (.tmp 19)⟩])
    (.ret))))
theorem com107 : com Tryz.prog 20 ((Tryz.f107.body).getD .skip) = g107 := by kernel_rfl
theorem enter107 {args : List Value} {h : Heap} {R : Value → Heap → Prop} (hN : args.length ≤ 20) (q : AWC Tryz.prog 20 g107 (RetQ Tryz.prog [.tmp 2] R) (frOf args) h) : ACall Tryz.prog 107 args h R :=
  C_call Tryz.func107 (by kernel_rfl) com107 (by kernel_rfl) (by kernel_rfl) hN q

/-- bindle/commit.first -/
noncomputable def g109 : AC :=
 .seq (.reg [⟨none, some 6, .alloc 141⟩])
 (.seq (.reg [⟨none, some 7, .move (.tmp 0)⟩,
   ⟨none, some 8, .move (.tmp 1)⟩,
   ⟨none, some 9, .binOp .add 3 (.const (.int .i64 1024)) (.tmp 8) 3⟩,
   ⟨none, some 10, .move (.tmp 2)⟩,
   ⟨none, some 11, .build 141 #[(0, (.tmp 7)), (1, (.tmp 9)), (2, (.tmp 10)), (3, (.const (.bool true)))]⟩,
   ⟨none, none, .store 141 (.tmp 6) (.tmp 11)⟩])
  (.ret))
theorem com109 : com Tryz.prog 12 ((Tryz.f109.body).getD .skip) = g109 := by kernel_rfl
theorem enter109 {args : List Value} {h : Heap} {R : Value → Heap → Prop} (hN : args.length ≤ 12) (q : AWC Tryz.prog 12 g109 (RetQ Tryz.prog [.cell 6 141] R) (frOf args) h) : ACall Tryz.prog 109 args h R :=
  C_call Tryz.func109 (by kernel_rfl) com109 (by kernel_rfl) (by kernel_rfl) hN q

/-- bindle/codec.small -/
noncomputable def g110 : AC :=
 .seq (.reg [⟨none, some 2, .assign (.const (.bool false))⟩])
 (.seq (.reg [⟨none, some 3, .move (.tmp 0)⟩,
   ⟨none, some 4, .binOp .geq 3 (.tmp 3) (.const (.int .i64 0)) 3⟩,
   ⟨none, some 5, .move (.tmp 4)⟩,
   ⟨some (some 5, true), some 6, .move (.tmp 0)⟩,
   ⟨some (some 5, true), some 7, .binOp .leq 3 (.tmp 6) (.const (.int .i64 65536)) 3⟩,
   ⟨none, some 8, .pick (.tmp 5) (.tmp 7) (.const (.bool false))⟩,
   ⟨none, some 2, .assign (.tmp 8)⟩])
  (.ret))
theorem com110 : com Tryz.prog 9 ((Tryz.f110.body).getD .skip) = g110 := by kernel_rfl
theorem enter110 {args : List Value} {h : Heap} {R : Value → Heap → Prop} (hN : args.length ≤ 9) (q : AWC Tryz.prog 9 g110 (RetQ Tryz.prog [.tmp 2] R) (frOf args) h) : ACall Tryz.prog 110 args h R :=
  C_call Tryz.func110 (by kernel_rfl) com110 (by kernel_rfl) (by kernel_rfl) hN q

/-- slices.BinarySearchFunc[[]bindle/api.Member,bindle/api.Member,string] -/
noncomputable def g113 : AC :=
 .seq (.reg [⟨none, some 6, .assign (.const (.int .i64 0))⟩,
  ⟨none, some 7, .assign (.const (.bool false))⟩])
 (.seq (.reg [⟨none, some 12, .move (.tmp 0)⟩,
   ⟨none, some 13, .call { callee := (.builtin .len), args := #[(.tmp 12)], argTypes := #[91] }⟩,
   ⟨none, some 8, .assign (.tmp 13)⟩])
  (.seq (.reg [⟨none, some 14, .move (.tmp 8)⟩,
    ⟨none, some 9, .assign (.const (.int .i64 0))⟩,
    ⟨none, some 10, .assign (.tmp 14)⟩])
   (.seq (.block 0 (.loop (.seq (.seq (.reg [⟨none, some 15, .move (.tmp 9)⟩,
         ⟨none, some 16, .move (.tmp 10)⟩,
         ⟨none, some 17, .binOp .lss 3 (.tmp 15) (.tmp 16) 3⟩])
        (.cond (.tmp 17) (.skip)
         (.exit 0)))
       (.block 1 (.seq (.reg [⟨none, some 18, .move (.tmp 9)⟩,
          ⟨none, some 19, .move (.tmp 10)⟩,
          ⟨none, some 20, .binOp .add 3 (.tmp 18) (.tmp 19) 3⟩,
          ⟨none, some 21, .convert 3 179 (.tmp 20)⟩,
          ⟨none, some 22, .binOp .shr 179 (.tmp 21) (.const (.int .u64 1)) 179⟩,
          ⟨none, some 23, .convert 179 3 (.tmp 22)⟩,
          ⟨none, some 11, .assign (.tmp 23)⟩])
         (.seq (.reg [⟨none, some 24, .move (.tmp 2)⟩,
           ⟨none, some 25, .move (.tmp 0)⟩,
           ⟨none, some 26, .move (.tmp 11)⟩,
           ⟨none, some 27, .indexAddr 91 (.tmp 25) (.tmp 26)⟩,
           ⟨none, some 28, .load 41 (.tmp 27)⟩,
           ⟨none, some 29, .move (.tmp 1)⟩,
           ⟨none, some 30, .call { callee := (.value (.tmp 24)), args := #[(.tmp 28), (.tmp 29)], argTypes := #[41, 9] }⟩,
           ⟨none, some 31, .binOp .lss 3 (.tmp 30) (.const (.int .i64 0)) 3⟩])
          (.cond (.tmp 31) (.reg [⟨none, some 32, .move (.tmp 11)⟩,
            ⟨none, some 33, .binOp .add 3 (.tmp 32) (.const (.int .i64 1)) 3⟩,
            ⟨none, some 9, .assign (.tmp 33)⟩])
           (.reg [⟨none, some 34, .move (.tmp 11)⟩,
            ⟨none, some 10, .assign (.tmp 34)⟩]))))))))
    (.seq (.reg [⟨none, some 35, .move (.tmp 9)⟩,
      ⟨none, some 36, .move (.tmp 9)⟩,
      ⟨none, some 37, .move (.tmp 8)⟩,
      ⟨none, some 38, .binOp .lss 3 (.tmp 36) (.tmp 37) 3⟩,
      ⟨none, some 39, .move (.tmp 38)⟩,
      ⟨some (some 39, true), some 40, .move (.tmp 2)⟩,
      ⟨some (some 39, true), some 41, .move (.tmp 0)⟩,
      ⟨some (some 39, true), some 42, .move (.tmp 9)⟩,
      ⟨some (some 39, true), some 43, .indexAddr 91 (.tmp 41) (.tmp 42)⟩,
      ⟨some (some 39, true), some 44, .load 41 (.tmp 43)⟩,
      ⟨some (some 39, true), some 45, .move (.tmp 1)⟩,
      ⟨some (some 39, true), some 46, .call { callee := (.value (.tmp 40)), args := #[(.tmp 44), (.tmp 45)], argTypes := #[41, 9] }⟩,
      ⟨some (some 39, true), some 47, .binOp .eql 3 (.tmp 46) (.const (.int .i64 0)) 3⟩,
      ⟨none, some 48, .pick (.tmp 39) (.tmp 47) (.const (.bool false))⟩,
      ⟨none, some 6, .assign (.tmp 35)⟩,
      ⟨none, some 7, .assign (.tmp 48)⟩])
     (.ret)))))
theorem com113 : com Tryz.prog 49 ((Tryz.f113.body).getD .skip) = g113 := by kernel_rfl
theorem enter113 {args : List Value} {h : Heap} {R : Value → Heap → Prop} (hN : args.length ≤ 49) (q : AWC Tryz.prog 49 g113 (RetQ Tryz.prog [.tmp 6, .tmp 7] R) (frOf args) h) : ACall Tryz.prog 113 args h R :=
  C_call Tryz.func113 (by kernel_rfl) com113 (by kernel_rfl) (by kernel_rfl) hN q

/-- ( *bindle/index.Index).Each$1 -/
noncomputable def g116 : AC :=
 .scope (.seq (.label 0)
  (.seq (.reg [⟨none, some 6, .load 91 (.tmp 1)⟩,
    ⟨none, some 7, .call { callee := (.builtin .len), args := #[(.tmp 6)], argTypes := #[91] }⟩,
    ⟨none, some 8, .move (.const (.int .i64 0))⟩])
   (.block 0 (.loop (.seq (.reg [⟨none, some 9, .binOp .lss 3 (.tmp 8) (.tmp 7) 3⟩])
      (.seq (.cond (.tmp 9) (.skip)
        (.exit 0))
       (.seq (.block 1 (.seq (.reg [⟨none, some 10, .indexAddr 91 (.tmp 6) (.tmp 8)⟩,
           ⟨none, some 11, .load 41 (.tmp 10)⟩,
           ⟨none, some 5, .alloc 41⟩,
           ⟨none, none, .store 41 (.tmp 5) (.tmp 11)⟩])
          (.block 2 (.seq (.reg [⟨none, some 13, .load 9 (.tmp 2)⟩,
             ⟨none, some 14, .fieldAddr 41 (.tmp 5) 0⟩,
             ⟨none, some 15, .load 9 (.tmp 14)⟩,
             ⟨none, some 16, .call { callee := (.value (.func 117)), args := #[(.tmp 13), (.tmp 15)], argTypes := #[9, 9] }⟩,
             ⟨none, some 17, .unOp .not 4 (.tmp 16)⟩,
             ⟨none, some 12, .assign (.tmp 17)⟩])
            (.cond (.tmp 12) (.exit 1)
             (.seq (.reg [⟨none, some 19, .move (.tmp 0)⟩,
               ⟨none, some 20, .load 41 (.tmp 5)⟩,
               ⟨none, some 21, .call { callee := (.value (.tmp 19)), args := #[(.tmp 20)], argTypes := #[41] }⟩,
               ⟨none, some 22, .unOp .not 4 (.tmp 21)⟩,
               ⟨none, some 18, .assign (.tmp 22)⟩])
              (.cond (.tmp 18) (.exit 0)
               (.skip))))))))
        (.reg [⟨none, some 23, .binOp .add 3 (.tmp 8) (.const (.int .i64 1)) 3⟩,
         ⟨none, some 8, .move (.tmp 23)⟩]))))))))
theorem com116 : com Tryz.prog 24 ((Tryz.f116.body).getD .skip) = g116 := by kernel_rfl
theorem enter116 {args : List Value} {h : Heap} {R : Value → Heap → Prop} (hN : args.length ≤ 24) (q : AWC Tryz.prog 24 g116 (RetQ Tryz.prog [] R) (frOf args) h) : ACall Tryz.prog 116 args h R :=
  C_call Tryz.func116 (by kernel_rfl) com116 (by kernel_rfl) (by kernel_rfl) hN q

/-- bindle/member.In -/
noncomputable def g117 : AC :=
 .seq (.reg [⟨none, some 4, .assign (.const (.bool false))⟩])
 (.seq (.reg [⟨none, some 8, .move (.tmp 0)⟩,
   ⟨none, some 9, .move (.tmp 1)⟩,
   ⟨none, some 10, .call { callee := (.value (.func 170)), args := #[(.tmp 8), (.tmp 9)], argTypes := #[9, 9] }⟩,
   ⟨none, some 7, .move (.tmp 10)⟩,
   ⟨none, some 11, .extract (.tmp 7) 0⟩,
   ⟨none, some 12, .extract (.tmp 7) 1⟩,
   ⟨none, some 5, .assign (.tmp 11)⟩,
   ⟨none, some 6, .assign (.tmp 12)⟩])
  (.seq (.reg [⟨none, some 13, .move (.tmp 6)⟩,
    ⟨none, some 4, .assign (.tmp 13)⟩])
   (.ret)))
theorem com117 : com Tryz.prog 14 ((Tryz.f117.body).getD .skip) = g117 := by kernel_rfl
theorem enter117 {args : List Value} {h : Heap} {R : Value → Heap → Prop} (hN : args.length ≤ 14) (q : AWC Tryz.prog 14 g117 (RetQ Tryz.prog [.tmp 4] R) (frOf args) h) : ACall Tryz.prog 117 args h R :=
  C_call Tryz.func117 (by kernel_rfl) com117 (by kernel_rfl) (by kernel_rfl) hN q

/-- ( *bindle/names.Dir).Lookup -/
noncomputable def g118 : AC :=
 .seq (.reg [⟨none, some 4, .assign (.const (.int .i64 0))⟩,
  ⟨none, some 5, .assign (.const (.bool false))⟩])
 (.seq (.seq (.reg [⟨none, some 8, .move (.tmp 0)⟩,
    ⟨none, some 9, .binOp .eql 243 (.tmp 8) (.const (.pointer none)) 243⟩])
   (.cond (.tmp 9) (.seq (.reg [⟨none, some 4, .assign (.const (.int .i64 0))⟩,
      ⟨none, some 5, .assign (.const (.bool false))⟩])
     (.ret))
    (.skip)))
  (.seq (.reg [⟨none, some 11, .move (.tmp 0)⟩,
    ⟨none, some 12, .nilCheck (.tmp 11)⟩,
    ⟨none, some 13, .fieldAddr 74 (.tmp 12) 0⟩,
    ⟨none, some 14, .load 71 (.tmp 13)⟩,
    ⟨none, some 15, .move (.tmp 1)⟩,
    ⟨none, some 16, .lookup 71 (.tmp 14) (.tmp 15) true⟩,
    ⟨none, some 10, .move (.tmp 16)⟩,
    ⟨none, some 17, .extract (.tmp 10) 0⟩,
    ⟨none, some 18, .extract (.tmp 10) 1⟩,
    ⟨none, some 6, .assign (.tmp 17)⟩,
    ⟨none, some 7, .assign (.tmp 18)⟩])
   (.seq (.reg [⟨none, some 19, .move (.tmp 6)⟩,
     ⟨none, some 20, .move (.tmp 7)⟩,
     ⟨none, some 4, .assign (.tmp 19)⟩,
     ⟨none, some 5, .assign (.tmp 20)⟩])
    (.ret))))
theorem com118 : com Tryz.prog 21 ((Tryz.f118.body).getD .skip) = g118 := by kernel_rfl
theorem enter118 {args : List Value} {h : Heap} {R : Value → Heap → Prop} (hN : args.length ≤ 21) (q : AWC Tryz.prog 21 g118 (RetQ Tryz.prog [.tmp 4, .tmp 5] R) (frOf args) h) : ACall Tryz.prog 118 args h R :=
  C_call Tryz.func118 (by kernel_rfl) com118 (by kernel_rfl) (by kernel_rfl) hN q

/-- ( *bindle/crashfs.FS).call -/
noncomputable def g119 : AC :=
 .seq (.reg [⟨none, some 2, .assign (.const (.int .i64 0))⟩])
 (.scope (.seq (.seq (.reg [⟨none, some 6, .move (.tmp 0)⟩,
     ⟨none, some 7, .binOp .eql 29 (.tmp 6) (.const (.pointer none)) 29⟩])
    (.cond (.tmp 7) (.seq (.reg [⟨none, some 2, .assign (.const (.int .i64 1))⟩])
      (.ret))
     (.skip)))
   (.seq (.reg [⟨none, some 8, .move (.tmp 0)⟩,
     ⟨none, some 9, .nilCheck (.tmp 8)⟩,
     ⟨none, some 10, .fieldAddr 77 (.tmp 9) 3⟩,
     ⟨none, some 11, .load 3 (.tmp 10)⟩,
     ⟨none, some 12, .binOp .add 3 (.tmp 11) (.const (.int .i64 1)) 3⟩,
     ⟨none, some 13, .nilCheck (.tmp 8)⟩,
     ⟨none, some 14, .fieldAddr 77 (.tmp 13) 3⟩,
     ⟨none, none, .store 3 (.tmp 14) (.tmp 12)⟩])
    (.seq (.reg [⟨none, some 3, .assign (.const (.int .i64 0))⟩])
     (.seq (.label 0)
      (.seq (.seq (.reg [⟨none, some 15, .move (.tmp 0)⟩,
         ⟨none, some 16, .nilCheck (.tmp 15)⟩,
         ⟨none, some 17, .fieldAddr 77 (.tmp 16) 5⟩,
         ⟨none, some 18, .load 75 (.tmp 17)⟩,
         ⟨none, some 19, .call { callee := (.builtin .len), args := #[(.tmp 18)], argTypes := #[75] }⟩,
         ⟨none, some 20, .move (.const (.int .i64 0))⟩])
        (.block 0 (.loop (.seq (.reg [⟨none, some 21, .binOp .lss 3 (.tmp 20) (.tmp 19) 3⟩])
           (.seq (.cond (.tmp 21) (.skip)
             (.exit 0))
            (.seq (.block 1 (.seq (.reg [⟨none, some 22, .indexAddr 75 (.tmp 18) (.tmp 20)⟩,
                ⟨none, some 23, .load 3 (.tmp 22)⟩,
                ⟨none, some 5, .assign (.tmp 23)⟩])
               (.seq (.reg [⟨none, some 24, .move (.tmp 5)⟩,
                 ⟨none, some 25, .move (.tmp 0)⟩,
                 ⟨none, some 26, .nilCheck (.tmp 25)⟩,
                 ⟨none, some 27, .fieldAddr 77 (.tmp 26) 3⟩,
                 ⟨none, some 28, .load 3 (.tmp 27)⟩,
                 ⟨none, some 29, .binOp .eql 3 (.tmp 24) (.tmp 28) 3⟩])
                (.cond (.tmp 29) (.seq (.reg [⟨none, some 30, .move (.tmp 0)⟩,
                   ⟨none, some 31, .nilCheck (.tmp 30)⟩,
                   ⟨none, some 32, .fieldAddr 77 (.tmp 31) 4⟩,
                   ⟨none, some 33, .load 3 (.tmp 32)⟩,
                   ⟨none, some 34, .binOp .add 3 (.tmp 33) (.const (.int .i64 1)) 3⟩,
                   ⟨none, some 35, .nilCheck (.tmp 30)⟩,
                   ⟨none, some 36, .fieldAddr 77 (.tmp 35) 4⟩,
                   ⟨none, none, .store 3 (.tmp 36) (.tmp 34)⟩])
                  (.seq (.reg [⟨none, some 3, .assign (.const (.int .i64 10))⟩])
                   (.exit 0)))
                 (.skip)))))
             (.reg [⟨none, some 37, .binOp .add 3 (.tmp 20) (.const (.int .i64 1)) 3⟩,
              ⟨none, some 20, .move (.tmp 37)⟩])))))))
       (.seq (.reg [⟨none, some 38, .move (.tmp 3)⟩,
         ⟨none, some 2, .assign (.tmp 38)⟩])
        (.ret))))))))
theorem com119 : com Tryz.prog 39 ((Tryz.f119.body).getD .skip) = g119 := by kernel_rfl
theorem enter119 {args : List Value} {h : Heap} {R : Value → Heap → Prop} (hN : args.length ≤ 39) (q : AWC Tryz.prog 39 g119 (RetQ Tryz.prog [.tmp 2] R) (frOf args) h) : ACall Tryz.prog 119 args h R :=
  C_call Tryz.func119 (by kernel_rfl) com119 (by kernel_rfl) (by kernel_rfl) hN q

/-- ( *bindle/crashfs.FS).get -/
noncomputable def g120 : AC :=
 .seq (.reg [⟨none, some 4, .assign (.const (.pointer none))⟩])
 (.seq (.seq (.reg [⟨none, some 5, .move (.tmp 0)⟩,
    ⟨none, some 6, .binOp .eql 29 (.tmp 5) (.const (.pointer none)) 29⟩,
    ⟨none, some 7, .move (.tmp 6)⟩,
    ⟨some (some 7, false), some 8, .move (.tmp 1)⟩,
    ⟨some (some 7, false), some 9, .binOp .lss 3 (.tmp 8) (.const (.int .i64 0)) 3⟩,
    ⟨none, some 10, .pick (.tmp 7) (.const (.bool true)) (.tmp 9)⟩,
    ⟨none, some 11, .move (.tmp 10)⟩,
    ⟨some (some 11, false), some 12, .move (.tmp 1)⟩,
    ⟨some (some 11, false), some 13, .move (.tmp 0)⟩,
    ⟨some (some 11, false), some 14, .nilCheck (.tmp 13)⟩,
    ⟨some (some 11, false), some 15, .fieldAddr 77 (.tmp 14) 0⟩,
    ⟨some (some 11, false), some 16, .load 70 (.tmp 15)⟩,
    ⟨some (some 11, false), some 17, .call { callee := (.builtin .len), args := #[(.tmp 16)], argTypes := #[70] }⟩,
    ⟨some (some 11, false), some 18, .binOp .geq 3 (.tmp 12) (.tmp 17) 3⟩,
    ⟨none, some 19, .pick (.tmp 11) (.const (.bool true)) (.tmp 18)⟩])
   (.cond (.tmp 19) (.seq (.reg [⟨none, some 4, .assign (.const (.pointer none))⟩])
     (.ret))
    (.skip)))
  (.seq (.reg [⟨none, some 20, .move (.tmp 0)⟩,
    ⟨none, some 21, .nilCheck (.tmp 20)⟩,
    ⟨none, some 22, .fieldAddr 77 (.tmp 21) 0⟩,
    ⟨none, some 23, .load 70 (.tmp 22)⟩,
    ⟨none, some 24, .move (.tmp 1)⟩,
    ⟨none, some 25, .indexAddr 70 (.tmp 23) (.tmp 24)⟩,
    ⟨none, some 26, .load 190 (.tmp 25)⟩,
    ⟨none, some 4, .assign (.tmp 26)⟩])
   (.ret)))
theorem com120 : com Tryz.prog 27 ((Tryz.f120.body).getD .skip) = g120 := by kernel_rfl
theorem enter120 {args : List Value} {h : Heap} {R : Value → Heap → Prop} (hN : args.length ≤ 27) (q : AWC Tryz.prog 27 g120 (RetQ Tryz.prog [.tmp 4] R) (frOf args) h) : ACall Tryz.prog 120 args h R :=
  C_call Tryz.func120 (by kernel_rfl) com120 (by kernel_rfl) (by kernel_rfl) hN q

/-- ( *bindle/disk.Disk).Sync -/
noncomputable def g121 : AC :=
 .seq (.seq (.reg [⟨none, some 3, .move (.tmp 0)⟩,
   ⟨none, some 4, .binOp .eql 190 (.tmp 3) (.const (.pointer none)) 190⟩])
  (.cond (.tmp 4) (.ret)
   (.skip)))
 (.seq (.seq (.reg [⟨none, some 5, .move (.tmp 0)⟩,
    ⟨none, some 6, .nilCheck (.tmp 5)⟩,
    ⟨none, some 7, .fieldAddr 247 (.tmp 6) 1⟩,
    ⟨none, some 8, .load 244 (.tmp 7)⟩,
    ⟨none, some 9, .call { callee := (.builtin .len), args := #[(.tmp 8)], argTypes := #[244] }⟩,
    ⟨none, some 10, .move (.const (.int .i64 0))⟩])
   (.block 0 (.loop (.seq (.reg [⟨none, some 11, .binOp .lss 3 (.tmp 10) (.tmp 9) 3⟩])
      (.seq (.cond (.tmp 11) (.skip)
        (.exit 0))
       (.seq (.block 1 (.seq (.reg [⟨none, some 12, .move (.tmp 10)⟩,
           ⟨none, some 2, .assign (.tmp 12)⟩])
          (.draw [⟨⟨none, some 13, .move (.tmp 0)⟩, []⟩,
      ⟨⟨none, some 14, .nilCheck (.tmp 13)⟩, []⟩,
      ⟨⟨none, some 15, .fieldAddr 247 (.tmp 14) 1⟩, []⟩,
      ⟨⟨none, some 16, .load 244 (.tmp 15)⟩, []⟩,
      ⟨⟨none, some 17, .move (.tmp 2)⟩, []⟩,
      ⟨⟨none, some 19, .move (.tmp 0)⟩, []⟩,
      ⟨⟨none, some 20, .move (.tmp 2)⟩, []⟩,
      ⟨⟨none, some 21, .call { callee := (.value (.func 171)), args := #[(.tmp 19), (.tmp 20)], argTypes := #[190, 3] }⟩, [⟨none, some 16, .load 244 (.tmp 15)⟩]⟩,
      ⟨⟨none, some 18, .buildSlice 22 0 #[]⟩, []⟩,
      ⟨⟨none, some 22, .call { callee := (.builtin .append), args := #[(.tmp 18), (.tmp 21)], argTypes := #[22, 22] }⟩, [⟨none, some 16, .load 244 (.tmp 15)⟩]⟩,
      ⟨⟨none, some 23, .indexAddr 244 (.tmp 16) (.tmp 17)⟩, []⟩,
      ⟨⟨none, none, .store 22 (.tmp 23) (.tmp 22)⟩, []⟩])))
        (.reg [⟨none, some 24, .binOp .add 3 (.tmp 10) (.const (.int .i64 1)) 3⟩,
         ⟨none, some 10, .move (.tmp 24)⟩])))))))
  (.reg [⟨none, some 25, .move (.tmp 0)⟩,
   ⟨none, some 26, .nilCheck (.tmp 25)⟩,
   ⟨none, some 27, .fieldAddr 247 (.tmp 26) 2⟩,
   ⟨none, none, .store 245 (.tmp 27) (.const (.slice none 0 0))⟩]))
theorem com121 : com Tryz.prog 28 ((Tryz.f121.body).getD .skip) = g121 := by kernel_rfl
theorem enter121 {args : List Value} {h : Heap} {R : Value → Heap → Prop} (hN : args.length ≤ 28) (q : AWC Tryz.prog 28 g121 (RetQ Tryz.prog [] R) (frOf args) h) : ACall Tryz.prog 121 args h R :=
  C_call Tryz.func121 (by kernel_rfl) com121 (by kernel_rfl) (by kernel_rfl) hN q

/-- ( *bindle/names.Dir).Sync -/
noncomputable def g122 : AC :=
 .seq (.reg [⟨none, some 2, .move (.tmp 0)⟩,
  ⟨none, some 3, .binOp .neq 243 (.tmp 2) (.const (.pointer none)) 243⟩])
 (.cond (.tmp 3) (.reg [⟨none, some 4, .move (.tmp 0)⟩,
   ⟨none, some 5, .move (.tmp 0)⟩,
   ⟨none, some 6, .move (.tmp 0)⟩,
   ⟨none, some 7, .nilCheck (.tmp 6)⟩,
   ⟨none, some 8, .fieldAddr 74 (.tmp 7) 0⟩,
   ⟨none, some 9, .load 71 (.tmp 8)⟩,
   ⟨none, some 10, .call { callee := (.value (.func 172)), args := #[(.tmp 9)], argTypes := #[71] }⟩,
   ⟨none, some 11, .nilCheck (.tmp 4)⟩,
   ⟨none, some 12, .fieldAddr 74 (.tmp 11) 1⟩,
   ⟨none, none, .store 71 (.tmp 12) (.tmp 10)⟩,
   ⟨none, some 13, .nilCheck (.tmp 5)⟩,
   ⟨none, some 14, .fieldAddr 74 (.tmp 13) 2⟩,
   ⟨none, none, .store 72 (.tmp 14) (.const (.slice none 0 0))⟩])
  (.skip))
theorem com122 : com Tryz.prog 15 ((Tryz.f122.body).getD .skip) = g122 := by kernel_rfl
theorem enter122 {args : List Value} {h : Heap} {R : Value → Heap → Prop} (hN : args.length ≤ 15) (q : AWC Tryz.prog 15 g122 (RetQ Tryz.prog [] R) (frOf args) h) : ACall Tryz.prog 122 args h R :=
  C_call Tryz.func122 (by kernel_rfl) com122 (by kernel_rfl) (by kernel_rfl) hN q

/-- ( *bindle/disk.Disk).Read -/
noncomputable def g123 : AC :=
 .seq (.reg [⟨none, some 6, .assign (.const (.slice none 0 0))⟩,
  ⟨none, some 7, .assign (.const (.int .i64 0))⟩])
 (.seq (.seq (.reg [⟨none, some 9, .move (.tmp 0)⟩,
    ⟨none, some 10, .binOp .eql 190 (.tmp 9) (.const (.pointer none)) 190⟩,
    ⟨none, some 11, .move (.tmp 10)⟩,
    ⟨some (some 11, false), some 12, .move (.tmp 1)⟩,
    ⟨some (some 11, false), some 13, .move (.tmp 2)⟩,
    ⟨some (some 11, false), some 14, .call { callee := (.value (.func 173)), args := #[(.tmp 12), (.tmp 13)], argTypes := #[3, 3] }⟩,
    ⟨some (some 11, false), some 15, .unOp .not 4 (.tmp 14)⟩,
    ⟨none, some 16, .pick (.tmp 11) (.const (.bool true)) (.tmp 15)⟩])
   (.cond (.tmp 16) (.seq (.reg [⟨none, some 6, .assign (.const (.slice none 0 0))⟩,
      ⟨none, some 7, .assign (.const (.int .i64 1))⟩])
     (.ret))
    (.skip)))
  (.seq (.reg [⟨none, some 17, .move (.tmp 2)⟩,
    ⟨none, some 18, .makeSlice 22 (.tmp 17) (.tmp 17)⟩,
    ⟨none, some 8, .assign (.tmp 18)⟩])
   (.seq (.seq (.reg [⟨none, some 19, .move (.tmp 1)⟩,
      ⟨none, some 20, .move (.tmp 0)⟩,
      ⟨none, some 21, .nilCheck (.tmp 20)⟩,
      ⟨none, some 22, .fieldAddr 247 (.tmp 21) 0⟩,
      ⟨none, some 23, .load 22 (.tmp 22)⟩,
      ⟨none, some 24, .call { callee := (.builtin .len), args := #[(.tmp 23)], argTypes := #[22] }⟩,
      ⟨none, some 25, .binOp .lss 3 (.tmp 19) (.tmp 24) 3⟩])
     (.cond (.tmp 25) (.reg [⟨none, some 26, .move (.tmp 8)⟩,
       ⟨none, some 27, .move (.tmp 0)⟩,
       ⟨none, some 28, .nilCheck (.tmp 27)⟩,
       ⟨none, some 29, .fieldAddr 247 (.tmp 28) 0⟩,
       ⟨none, some 30, .load 22 (.tmp 29)⟩,
       ⟨none, some 31, .move (.tmp 1)⟩,
       ⟨none, some 32, .slice 22 (.tmp 30) (some (.tmp 31)) none none⟩,
       ⟨none, some 33, .call { callee := (.builtin .copy), args := #[(.tmp 26), (.tmp 32)], argTypes := #[22, 22] }⟩])
      (.skip)))
    (.seq (.reg [⟨none, some 34, .move (.tmp 8)⟩,
      ⟨none, some 6, .assign (.tmp 34)⟩,
      ⟨none, some 7, .assign (.const (.int .i64 0))⟩])
     (.ret)))))
theorem com123 : com Tryz.prog 35 ((Tryz.f123.body).getD .skip) = g123 := by kernel_rfl
theorem enter123 {args : List Value} {h : Heap} {R : Value → Heap → Prop} (hN : args.length ≤ 35) (q : AWC Tryz.prog 35 g123 (RetQ Tryz.prog [.tmp 6, .tmp 7] R) (frOf args) h) : ACall Tryz.prog 123 args h R :=
  C_call Tryz.func123 (by kernel_rfl) com123 (by kernel_rfl) (by kernel_rfl) hN q

/-- ( *bindle/disk.Disk).Size -/
noncomputable def g124 : AC :=
 .seq (.reg [⟨none, some 2, .assign (.const (.int .i64 0))⟩])
 (.seq (.seq (.reg [⟨none, some 3, .move (.tmp 0)⟩,
    ⟨none, some 4, .binOp .eql 190 (.tmp 3) (.const (.pointer none)) 190⟩])
   (.cond (.tmp 4) (.seq (.reg [⟨none, some 2, .assign (.const (.int .i64 0))⟩])
     (.ret))
    (.skip)))
  (.seq (.reg [⟨none, some 5, .move (.tmp 0)⟩,
    ⟨none, some 6, .nilCheck (.tmp 5)⟩,
    ⟨none, some 7, .fieldAddr 247 (.tmp 6) 0⟩,
    ⟨none, some 8, .load 22 (.tmp 7)⟩,
    ⟨none, some 9, .call { callee := (.builtin .len), args := #[(.tmp 8)], argTypes := #[22] }⟩,
    ⟨none, some 10, .binOp .quo 3 (.tmp 9) (.const (.int .i64 512)) 3⟩,
    ⟨none, some 2, .assign (.tmp 10)⟩])
   (.ret)))
theorem com124 : com Tryz.prog 11 ((Tryz.f124.body).getD .skip) = g124 := by kernel_rfl
theorem enter124 {args : List Value} {h : Heap} {R : Value → Heap → Prop} (hN : args.length ≤ 11) (q : AWC Tryz.prog 11 g124 (RetQ Tryz.prog [.tmp 2] R) (frOf args) h) : ACall Tryz.prog 124 args h R :=
  C_call Tryz.func124 (by kernel_rfl) com124 (by kernel_rfl) (by kernel_rfl) hN q

/-- bindle/slot.Choose -/
noncomputable def g125 : AC :=
 .seq (.reg [⟨none, some 4, .alloc 141⟩,
  ⟨none, some 5, .assign (.const (.int .i64 0))⟩])
 (.seq (.reg [⟨none, some 11, .build 141 #[]⟩,
   ⟨none, some 6, .alloc 141⟩,
   ⟨none, none, .store 141 (.tmp 6) (.tmp 11)⟩,
   ⟨none, some 7, .assign (.const (.int .i64 3))⟩])
  (.seq (.seq (.reg [⟨none, some 8, .assign (.const (.int .i64 0))⟩])
    (.block 0 (.loop (.seq (.seq (.reg [⟨none, some 12, .move (.tmp 8)⟩,
         ⟨none, some 13, .binOp .leq 3 (.tmp 12) (.const (.int .i64 512)) 3⟩,
         ⟨none, some 14, .move (.tmp 13)⟩,
         ⟨some (some 14, true), some 15, .move (.tmp 8)⟩,
         ⟨some (some 14, true), some 16, .move (.tmp 1)⟩,
         ⟨some (some 14, true), some 17, .call { callee := (.builtin .len), args := #[(.tmp 16)], argTypes := #[22] }⟩,
         ⟨some (some 14, true), some 18, .binOp .sub 3 (.tmp 17) (.const (.int .i64 512)) 3⟩,
         ⟨some (some 14, true), some 19, .binOp .leq 3 (.tmp 15) (.tmp 18) 3⟩,
         ⟨none, some 20, .pick (.tmp 14) (.tmp 19) (.const (.bool false))⟩])
        (.cond (.tmp 20) (.skip)
         (.exit 0)))
       (.seq (.block 1 (.seq (.reg [⟨none, some 24, .move (.tmp 0)⟩,
           ⟨none, some 25, .move (.tmp 1)⟩,
           ⟨none, some 26, .move (.tmp 8)⟩,
           ⟨none, some 27, .move (.tmp 8)⟩,
           ⟨none, some 28, .binOp .add 3 (.tmp 27) (.const (.int .i64 512)) 3⟩,
           ⟨none, some 29, .slice 22 (.tmp 25) (some (.tmp 26)) (some (.tmp 28)) none⟩,
           ⟨none, some 30, .call { callee := (.value (.func 174)), args := #[(.tmp 24), (.tmp 29)], argTypes := #[94, 22] }⟩,
           ⟨none, some 23, .move (.tmp 30)⟩,
           ⟨none, some 31, .extract (.tmp 23) 0⟩,
           ⟨none, some 32, .extract (.tmp 23) 1⟩,
           ⟨none, some 9, .alloc 141⟩,
           ⟨none, none, .store 141 (.tmp 9) (.tmp 31)⟩,
           ⟨none, some 10, .assign (.tmp 32)⟩])
          (.seq (.reg [⟨none, some 33, .move (.tmp 10)⟩,
            ⟨none, some 34, .binOp .eql 32 (.tmp 33) (.const (.int .i64 0)) 32⟩,
            ⟨none, some 35, .move (.tmp 34)⟩,
            ⟨some (some 35, true), some 36, .move (.tmp 7)⟩,
            ⟨some (some 35, true), some 37, .binOp .neq 32 (.tmp 36) (.const (.int .i64 0)) 32⟩,
            ⟨some (some 35, true), some 38, .move (.tmp 37)⟩,
            ⟨some (some 38, false), some 39, .fieldAddr 141 (.tmp 9) 0⟩,
            ⟨some (some 38, false), some 40, .load 3 (.tmp 39)⟩,
            ⟨some (some 38, false), some 41, .fieldAddr 141 (.tmp 6) 0⟩,
            ⟨some (some 38, false), some 42, .load 3 (.tmp 41)⟩,
            ⟨some (some 38, false), some 43, .binOp .gtr 3 (.tmp 40) (.tmp 42) 3⟩,
            ⟨some (some 35, true), some 44, .pick (.tmp 38) (.const (.bool true)) (.tmp 43)⟩,
            ⟨none, some 45, .pick (.tmp 35) (.tmp 44) (.const (.bool false))⟩])
           (.cond (.tmp 45) (.reg [⟨none, some 46, .load 141 (.tmp 9)⟩,
             ⟨none, none, .store 141 (.tmp 6) (.tmp 46)⟩,
             ⟨none, some 7, .assign (.const (.int .i64 0))⟩])
            (.skip)))))
        (.reg [⟨none, some 21, .move (.tmp 8)⟩,
         ⟨none, some 22, .binOp .add 3 (.tmp 21) (.const (.int .i64 512)) 3⟩,
         ⟨none, some 8, .assign (.tmp 22)⟩]))))))
   (.seq (.reg [⟨none, some 47, .load 141 (.tmp 6)⟩,
     ⟨none, some 48, .move (.tmp 7)⟩,
     ⟨none, none, .store 141 (.tmp 4) (.tmp 47)⟩,
     ⟨none, some 5, .assign (.tmp 48)⟩])
    (.ret))))
theorem com125 : com Tryz.prog 49 ((Tryz.f125.body).getD .skip) = g125 := by kernel_rfl
theorem enter125 {args : List Value} {h : Heap} {R : Value → Heap → Prop} (hN : args.length ≤ 49) (q : AWC Tryz.prog 49 g125 (RetQ Tryz.prog [.cell 4 141, .tmp 5] R) (frOf args) h) : ACall Tryz.prog 125 args h R :=
  C_call Tryz.func125 (by kernel_rfl) com125 (by kernel_rfl) (by kernel_rfl) hN q

end Go.Proofs.Fx
